/- PE, part 6: comparisons with nil, conversions, ranges over strings. -/
import Derived.Test.YtpmjpieiajdcgaaGreatPeOps3
import Derived.Laws.BytesString
import Derived.Laws.Cover4
import Derived.Lib.UnsafeStr
namespace Go.Proofs.YtpmjpieiajdcgaaGreat
open Go Go.RowKit
noncomputable section

section
variable {P : Program} {B : Nat} {w0 w : World} {μ : Mu} {H : Hp} {ρ : Rho} {ρ' : Operand → Value} {o : Oper} {r : AR}

/-! ## '==' where an address stands -/

def eqV (P : Program) (t : TypeId) (x y : Value) : Option Bool :=
  match P.underlying t with
  | some (.pointer el) =>
    match x, y with
    | .pointer none, .pointer (some _) | .pointer (some _), .pointer none => some false
    | .pointer (some ⟨i, p, none⟩), .pointer (some ⟨j, q, none⟩) =>
      if i == j then match P.info? el with
        | some ti => if ti.size == 0 then none else some (p == q)
        | none => none
      else none
    | _, _ => none
  | some (.slice _) =>
    match x, y with
    | .slice none _ _, .slice (some _) _ _ | .slice (some _) _ _, .slice none _ _ => some false
    | _, _ => none
  | some (.interface _) =>
    match x, y with
    | .nilIface, .iface _ _ | .iface _ _, .nilIface => some false
    | _, _ => none
  | some (.func _ _ _) =>
    match x, y with
    | .nilFunc, .func _ _ _ | .func _ _ _, .nilFunc => some false
    | _, _ => none
  | _ => none

theorem VRel.sliceSome_inv {μ : Mu} {a : Addr} {n c : Nat} {v : Value} (h : VRel μ (.slice (some a) n c) v) : ∃ a' c', v = .slice (some a') n c' := by
  cases h with
  | flat h => simp [isFlat] at h
  | sl h hc hR => exact ⟨_, _, rfl⟩
  | slx h => exact ⟨_, _, rfl⟩
  | sle h hp => exact ⟨_, _, rfl⟩
theorem VRel.ptrSome_inv {μ : Mu} {a : Addr} {v : Value} (h : VRel μ (.pointer (some a)) v) : ∃ a', v = .pointer (some a') := by
  cases h with
  | flat h => simp [isFlat] at h
  | ptr h => exact ⟨_, rfl⟩
theorem VRel.iface_inv {μ : Mu} {t : TypeId} {u v : Value} (h : VRel μ (.iface t u) v) : ∃ u', v = .iface t u' ∧ VRel μ u u' := by
  cases h with
  | flat h => simp [isFlat] at h
  | iface h => exact ⟨_, rfl, h⟩
theorem VRel.func_inv {μ : Mu} {f : Fn} {a b : Array Value} {v : Value} (h : VRel μ (.func f a b) v) : ∃ a' b', v = .func f a' b' ∧ LRel μ a.toList a'.toList ∧ LRel μ b.toList b'.toList := by
  cases h with
  | flat h => simp [isFlat] at h
  | func h1 h2 h3 h4 => exact ⟨_, _, rfl, ⟨h1, h2⟩, ⟨h3, h4⟩⟩
theorem VRel.ptrNone_inv {μ : Mu} {v : Value} (h : VRel μ (.pointer none) v) : v = .pointer none := h.isFlat_eq rfl
theorem VRel.sliceNone_inv {μ : Mu} {n c : Nat} {v : Value} (h : VRel μ (.slice none n c) v) : v = .slice none n c := h.isFlat_eq rfl
theorem VRel.nilIface_inv {μ : Mu} {v : Value} (h : VRel μ .nilIface v) : v = .nilIface := h.isFlat_eq rfl
theorem VRel.nilFunc_inv {μ : Mu} {v : Value} (h : VRel μ .nilFunc v) : v = .nilFunc := h.isFlat_eq rfl

theorem eqV_run {t : TypeId} {x y x' y' : Value} {b : Bool} (hx : VRel μ x x') (hy : VRel μ y y') (he : eqV P t x y = some b) (w : World) :
    (∀ d, (Op.equalIn (d + 1) t x' y').run P w = .ok b w) ∧ ∀ op ox oy, (eqGuard op t ox oy x' y').run P w = .ok () w ∧
      ((op = .eql → binOp op t x' y' = (do pure (.bool (← Op.equal t x' y')))) ∧ (op = .neq → binOp op t x' y' = (do pure (.bool (!(← Op.equal t x' y')))))) := by
  unfold eqV at he
  split at he
  · rename_i el hu
    split at he
    · rename_i a
      cases he
      obtain ⟨a', rfl⟩ := hy.ptrSome_inv
      rw [hx.ptrNone_inv]
      refine ⟨fun d => ?_, fun op ox oy => ⟨by cases op <;> simp [eqGuard], fun e => by subst e; rfl, fun e => by subst e; rfl⟩⟩
      simp [Op.equalIn, run_und hu]
    · rename_i a
      cases he
      obtain ⟨a', rfl⟩ := hx.ptrSome_inv
      rw [hy.ptrNone_inv]
      refine ⟨fun d => ?_, fun op ox oy => ⟨by cases op <;> simp [eqGuard], fun e => by subst e; rfl, fun e => by subst e; rfl⟩⟩
      simp [Op.equalIn, run_und hu]
    · rename_i i p j q
      split at he
      · rename_i hij
        have hij : i = j := by simpa using hij
        subst hij
        split at he
        · rename_i ti hti
          split at he
          · cases he
          · rename_i hz
            have hz : ti.size ≠ 0 := by simpa using hz
            simp only [Option.some.injEq] at he
            subst he
            obtain ⟨l, hl, rfl⟩ := hx.ptr_inv
            obtain ⟨l2, hl2, rfl⟩ := hy.ptr_inv
            rw [hl] at hl2; cases hl2
            refine ⟨fun d => ?_, fun op ox oy => ⟨by cases op <;> simp [eqGuard], fun e => by subst e; rfl, fun e => by subst e; rfl⟩⟩
            have : ((⟨l.b, p + l.s, none⟩ : Addr) == ⟨l.b, q + l.s, none⟩) = (p == q) := by
              by_cases hpq : p = q
              · subst hpq; simp
              · rw [beq_eq_false_iff_ne.2 hpq]
                apply beq_eq_false_iff_ne.2
                simp; omega
            simp [Op.equalIn, run_und hu, run_sz hti, hz, sameAddr, this]
        · cases he
      · cases he
    · cases he
  · rename_i el hu
    split at he
    · cases he
      obtain ⟨a', c', rfl⟩ := hy.sliceSome_inv
      rw [hx.sliceNone_inv]
      refine ⟨fun d => ?_, fun op ox oy => ⟨by cases op <;> simp [eqGuard], fun e => by subst e; rfl, fun e => by subst e; rfl⟩⟩
      simp [Op.equalIn, run_und hu]
    · cases he
      obtain ⟨a', c', rfl⟩ := hx.sliceSome_inv
      rw [hy.sliceNone_inv]
      refine ⟨fun d => ?_, fun op ox oy => ⟨by cases op <;> simp [eqGuard], fun e => by subst e; rfl, fun e => by subst e; rfl⟩⟩
      simp [Op.equalIn, run_und hu]
    · cases he
  · rename_i ms hu
    split at he
    · cases he
      obtain ⟨u', rfl, _⟩ := hy.iface_inv
      rw [hx.nilIface_inv]
      refine ⟨fun d => ?_, fun op ox oy => ⟨by cases op <;> simp [eqGuard], fun e => by subst e; rfl, fun e => by subst e; rfl⟩⟩
      simp [Op.equalIn, run_und hu]
    · cases he
      obtain ⟨u', rfl, _⟩ := hx.iface_inv
      rw [hy.nilIface_inv]
      refine ⟨fun d => ?_, fun op ox oy => ⟨by cases op <;> simp [eqGuard], fun e => by subst e; rfl, fun e => by subst e; rfl⟩⟩
      simp [Op.equalIn, run_und hu]
    · cases he
  · rename_i hu
    split at he
    · cases he
      obtain ⟨a', b', rfl, _⟩ := hy.func_inv
      rw [hx.nilFunc_inv]
      refine ⟨fun d => ?_, fun op ox oy => ⟨by cases op <;> simp [eqGuard], fun e => by subst e; rfl, fun e => by subst e; rfl⟩⟩
      simp [Op.equalIn, run_und hu]
    · cases he
      obtain ⟨a', b', rfl, _⟩ := hx.func_inv
      rw [hy.nilFunc_inv]
      refine ⟨fun d => ?_, fun op ox oy => ⟨by cases op <;> simp [eqGuard], fun e => by subst e; rfl, fun e => by subst e; rfl⟩⟩
      simp [Op.equalIn, run_und hu]
    · cases he
  · cases he

def eqA (P : Program) (ρ : Rho) (op : BinOp) (t : TypeId) (x y : Operand) (H : Hp) : Option AR :=
  match ρ x, ρ y with
  | some a, some b =>
    match op with
    | .eql => match eqV P t a b with
      | some c => some (.val (.bool c) H)
      | none => none
    | .neq => match eqV P t a b with
      | some c => some (.val (.bool !c) H)
      | none => none
    | _ => none
  | _, _ => none

theorem eqA_sound {op : BinOp} {t yt : TypeId} {x y : Operand} (ho : o.op = .binOp op t x y yt) (h : Sim B w0 μ H w) (hρ : RhoRel μ ρ ρ') (he : eqA P ρ op t x y H = some r) : ARel B w0 μ r ((execOp ρ' o).run P w) := by
  unfold eqA at he
  split at he
  · rename_i a b ha hb
    split at he
    · split at he
      · rename_i c hc
        simp only [Option.some.injEq] at he
        subst he
        obtain ⟨h1, h2⟩ := eqV_run (hρ _ _ ha) (hρ _ _ hb) hc w
        obtain ⟨h3, h4, _⟩ := h2 .eql x y
        refine ⟨.bool c, w, ?_, .flat rfl, h⟩
        have h5 : (Op.equal t (ρ' x) (ρ' y)).run P w = .ok c w := h1 9999
        simp only [execOp, ho, Sem.run_bind, h3, Result.andThen_ok, h4 rfl, h5, Sem.run_pure]
      · cases he
    · split at he
      · rename_i c hc
        simp only [Option.some.injEq] at he
        subst he
        obtain ⟨h1, h2⟩ := eqV_run (hρ _ _ ha) (hρ _ _ hb) hc w
        obtain ⟨h3, _, h4⟩ := h2 .neq x y
        refine ⟨.bool !c, w, ?_, .flat rfl, h⟩
        have h5 : (Op.equal t (ρ' x) (ρ' y)).run P w = .ok c w := h1 9999
        simp only [execOp, ho, Sem.run_bind, h3, Result.andThen_ok, h4 rfl, h5, Sem.run_pure]
      · cases he
    · cases he
  · cases he

/-! ## Conversions -/

def intsOf (k : IntKind) : List Value → Option (List Int)
  | [] => some []
  | .int k' n :: l => if k = k' then (intsOf k l).map (n :: ·) else none
  | _ => none
theorem intsOf_rel {k : IntKind} : ∀ {l l' : List Value} {ns : List Int}, LRel μ l l' → intsOf k l = some ns → l' = ns.map (Value.int k) := by
  intro l
  induction l with
  | nil => intro l' ns hl h; simp only [intsOf, Option.some.injEq] at h; subst h; exact hl.nil_inv
  | cons v l ih =>
    intro l' ns hl h
    obtain ⟨v', l'', rfl, hv, hl2⟩ := hl.cons_inv
    cases v with
    | int k' n =>
      simp only [intsOf] at h
      split at h
      · rename_i hk
        subst hk
        cases hi : intsOf k l with
        | none => simp [hi] at h
        | some ms =>
          simp only [hi, Option.map_some, Option.some.injEq] at h
          subst h
          rw [hv.int_inv, ih hl2 hi]; rfl
      · cases h
    | _ => simp [intsOf] at h

def convA (P : Program) (src dst : TypeId) (v : Option Value) (H : Hp) : Option AR :=
  match P.underlying src, P.underlying dst, v with
  | some (.slice e), some .string, some (.slice (some ⟨i, off, _⟩) n _) =>
    match P.underlying e with
    | some (.int .u8) => match H.loads i off n with
      | some l => match intsOf .u8 l with
        | some ns => some (.val (.string (ns.foldl (fun r n => r.push (UInt8.ofNat n.toNat)) ByteArray.empty)) H)
        | none => none
      | none => none
    | some (.int .i32) => match H.loads i off n with
      | some l => match intsOf .i32 l with
        | some ns => some (.val (.string (runesBytes ns)) H)
        | none => none
      | none => none
    | _ => none
  | some ds, some (.slice e), some (.string s) =>
    match ds with
    | .string =>
      match P.underlying e, P.info? e with
      | some (.int .u8), some ti => if ti.size == 1 then some (.val (.slice (some ⟨H.n, 0, none⟩) s.size s.size) (H.fresh (s.data.toList.map fun b => .int .u8 b.toNat) e 1)) else none
      | _, _ => none
    | _ => none
  | some (.slice _), some (.slice e), some (.slice (some ⟨i, off, sp⟩) n c) =>
    match P.underlying e, H.row i with
    | some (.int .u8), some q => if src == dst && sp != some 1 && !q.ci.ro then some (.val (.slice (some ⟨i, off, sp⟩) n c) H) else none
    | _, _ => none
  | some (.pointer t), some .unsafePointer, some (.pointer (some ⟨i, off, none⟩)) =>
    match H.row i, P.info? t with
    | some q, some ti => if ti.size == 0 || q.c.length ≤ off then none else some (.val (.pointer (some ⟨i, off, none⟩)) H)
    | _, _ => none
  | some .unsafePointer, some (.pointer u), some (.pointer (some ⟨i, off, none⟩)) =>
    match H.row i, P.info? u with
    | some q, some ti => if off == 0 && q.z == 0 && q.el == u && ti.size != 0 && ti.size ≤ q.c.length then some (.val (.pointer (some ⟨i, off, none⟩)) H) else none
    | _, _ => none
  | _, _, _ => none

theorem LRel.loadCells (h : Sim B w0 μ H w) {i off n : Nat} {x : Loc} {l : List Value} (hm : μ i = some x) (hl : H.loads i off n = some l) :
    ∃ l', LRel μ l l' ∧ (loadCells ⟨x.b, off + x.s, none⟩ n).run P w = .ok l'.toArray w := by
  obtain ⟨l', hrel, hlen, hlen', hR, hcells⟩ := h.loads hm hl
  refine ⟨l', hrel, ?_⟩
  have := run_loadCells_list (P := P) w ⟨x.b, off + x.s, none⟩ l' (fun j u hj => by rw [addr_add]; exact hcells j u hj)
  rw [hlen'] at this
  exact this

theorem sliceAddr {i off : Nat} {sp : Option Nat} {n c : Nat} {v : Value} {l : List Value} (hv : VRel μ (.slice (some ⟨i, off, sp⟩) n c) v) (hl : H.loads i off n = some l) (h : Sim B w0 μ H w) :
    ∃ a c' l', v = .slice (some a) n c' ∧ LRel μ l l' ∧ (loadCells a n).run P w = .ok l'.toArray w := by
  obtain ⟨x, hx, hcase⟩ := hv.slice_inv
  obtain ⟨l', hrel, hrun⟩ := LRel.loadCells (P := P) h hx hl
  rcases hcase with ⟨_, c', hv, _⟩ | ⟨_, hv⟩ | ⟨_, rfl, rfl, p, c', hv, _⟩
  · exact ⟨_, _, l', hv, hrel, hrun⟩
  · exact ⟨_, _, l', hv, hrel, hrun⟩
  · obtain ⟨l2, hrel2, hlen, _⟩ := h.loads hx hl
    have : l = [] := List.eq_nil_of_length_eq_zero hlen
    subst this
    exact ⟨p, c', [], hv, LRel.nil μ, by simp [loadCells, loadCellsFrom]⟩

theorem below_drew {w : World} (h : Below B w0 w) (n : Nat) : Below B w0 { w with drawn := n } := ⟨h.os, h.tape, h.output, h.size, h.block⟩
theorem Sim.drawn (h : Sim B w0 μ H w) (n : Nat) : Sim B w0 μ H { w with drawn := n } := h.same (below_drew h.below n) rfl

theorem freeze_new {w : World} {c : Array Value} {el : TypeId} : (w.alloc (.cells c el)).freeze ⟨w.heap.size, c.size, none⟩ 1 = w.alloc (.cells c el (c.size, c.size + 1)) := by
  simp only [World.freeze, Nat.one_ne_zero, if_false]
  show ({ w with heap := (w.heap.push _).modify w.heap.size _ } : World) = { w with heap := w.heap.push _ }
  congr 1
  apply Array.ext_getElem?
  intro j
  rw [Array.getElem?_modify, Array.getElem?_push, Array.getElem?_push]
  by_cases hj : w.heap.size = j
  · subst hj; simp
  · rw [if_neg hj, if_neg (fun e => hj e.symm), if_neg (fun e => hj e.symm)]

theorem run_markStringish (P : Program) {w : World} {c : Array Value} {el : TypeId} : (markStringish ⟨w.heap.size, 0, none⟩).run P (w.alloc (.cells c el)) = .ok () (w.alloc (.cells c el (c.size, c.size + 1))) := by
  have : (w.alloc (.cells c el)).shape? w.heap.size = some (el, c.size) := by
    show (match (w.heap.push (.cells c el))[w.heap.size]? with | some (.cells c elem _) => some (elem, c.size) | _ => none) = _
    simp
  simp only [markStringish, Sem.run_bind, run_shape, Result.andThen_ok, this, run_freeze, freeze_new]

theorem heap_freeze (w : World) (b p n : Nat) (hn : n ≠ 0) (j : Nat) : (w.freeze ⟨b, p, none⟩ n).heap[j]? =
    (w.heap[j]?).map fun o => if j = b then (match o with | .cells c el fr => .cells c el (if fr.1 == fr.2 then (p, p + n) else (min fr.1 p, max fr.2 (p + n))) | o => o) else o := by
  simp only [World.freeze, if_neg hn, Array.getElem?_modify]
  by_cases hj : b = j
  · subst hj
    simp only [if_true]
    congr 1
    funext o
    cases o <;> rfl
  · rw [if_neg hj]
    cases w.heap[j]? with
    | none => rfl
    | some o => simp [show j ≠ b from fun e => hj e.symm]

/-- A mark behind a block's end. -/
theorem Sim.mark (h : Sim B w0 μ H w) {i : Nat} {q : Row} {x : Loc} (hx : μ i = some x) (hq : H.row i = some q) (hro : q.ci.ro = false) : Sim B w0 μ H (w.freeze ⟨x.b, x.R, none⟩ 1) := by
  obtain ⟨c0, fr0, hg0, hR0, _, _, _, h5⟩ := h.cells i q x hq hx
  obtain ⟨hB, hfr0⟩ := h5 hro
  have hoth : ∀ j, j ≠ x.b → (w.freeze ⟨x.b, x.R, none⟩ 1).heap[j]? = w.heap[j]? := by
    intro j hj
    rw [heap_freeze w x.b x.R 1 (by decide) j]
    cases w.heap[j]? <;> simp [hj]
  have hself : ∃ fr', (w.freeze ⟨x.b, x.R, none⟩ 1).heap[x.b]? = some (.cells c0 q.el fr') ∧ (fr'.1 = fr'.2 ∨ x.R ≤ fr'.1) := by
    refine ⟨_, by rw [heap_freeze w x.b x.R 1 (by decide) x.b, hg0]; simp only [Option.map_some, if_true]; rfl, ?_⟩
    right
    split
    · exact Nat.le_refl _
    · rename_i hne
      rcases hfr0 with e | e
      · exact absurd (by simpa using e) hne
      · exact Nat.le_min.2 ⟨e, Nat.le_refl _⟩
  have hbel : Below B w (w.freeze ⟨x.b, x.R, none⟩ 1) := by
    refine ⟨?_, ?_, ?_, ?_, fun k hk => hoth k (by omega)⟩ <;> simp [World.freeze]
  refine { below := h.below.trans hbel, base := Nat.le_trans h.base hbel.size, wf := h.wf, fin := h.fin, cells := ?_, iter := ?_, isep := h.isep, sep := h.sep, top := h.top, cnt := h.cnt }
  · intro j q' y hq' hy
    obtain ⟨c', fr, hg, d1, d2, d3, d4, d5⟩ := h.cells j q' y hq' hy
    by_cases hb : y.b = x.b
    · obtain ⟨fr', hg', hfr'⟩ := hself
      rw [hb, hg0] at hg
      simp only [Option.some.injEq, Obj.cells.injEq] at hg
      obtain ⟨rfl, he, rfl⟩ := hg
      refine ⟨c0, fr', by rw [hb, ← he]; exact hg', d1, d2, d3, d4, fun hr => ⟨(d5 hr).1, ?_⟩⟩
      rw [← d1, hR0]; exact hfr'
    · exact ⟨c', fr, by rw [hoth _ hb]; exact hg, d1, d2, d3, d4, d5⟩
  · intro j s p' y hj hy
    obtain ⟨a1, a2, a3⟩ := h.iter j s p' y hj hy
    refine ⟨a1, a2, ?_⟩
    rw [hoth _ ?_]; exact a3
    intro e; rw [e, hg0] at a3; cases a3

theorem run_markStringish' (P : Program) {w : World} {b o : Nat} {el : TypeId} {n : Nat} (h : w.shape? b = some (el, n)) : (markStringish ⟨b, o, none⟩).run P w = .ok () (w.freeze ⟨b, n, none⟩ 1) := by
  simp only [markStringish, Sem.run_bind, run_shape, Result.andThen_ok, h, run_freeze]

theorem convA_sound {src dst : TypeId} {x : Operand} (ho : o.op = .convert src dst x) (h : Sim B w0 μ H w) (hρ : RhoRel μ ρ ρ') (he : convA P src dst (ρ x) H = some r) :
    ∃ ν, Mu.Ext H.n μ ν ∧ ARel B w0 ν r ((execOp ρ' o).run P w) := by
  unfold convA at he
  split at he
  · rename_i e i off sp n c hs hd hx
    split at he
    · rename_i he8
      split at he
      · rename_i l hl
        split at he
        · rename_i ns hns
          simp only [Option.some.injEq] at he
          subst he
          obtain ⟨a, c', l', hv, hrel, hrun⟩ := sliceAddr (P := P) (hρ _ _ hx) hl h
          rw [intsOf_rel hrel hns] at hrun
          refine ⟨μ, .refl _ _, _, w, ?_, .flat rfl, h⟩
          simp only [execOp, ho, hv, convert, Sem.run_bind, run_und hs, run_und hd, run_und he8, Result.andThen_ok, run_bytesToString w a n c' ns hrun, Sem.run_pure]
        · cases he
      · cases he
    · rename_i he32
      split at he
      · rename_i l hl
        split at he
        · rename_i ns hns
          simp only [Option.some.injEq] at he
          subst he
          obtain ⟨a, c', l', hv, hrel, hrun⟩ := sliceAddr (P := P) (hρ _ _ hx) hl h
          rw [intsOf_rel hrel hns] at hrun
          refine ⟨μ, .refl _ _, _, w, ?_, .flat rfl, h⟩
          simp only [execOp, ho, hv, convert, Sem.run_bind, run_und hs, run_und hd, run_und he32, Result.andThen_ok, run_runesToString w a n c' ns hrun, Sem.run_pure]
        · cases he
      · cases he
    · cases he
  · rename_i ds e s hs hd hx
    have key : (∃ ti, P.underlying e = some (.int .u8) ∧ P.info? e = some ti ∧ ti.size = 1 ∧
        r = .val (.slice (some ⟨H.n, 0, none⟩) s.size s.size) (H.fresh (s.data.toList.map fun b => .int .u8 b.toNat) e 1)) ∧ ds = .string := by
      split at he
      · split at he
        · rename_i ti he8 hti
          split at he
          · rename_i hz
            simp only [Option.some.injEq] at he
            exact ⟨⟨ti, he8, hti, by simpa using hz, he.symm⟩, rfl⟩
          · cases he
        · cases he
      · cases he
    obtain ⟨⟨ti, he8, hti, hz, rfl⟩, rfl⟩ := key
    have hv := (hρ _ _ hx).string_inv
    -- the capacity that the machine draws
    obtain ⟨cap, hcap, hrun⟩ : ∃ cap, s.size ≤ cap ∧ (choose (.appendCap s.size 0 e)).run P w = .ok cap { w with drawn := w.drawn + 1 } := by
      exact ⟨(Question.appendCap s.size 0 e).cut (w.tape w.drawn (.appendCap s.size 0 e)), Nat.le_add_right _ _, by rw [run_choose]; rfl⟩
    have hs' := h.drawn (w.drawn + 1)
    generalize hw1 : ({ w with drawn := w.drawn + 1 } : World) = w1 at hrun hs'
    obtain ⟨cs, hcsd⟩ : ∃ cs : Array Value, (s.data.map fun b => Value.int .u8 b.toNat) ++ Array.replicate (cap - s.size) (.int .u8 0) = cs := ⟨_, rfl⟩
    have hsd : s.data.size = s.size := rfl
    have hcs : cs.size = cap := by rw [← hcsd, Array.size_append, Array.size_map, Array.size_replicate]; omega
    have hlen : (s.data.toList.map fun b => Value.int .u8 b.toNat).length = s.size := by rw [List.length_map, Array.length_toList]; rfl
    have hrel : LRel μ (s.data.toList.map fun b => Value.int .u8 b.toNat) (cs.toList.take (s.data.toList.map fun b => Value.int .u8 b.toNat).length) := by
      have : cs.toList.take (s.data.toList.map fun b => Value.int .u8 b.toNat).length = s.data.toList.map fun b => Value.int .u8 b.toNat := by
        rw [← hcsd, Array.toList_append, Array.toList_map, List.take_left]
      rw [this]
      refine LRel.of_flat (List.all_eq_true.2 fun v hv => ?_)
      obtain ⟨b, _, rfl⟩ := List.mem_map.1 hv
      rfl
    refine ⟨_, .put _, .slice (some ⟨w1.heap.size, 0, none⟩) s.size cap, w1.alloc (.cells cs e (cs.size, cs.size + 1)), ?_, ?_, hs'.new (z := 1) hrel (by rw [hlen, hcs]; exact hcap) _ (.inr (Nat.le_refl _))⟩
    · simp only [execOp, ho, hv, convert, Sem.run_bind, run_und hs, run_und hd, run_und he8, Result.andThen_ok, Conv.stringToBytes, hrun, run_newRow, Sem.run_pure]
      rw [hcsd]
      simp only [run_markStringish, Result.andThen_ok]
    · refine .sl (x := ⟨w1.heap.size, 0, cs.size, 1⟩) (Mu.put_self _ _ _) hcap ?_
      show 0 + 0 + cap * 1 ≤ cs.size
      omega
  · rename_i e0 e i off sp n c hs hd hx
    split at he
    · rename_i q he8 hq
      split at he
      · rename_i hg
        simp only [Bool.and_eq_true, bne_iff_ne, ne_eq, Bool.not_eq_true'] at hg
        obtain ⟨⟨hsd, hsp⟩, hro⟩ := hg
        simp only [Option.some.injEq] at he
        subst he
        obtain ⟨x', hx', hcase⟩ := (hρ _ _ hx).slice_inv
        obtain ⟨c', fr, hgt, e1, e2, e3, e4, _⟩ := h.cells i q x' hq hx'
        have hsh : w.shape? x'.b = some (q.el, x'.R) := by simp [World.shape?, hgt, e1]
        have hm := run_markStringish' P (o := off + x'.s) hsh
        refine ⟨μ, .refl _ _, ρ' x, w.freeze ⟨x'.b, x'.R, none⟩ 1, ?_, hρ _ _ hx, h.mark hx' hq hro⟩
        rcases hcase with ⟨_, c'', hv, _⟩ | ⟨_, hv⟩ | ⟨e, _⟩
        · simp only [execOp, ho, hv, convert, Sem.run_bind, run_und hs, run_und hd, run_und he8, Result.andThen_ok, hsd, hm, Sem.run_pure]
        · simp only [execOp, ho, hv, convert, Sem.run_bind, run_und hs, run_und hd, run_und he8, Result.andThen_ok, hsd, hm, Sem.run_pure]
        · exact absurd e hsp
      · cases he
    · cases he
  · rename_i t i off hs hd hx
    split at he
    · rename_i q ti hq hti
      split at he
      · cases he
      · rename_i hg
        simp only [Bool.or_eq_true, beq_iff_eq, decide_eq_true_eq, not_or, Nat.not_le] at hg
        simp only [Option.some.injEq] at he
        subst he
        obtain ⟨x', hx', hv⟩ := (hρ _ _ hx).ptr_inv
        obtain ⟨c', fr, hgt, e1, e2, e3, e4, _⟩ := h.cells i q x' hq hx'
        have hsh : w.shape? x'.b = some (q.el, c'.size) := by simp [World.shape?, hgt]
        refine ⟨μ, .refl _ _, .pointer (some ⟨x'.b, off + x'.s, none⟩), w, ?_, .ptr hx', h⟩
        have hno : ¬ (x'.R ≤ off + x'.s) := by omega
        simp only [execOp, ho, hv, convert, Sem.run_bind, run_und hs, run_und hd, Result.andThen_ok, Conv.unsafePointer, Conv.seenAt, viewAt, run_shape, hsh, Option.isSome_some, if_true, Sem.run_pure,
          cellsIn, run_sz hti, hg.1, e1, hno, decide_false, Bool.false_and, Bool.or_false, Bool.false_eq_true, if_false, ge_iff_le]
    · cases he
  · rename_i u i off hs hd hx
    split at he
    · rename_i q ti hq hti
      split at he
      · rename_i hg
        simp only [Bool.and_eq_true, beq_iff_eq, bne_iff_ne, ne_eq, decide_eq_true_eq] at hg
        obtain ⟨⟨⟨⟨rfl, hqz⟩, hel⟩, hsz⟩, hle⟩ := hg
        simp only [Option.some.injEq] at he
        subst he
        obtain ⟨x', hx', hv⟩ := (hρ _ _ hx).ptr_inv
        obtain ⟨c', fr, hgt, e1, e2, e3, e4, _⟩ := h.cells i q x' hq hx'
        have hs0 : x'.s = 0 := e3.2 hqz
        have hsh : w.shape? x'.b = some (q.el, c'.size) := by simp [World.shape?, hgt]
        have hco : P.cellsOf q.el = ti.size := by simp [Program.cellsOf, hel, hti]
        have hlies : liesAt P P.depth q.el (c'.size / P.cellsOf q.el) 0 u 1 = true := by
          have hdp : P.depth = (2 * (P.types.size + Made.depth) + 1) + 1 := rfl
          rw [hdp]
          simp only [liesAt, Bool.or_eq_true]
          left
          rw [hdp]
          have h1 : 0 + 1 ≤ c'.size / ti.size := by
            rw [Nat.zero_add, Nat.le_div_iff_mul_le (by omega)]; omega
          simp only [rowAt, hco, if_neg hsz, Nat.zero_div, Nat.zero_mod, beq_self_eq_true, h1, decide_true, Bool.true_and, Bool.or_eq_true]
          left
          simp [sameLayout, hel]
        refine ⟨μ, .refl _ _, .pointer (some ⟨x'.b, 0 + x'.s, none⟩), w, ?_, .ptr hx', h⟩
        simp only [execOp, ho, hv, convert, Sem.run_bind, run_und hs, run_und hd, Result.andThen_ok, Conv.unsafePointer, Conv.seenAt, viewAt, run_shape, hsh, Option.isSome_some, if_true, Sem.run_pure,
          run_sz hti, variablesAt, run_program, hs0, Nat.add_zero, hlies, decide_true, Bool.or_true]
      · cases he
    · cases he
  · cases he
end

end
end Go.Proofs.YtpmjpieiajdcgaaGreat
