/- PE, part 4: loads, stores, slices, fields, elements. -/
import Derived.Test.YtpmjpieiajdcgaaGreatPeOps
namespace Go.Proofs.YtpmjpieiajdcgaaGreat
open Go Go.RowKit
noncomputable section

section
variable {P : Program} {B : Nat} {w0 w : World} {μ : Mu} {H : Hp} {ρ : Rho} {ρ' : Operand → Value} {o : Oper} {r : AR}

def zerosA (i : TypeInfo) (n : Nat) : Option (Array Value) :=
  if n = 0 then some ((Array.range n).map ((#[] : Array Value)[· % (#[] : Array Value).size]!))
  else match i.zero with
    | some z => some ((Array.range n).map (z.cells[· % z.cells.size]!))
    | none => none

def buildSliceA (P : Program) (ρ : Rho) (t : TypeId) (n : Nat) (ps : List (Nat × Operand)) (H : Hp) : Option AR :=
  match partsA ρ ps, P.underlying t with
  | some l, some (.slice el) =>
    match P.info? el with
    | some i =>
      if n * i.size > 2 ^ 24 then none
      else match zerosA i (n * i.size) with
        | some zc =>
          if zc.toList.all isFlat then
            match Instr.fill (fun j => some (j * i.size, i.size)) zc l with
            | some cs => some (.val (.slice (some ⟨H.n, 0, some 0⟩) n n) (H.fresh cs.toList el i.size))
            | none => none
          else none
        | none => none
    | none => none
  | _, _ => none

theorem buildSliceA_sound {t : TypeId} {n : Nat} {ps : Array (Nat × Operand)} (ho : o.op = .buildSlice t n ps) (h : Sim B w0 μ H w) (hρ : RhoRel μ ρ ρ') (he : buildSliceA P ρ t n ps.toList H = some r) :
    ∃ ν, Mu.Ext H.n μ ν ∧ ARel B w0 ν r ((execOp ρ' o).run P w) := by
  unfold buildSliceA at he
  split at he
  · rename_i l el hl hu
    split at he
    · rename_i i hi
      split at he
      · cases he
      · rename_i hbig
        split at he
        · rename_i zc hz
          split at he
          · rename_i hf
            split at he
            · rename_i cs hfi
              simp only [Option.some.injEq] at he
              subst he
              have hp := partsA_rel hρ _ hl
              have hmap : (ps.map fun (p : Nat × Operand) => (p.1, ρ' p.2)).toList = ps.toList.map fun p => (p.1, ρ' p.2) := by simp
              rw [← hmap] at hp
              generalize hps' : (ps.map fun (p : Nat × Operand) => (p.1, ρ' p.2)) = ps' at hp
              have hex : execOp ρ' o = (do pure (.value (← Instr.buildSlice t n ps'))) := by simp only [execOp, ho, ← hps']
              obtain ⟨out, hout, hrel⟩ := fill_rel (fun j => some (j * i.size, i.size)) l ps'.toList zc zc hp (LRel.of_flat hf) hfi
              refine ⟨_, .put _, .slice (some ⟨w.heap.size, 0, none⟩) n n, w.alloc (.cells out el), ?_, ?_, h.new_whole (z := i.size) hrel⟩
              · rw [hex]
                simp only [Sem.run_bind, Instr.buildSlice, run_und hu, Result.andThen_ok, run_sz hi, if_neg hbig]
                unfold zerosA at hz
                split at hz
                · rename_i h0
                  simp only [Option.some.injEq] at hz
                  simp only [h0, if_true, Sem.run_pure]
                  rw [h0] at hz
                  simp only [hz, hout, Sem.run_bind, run_newRow, Result.andThen_ok, Sem.run_pure]
                · rename_i h0
                  split at hz
                  · rename_i z hzz
                    simp only [Option.some.injEq] at hz
                    simp only [if_neg h0, Sem.run_bind, run_zero hi hzz, Sem.run_pure, Result.andThen_ok, hz, hout, run_newRow]
                  · cases hz
              · exact .slx (x := ⟨w.heap.size, 0, out.size, i.size⟩) (Mu.put_self _ _ _)
            · cases he
          · cases he
        · cases he
    · cases he
  · cases he

/-! ## Loads and stores -/

def isAggT (d : TypeDesc) : Bool := match d with | .struct _ | .array _ _ => true | _ => false

theorem run_isAgg {t : TypeId} {d : TypeDesc} (h : P.underlying t = some d) (w : World) : (isAgg t).run P w = .ok (isAggT d) w := by
  unfold isAgg
  rw [Sem.run_bind, run_und h]
  cases d <;> rfl

def loadA (P : Program) (t : TypeId) (v : Option Value) (H : Hp) : Option AR :=
  match v with
  | some (.pointer (some ⟨i, off, none⟩)) =>
    match P.underlying t with
    | some d =>
      if isAggT d then
        match P.info? t with
        | some ti => match H.loads i off ti.size with
          | some l => some (.val (.agg l.toArray) H)
          | none => none
        | none => none
      else match H.loads i off 1 with
        | some [u] => some (.val u H)
        | _ => none
    | none => none
  | _ => none

theorem VRel.ptr_inv {μ : Mu} {i off : Nat} {v : Value} (h : VRel μ (.pointer (some ⟨i, off, none⟩)) v) : ∃ x, μ i = some x ∧ v = .pointer (some ⟨x.b, off + x.s, none⟩) := by
  cases h with
  | flat h => simp [isFlat] at h
  | ptr h => exact ⟨_, h, rfl⟩

theorem loadA_sound' {t : TypeId} {v : Option Value} {v' : Value} (h : Sim B w0 μ H w) (hv : ∀ u, v = some u → VRel μ u v') (he : loadA P t v H = some r) :
    ∃ u', (Instr.loadAt t v').run P w = .ok u' w ∧ ∃ u, r = .val u H ∧ VRel μ u u' := by
  unfold loadA at he
  split at he
  · rename_i i off
    obtain ⟨x, hx, rfl⟩ := (hv _ rfl).ptr_inv
    split at he
    · rename_i d hd
      split at he
      · rename_i hag
        split at he
        · rename_i ti hti
          split at he
          · rename_i l hl
            simp only [Option.some.injEq] at he
            subst he
            obtain ⟨l', hrel, hlen, hlen', hR, hcells⟩ := h.loads hx hl
            refine ⟨.agg l'.toArray, ?_, .agg l.toArray, rfl, .agg (by simpa using hrel.1) (by simpa using hrel.2)⟩
            have := run_loadCells_list (P := P) w ⟨x.b, off + x.s, none⟩ l' (fun j u hj => by rw [addr_add]; exact hcells j u hj)
            rw [hlen'] at this
            simp only [Instr.loadAt, Instr.sureAddr, loadVar, Sem.run_bind, Sem.run_pure, Result.andThen_ok, run_isAgg hd, hag, if_true, run_sz hti, this]
          · cases he
        · cases he
      · rename_i hag
        split at he
        · rename_i u hl
          simp only [Option.some.injEq] at he
          subst he
          obtain ⟨l', hrel, hlen, hlen', hR, hcells⟩ := h.loads hx hl
          obtain ⟨u', l'', rfl, hu, _⟩ := hrel.cons_inv
          refine ⟨u', ?_, u, rfl, hu⟩
          have hc := hcells 0 u' rfl
          rw [Nat.add_zero] at hc
          simp only [Instr.loadAt, Instr.sureAddr, loadVar, Sem.run_bind, Sem.run_pure, Result.andThen_ok, run_isAgg hd, hag, Bool.false_eq_true, if_false, run_load, hc]
        · cases he
    · cases he
  · cases he

theorem loadA_sound {t : TypeId} {a : Operand} (ho : o.op = .load t a) (h : Sim B w0 μ H w) (hρ : RhoRel μ ρ ρ') (he : loadA P t (ρ a) H = some r) : ARel B w0 μ r ((execOp ρ' o).run P w) := by
  obtain ⟨u', hrun, u, rfl, hu⟩ := loadA_sound' h (fun u hu => hρ _ _ hu) he
  exact ⟨u', w, by simp only [execOp, ho, Sem.run_bind, hrun, Result.andThen_ok, Sem.run_pure], hu, h⟩

def storeA (P : Program) (t : TypeId) (a v : Option Value) (H : Hp) : Option AR :=
  match a, v with
  | some (.pointer (some ⟨i, off, none⟩)), some u =>
    match P.info? t with
    | some ti =>
      if u.cells.size == ti.size && u.cells.toList.all (·.oneCell') then
        match H.puts i off u.cells.toList with
        | some H' => some (.skip H')
        | none => none
      else none
    | none => none
  | _, _ => none

theorem storeA_sound {t : TypeId} {a x : Operand} (ho : o.op = .store t a x) (h : Sim B w0 μ H w) (hρ : RhoRel μ ρ ρ') (he : storeA P t (ρ a) (ρ x) H = some r) : ARel B w0 μ r ((execOp ρ' o).run P w) := by
  unfold storeA at he
  split at he
  · rename_i i off u ha hx
    obtain ⟨y, hy, hya⟩ := (hρ _ _ ha).ptr_inv
    have hu := hρ _ _ hx
    split at he
    · rename_i ti hti
      split at he
      · rename_i hc
        simp only [Bool.and_eq_true, beq_iff_eq] at hc
        split at he
        · rename_i H' hp
          simp only [Option.some.injEq] at he
          subst he
          obtain ⟨w', hrun, hs⟩ := Sim.puts P hy u.cells.toList (ρ' x).cells.toList off 0 H w h (by simpa using hp) hu.cells (fun v hv => List.all_eq_true.1 hc.2 v hv)
          refine ⟨w', ?_, hs⟩
          have hsz : (ρ' x).cells.size = ti.size := by have := hu.cells.1; simp at this; omega
          simp only [execOp, ho, Instr.storeAt, hya, Instr.sureAddr, storeVar, Sem.run_bind, Sem.run_pure, Result.andThen_ok, run_sz hti, hsz, ne_eq, not_true_eq_false, if_false, hrun]
        · cases he
      · cases he
    · cases he
  · cases he

/-! ## Values made of values -/

def nilCheckA (v : Option Value) (H : Hp) : Option AR :=
  match v with
  | some (.pointer (some a)) => some (.val (.pointer (some a)) H)
  | some (.func (.func f) a b) => some (.val (.func (.func f) a b) H)
  | some (.iface t v) => some (.val (.iface t v) H)
  | _ => none
theorem nilCheckA_sound {x : Operand} (ho : o.op = .nilCheck x) (h : Sim B w0 μ H w) (hρ : RhoRel μ ρ ρ') (he : nilCheckA (ρ x) H = some r) : ARel B w0 μ r ((execOp ρ' o).run P w) := by
  unfold nilCheckA at he
  split at he
  · rename_i a ha
    simp only [Option.some.injEq] at he
    subst he
    have hr := hρ _ _ ha
    refine ⟨ρ' x, w, ?_, hr, h⟩
    cases hr' : ρ' x with
    | pointer p =>
      rw [hr'] at hr
      cases hr with
      | flat hh => simp [isFlat] at hh
      | ptr _ => simp [execOp, ho, hr']
    | _ => rw [hr'] at hr; cases hr
  · rename_i f a b ha
    simp only [Option.some.injEq] at he
    subst he
    have hr := hρ _ _ ha
    refine ⟨ρ' x, w, ?_, hr, h⟩
    generalize hr' : ρ' x = u at hr
    cases hr with
    | flat hh => simp [isFlat] at hh
    | func _ _ _ _ => simp [execOp, ho, hr']
  · rename_i t v ha
    simp only [Option.some.injEq] at he
    subst he
    have hr := hρ _ _ ha
    refine ⟨ρ' x, w, ?_, hr, h⟩
    generalize hr' : ρ' x = u at hr
    cases hr with
    | flat hh => simp [isFlat] at hh
    | iface _ => simp [execOp, ho, hr']
  · cases he

def ifaceA (P : Program) (t : TypeId) (v : Option Value) (H : Hp) : Option AR :=
  match v, P.underlying t with
  | some _, some (.interface _) => none
  | some v, some _ => some (.val (.iface t v) H)
  | _, _ => none
theorem ifaceA_sound {t : TypeId} {x : Operand} (ho : o.op = .makeInterface t x) (h : Sim B w0 μ H w) (hρ : RhoRel μ ρ ρ') (he : ifaceA P t (ρ x) H = some r) : ARel B w0 μ r ((execOp ρ' o).run P w) := by
  unfold ifaceA at he
  split at he
  · cases he
  · rename_i v d hni hv hd
    simp only [Option.some.injEq] at he
    subst he
    refine ⟨.iface t (ρ' x), w, ?_, .iface (hρ _ _ hv), h⟩
    simp only [execOp, ho, Instr.makeInterface, Sem.run_bind, run_und hd, Result.andThen_ok]
    cases d <;> first | rfl | exact absurd rfl (hni _)
  · cases he

def argsA (ρ : Rho) : List Operand → Option (List Value)
  | [] => some []
  | x :: l => match ρ x, argsA ρ l with
    | some v, some r => some (v :: r)
    | _, _ => none
theorem argsA_rel (hρ : RhoRel μ ρ ρ') : ∀ (l : List Operand) {r : List Value}, argsA ρ l = some r → LRel μ r (l.map ρ') := by
  intro l
  induction l with
  | nil => intro r h; simp only [argsA, Option.some.injEq] at h; subst h; exact LRel.nil μ
  | cons x l ih =>
    intro r h
    simp only [argsA] at h
    split at h
    · rename_i v q hv hq
      simp only [Option.some.injEq] at h
      subst h
      exact (ih hq).cons (hρ _ _ hv)
    · cases h
theorem argsA_rel' (hρ : RhoRel μ ρ ρ') {a : Array Operand} {r : List Value} (h : argsA ρ a.toList = some r) : LRel μ r (a.map ρ').toList := by
  rw [Array.toList_map]; exact argsA_rel hρ _ h

def funcA (ρ : Rho) (fn : Fn) (f c : Array Operand) (H : Hp) : Option AR :=
  match argsA ρ f.toList, argsA ρ c.toList with
  | some a, some b => some (.val (.func fn a.toArray b.toArray) H)
  | _, _ => none
theorem funcA_sound {fn : Fn} {f c : Array Operand} (ho : o.op = .makeFunc fn f c) (h : Sim B w0 μ H w) (hρ : RhoRel μ ρ ρ') (he : funcA ρ fn f c H = some r) : ARel B w0 μ r ((execOp ρ' o).run P w) := by
  unfold funcA at he
  split at he
  · rename_i a b ha hb
    simp only [Option.some.injEq] at he
    subst he
    have h1 := argsA_rel' hρ ha
    have h2 := argsA_rel' hρ hb
    exact ⟨.func fn (f.map ρ') (c.map ρ'), w, by simp only [execOp, ho, Instr.makeFunc, Sem.run_bind, Sem.run_pure, Result.andThen_ok], .func (by simpa using h1.1) (by simpa using h1.2) (by simpa using h2.1) (by simpa using h2.2), h⟩
  · cases he

def extractA (v : Option Value) (i : Nat) (H : Hp) : Option AR :=
  match v with
  | some (.tuple vs) => moveA vs.toList[i]? H
  | _ => none
theorem extractA_sound {x : Operand} {i : Nat} (ho : o.op = .extract x i) (h : Sim B w0 μ H w) (hρ : RhoRel μ ρ ρ') (he : extractA (ρ x) i H = some r) : ARel B w0 μ r ((execOp ρ' o).run P w) := by
  unfold extractA at he
  split at he
  · rename_i vs hv
    unfold moveA at he
    split at he
    · rename_i v hvi
      simp only [Option.some.injEq] at he
      subst he
      have hr := hρ _ _ hv
      generalize hr' : ρ' x = u at hr
      cases hr with
      | flat hh =>
        simp only [isFlat, Array.isEmpty_iff] at hh
        subst hh; simp at hvi
      | tup h1 h2 =>
        obtain ⟨v', hv', hrel⟩ := LRel.get? ⟨h1, h2⟩ hvi
        rw [Array.getElem?_toList] at hv'
        exact ⟨v', w, by simp [execOp, ho, Instr.extract, hr', hv'], hrel, h⟩
    · cases he
  · cases he
end

end
end Go.Proofs.YtpmjpieiajdcgaaGreat
