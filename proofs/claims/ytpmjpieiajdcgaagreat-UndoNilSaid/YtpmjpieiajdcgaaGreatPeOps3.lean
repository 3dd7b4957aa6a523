/- PE, part 5: slices of slices, fields, elements, type assertions. -/
import Derived.Test.YtpmjpieiajdcgaaGreatPeOps2
namespace Go.Proofs.YtpmjpieiajdcgaaGreat
open Go Go.RowKit
noncomputable section

section
variable {P : Program} {B : Nat} {w0 w : World} {μ : Mu} {H : Hp} {ρ : Rho} {ρ' : Operand → Value} {o : Oper} {r : AR}

def makeSliceA (P : Program) (t : TypeId) (l c : Option Value) (H : Hp) : Option AR :=
  match l, c, P.underlying t with
  | some (.int _ ln), some (.int _ cn), some (.slice el) =>
    match P.info? el with
    | some i =>
      if ln < 0 || cn < ln || i.bytes * cn.toNat > 2 ^ 40 || cn > 2 ^ 40 then none
      else match zerosA i (cn.toNat * i.size) with
        | some zc => if zc.toList.all isFlat then some (.val (.slice (some ⟨H.n, 0, some 0⟩) ln.toNat cn.toNat) (H.fresh zc.toList el i.size)) else none
        | none => none
    | none => none
  | _, _, _ => none

theorem wrap_small {n : Int} (h0 : 0 ≤ n) (h : n ≤ 2 ^ 40) : IntKind.i64.wrap n = n := by
  have : (2 : Int) ^ 40 = 1099511627776 := by decide
  rw [this] at h
  simp [IntKind.wrap, IntKind.signed, IntKind.bits]
  omega

theorem makeSliceA_sound {t : TypeId} {l c : Operand} (ho : o.op = .makeSlice t l c) (h : Sim B w0 μ H w) (hρ : RhoRel μ ρ ρ') (he : makeSliceA P t (ρ l) (ρ c) H = some r) :
    ∃ ν, Mu.Ext H.n μ ν ∧ ARel B w0 ν r ((execOp ρ' o).run P w) := by
  unfold makeSliceA at he
  split at he
  · rename_i kl ln kc cn el hl hc hu
    have hl' := (hρ _ _ hl).int_inv
    have hc' := (hρ _ _ hc).int_inv
    split at he
    · rename_i i hi
      split at he
      · cases he
      · rename_i hg
        simp only [Bool.or_eq_true, decide_eq_true_eq, not_or, Int.not_lt, Nat.not_lt, gt_iff_lt] at hg
        obtain ⟨⟨⟨g1, g2⟩, g3⟩, g4⟩ := hg
        split at he
        · rename_i zc hz
          split at he
          · rename_i hf
            simp only [Option.some.injEq] at he
            subst he
            refine ⟨_, .put _, .slice (some ⟨w.heap.size, 0, none⟩) ln.toNat cn.toNat, w.alloc (.cells zc el), ?_, ?_, h.new_whole (z := i.size) (LRel.of_flat hf)⟩
            · have wl := wrap_small (n := ln) g1 (by omega)
              have wc := wrap_small (n := cn) (by omega) g4
              have hb : ¬ ((i.bytes : Int) * cn > 2 ^ 48) := by
                have e : ((i.bytes : Int) * cn) = ((i.bytes * cn.toNat : Nat) : Int) := by
                  rw [Int.natCast_mul, Int.toNat_of_nonneg (by omega)]
                rw [e]
                have e2 : (2 : Int) ^ 48 = 281474976710656 := by decide
                have e3 : (2 : Nat) ^ 40 = 1099511627776 := by decide
                rw [e2]; rw [e3] at g3; omega
              have hneg : ¬ (cn < 0) := by omega
              have hneg2 : ¬ (ln < 0) := by omega
              have hlc : ¬ (ln > cn) := by omega
              simp only [execOp, ho, hl', hc', Instr.makeSlice, Sem.run_bind, run_und hu, asInt, asIntOf, Sem.run_pure, Result.andThen_ok, run_tinfo hi, wl, wc, hb, hneg, hneg2, hlc,
                decide_false, Bool.or_false, Bool.false_or, Bool.false_eq_true, if_false, run_sz hi, Bool.or_self, run_askRoom]
              unfold zerosA at hz
              split at hz
              · rename_i h0
                simp only [Option.some.injEq] at hz
                simp only [h0, if_true]
                rw [h0] at hz
                simp only [hz, Sem.run_bind, run_newRow, Result.andThen_ok, Sem.run_pure]
              · rename_i h0
                split at hz
                · rename_i z hzz
                  simp only [Option.some.injEq] at hz
                  simp only [if_neg h0, Sem.run_bind, run_zero hi hzz, Sem.run_pure, Result.andThen_ok, hz, run_newRow]
                · cases hz
            · exact .slx (x := ⟨w.heap.size, 0, zc.size, i.size⟩) (Mu.put_self _ _ _)
          · cases he
        · cases he
    · cases he
  · cases he

/-! ## A slice of a slice -/

/-- A bound, if there is one; else a default. -/
def boundA (v : Option (Option Value)) (d most : Nat) : Option Nat :=
  match v with
  | none => some d
  | some (some (.int _ i)) => if 0 ≤ i ∧ i ≤ most then some i.toNat else none
  | some _ => none

/-- The part of a slice: 'hi', 'lo', 'mx' as they come. -/
def sliceA (P : Program) (t : TypeId) (v : Option Value) (lo hi mx : Option (Option Value)) (H : Hp) : Option AR :=
  match v, P.underlying t with
  | some (.slice (some ⟨i, o, sp⟩) n c), some (.slice el) =>
    match P.info? el with
    | some ti =>
      match mx with
      | some _ =>
        match hi with
        | none => none
        | some _ =>
          if sp == some 1 then none else
          match boundA mx c c with
          | some m => match boundA hi n m with
            | some h => match boundA lo 0 h with
              | some l => some (.val (.slice (some ⟨i, if m = l then o else o + l * ti.size, some 0⟩) (h - l) (m - l)) H)
              | none => none
            | none => none
          | none => none
      | none =>
        match boundA hi n c with
        | some h => match boundA lo 0 h with
          | some l =>
            if sp == some 0 then some (.val (.slice (some ⟨i, if c = l then o else o + l * ti.size, some 0⟩) (h - l) (c - l)) H)
            else if sp == some 1 then some (.val (.slice (some ⟨i, o, some 1⟩) 0 0) H)
            else if sp == none then
              match H.row i with
              | some q =>
                if q.z != ti.size then none
                else if l < c then some (.val (.slice (some ⟨i, o + l * ti.size, none⟩) (h - l) (c - l)) H)
                else if h == l && l == c then some (.val (.slice (some ⟨i, o + l * ti.size, some 1⟩) 0 0) H)
                else none
              | none => none
            else none
          | none => none
        | none => none
    | none => none
  | _, _ => none

theorem run_sliceBound {v : Value} {k : IntKind} {i : Int} {y : Nat} {cd : BoundsCode} (hv : v = .int k i) (h : 0 ≤ i ∧ i ≤ y) (w : World) :
    (Instr.sliceBound v y cd).run P w = .ok i.toNat w := by
  subst hv
  simp only [Instr.sliceBound, asIntOf, Sem.run_bind, Sem.run_pure, Result.andThen_ok, if_pos h]

/-- What a bound is over there. -/
theorem boundA_run (hρ : RhoRel μ ρ ρ') {x : Option Operand} {d most b : Nat} (h : boundA (x.map ρ) d most = some b) :
    (x = none ∧ b = d) ∨ ∃ y k i, x = some y ∧ ρ' y = .int k i ∧ (0 ≤ i ∧ i ≤ most) ∧ b = i.toNat := by
  cases x with
  | none => simp only [Option.map_none, boundA, Option.some.injEq] at h; exact .inl ⟨rfl, h.symm⟩
  | some y =>
    simp only [Option.map_some] at h
    right
    cases hy : ρ y with
    | none => simp [hy, boundA] at h
    | some v =>
      rw [hy] at h
      cases v with
      | int k i =>
        simp only [boundA] at h
        split at h
        · rename_i hb
          simp only [Option.some.injEq] at h
          exact ⟨y, k, i, rfl, (hρ _ _ hy).int_inv, hb, h.symm⟩
        · cases h
      | _ => simp [boundA] at h

/-- The machine's three bounds: without a third. -/
theorem run_bounds2 (hρ : RhoRel μ ρ ρ') {lo hi : Option Operand} {n c c' h l : Nat} (hc : c ≤ c') (hh : boundA (hi.map ρ) n c = some h) (hl : boundA (lo.map ρ) 0 h = some l) (w : World) :
    (Instr.sliceBounds true n c' (lo.map ρ') (hi.map ρ') none).run P w = .ok (l, h, c') w ∧ l ≤ h := by
  have hlh : l ≤ h := by
    rcases boundA_run hρ hl with ⟨_, rfl⟩ | ⟨_, _, i, _, _, hb, rfl⟩
    · omega
    · omega
  refine ⟨?_, hlh⟩
  unfold Instr.sliceBounds
  rcases boundA_run hρ hh with ⟨rfl, rfl⟩ | ⟨y, k, i, rfl, hy, hb, rfl⟩
  · rcases boundA_run hρ hl with ⟨rfl, rfl⟩ | ⟨y, k, i, rfl, hy, hb, rfl⟩
    · simp
    · simp [run_sliceBound hy hb]
  · have hb' : 0 ≤ i ∧ i ≤ (c' : Int) := ⟨hb.1, by omega⟩
    rcases boundA_run hρ hl with ⟨rfl, rfl⟩ | ⟨y2, k2, i2, rfl, hy2, hb2, rfl⟩
    · simp [run_sliceBound hy hb']
    · simp [run_sliceBound hy hb', run_sliceBound hy2 hb2]
theorem run_bounds3 (hρ : RhoRel μ ρ ρ') {lo : Option Operand} {hi mx : Operand} {n c c' m h l : Nat} (hc : c ≤ c') (hm : boundA (some (ρ mx)) c c = some m) (hh : boundA (some (ρ hi)) n m = some h)
    (hl : boundA (lo.map ρ) 0 h = some l) (w : World) :
    (Instr.sliceBounds true n c' (lo.map ρ') (some (ρ' hi)) (some (ρ' mx))).run P w = .ok (l, h, m) w ∧ l ≤ h ∧ h ≤ m ∧ m ≤ c := by
  unfold Instr.sliceBounds
  rcases boundA_run (x := some mx) hρ hm with ⟨h0, _⟩ | ⟨y, k, i, e, hy, hb, rfl⟩
  · cases h0
  cases e
  rcases boundA_run (x := some hi) hρ hh with ⟨h0, _⟩ | ⟨y2, k2, i2, e, hy2, hb2, rfl⟩
  · cases h0
  cases e
  have hb' : 0 ≤ i ∧ i ≤ (c' : Int) := ⟨hb.1, by omega⟩
  rcases boundA_run hρ hl with ⟨rfl, rfl⟩ | ⟨y3, k3, i3, rfl, hy3, hb3, rfl⟩
  · refine ⟨?_, by omega, by omega, by omega⟩
    simp [run_sliceBound hy hb', run_sliceBound hy2 hb2]
  · refine ⟨?_, by omega, by omega, by omega⟩
    simp [run_sliceBound hy hb', run_sliceBound hy2 hb2, run_sliceBound hy3 hb3]

theorem VRel.slice_inv {μ : Mu} {i o : Nat} {sp : Option Nat} {n c : Nat} {v : Value} (h : VRel μ (.slice (some ⟨i, o, sp⟩) n c) v) :
    ∃ x, μ i = some x ∧
      ((sp = none ∧ ∃ c', v = .slice (some ⟨x.b, o + x.s, none⟩) n c' ∧ c ≤ c' ∧ o + x.s + c' * x.z ≤ x.R) ∨
       (sp = some 0 ∧ v = .slice (some ⟨x.b, o + x.s, none⟩) n c) ∨
       (sp = some 1 ∧ n = 0 ∧ c = 0 ∧ ∃ p c', v = .slice (some p) 0 c' ∧ (c' = 0 ∨ (p = ⟨x.b, o + x.s, none⟩ ∧ o + x.s + c' * x.z ≤ x.R)))) := by
  cases h with
  | flat h => simp [isFlat] at h
  | sl h hc hR => exact ⟨_, h, .inl ⟨rfl, _, rfl, hc, hR⟩⟩
  | slx h => exact ⟨_, h, .inr (.inl ⟨rfl, rfl⟩)⟩
  | sle h hp => exact ⟨_, h, .inr (.inr ⟨rfl, rfl, rfl, _, _, rfl, hp⟩)⟩

theorem sliceA_sound {t : TypeId} {x : Operand} {lo hi mx : Option Operand} (ho : o.op = .slice t x lo hi mx) (h : Sim B w0 μ H w) (hρ : RhoRel μ ρ ρ')
    (he : sliceA P t (ρ x) (lo.map ρ) (hi.map ρ) (mx.map ρ) H = some r) : ARel B w0 μ r ((execOp ρ' o).run P w) := by
  unfold sliceA at he
  split at he
  · rename_i i off sp n c el hx hu
    obtain ⟨y, hy, hv⟩ := (hρ _ _ hx).slice_inv
    split at he
    · rename_i ti hti
      have hrun : ∀ (a : Addr) (c' l hh m : Nat), ρ' x = .slice (some a) n c' → (Instr.sliceBounds true n c' (lo.map ρ') (hi.map ρ') (mx.map ρ')).run P w = .ok (l, hh, m) w →
          (execOp ρ' o).run P w = .ok (.value (.slice (if m = l then some a else some (a.add (l * ti.size))) (hh - l) (m - l))) w := by
        intro a c' l hh m hxv hb
        simp only [execOp, ho, Instr.sliceAt, hxv, Sem.run_bind, run_und hu, Result.andThen_ok, Instr.slice, hb, run_sz hti, Sem.run_pure, Option.map_some]
      cases mx with
      | some m0 =>
        cases hi with
        | none => simp at he
        | some h0 =>
          simp only [Option.map_some] at he hrun
          split at he
          · cases he
          · rename_i hsp
            split at he
            · rename_i m hm
              split at he
              · rename_i hh hhh
                split at he
                · rename_i l hl
                  simp only [Option.some.injEq] at he
                  subst he
                  have key : ∀ c', c ≤ c' → ρ' x = .slice (some ⟨y.b, off + y.s, none⟩) n c' → ARel B w0 μ (.val (.slice (some ⟨i, if m = l then off else off + l * ti.size, some 0⟩) (hh - l) (m - l)) H) ((execOp ρ' o).run P w) := by
                    intro c' hc' hxv
                    obtain ⟨hb, _, _, _⟩ := run_bounds3 (P := P) hρ hc' hm hhh hl w
                    refine ⟨_, w, hrun _ _ _ _ _ hxv hb, ?_, h⟩
                    by_cases hml : m = l
                    · simp only [hml, if_true]; exact .slx hy
                    · simp only [if_neg hml, addr_add]
                      rw [show off + y.s + l * ti.size = off + l * ti.size + y.s by omega]
                      exact .slx hy
                  rcases hv with ⟨_, c', hxv, hc', _⟩ | ⟨_, hxv⟩ | ⟨hs1, _⟩
                  · exact key c' hc' hxv
                  · exact key c (Nat.le_refl _) hxv
                  · subst hs1; simp at hsp
                · cases he
              · cases he
            · cases he
      | none =>
        simp only [Option.map_none] at he hrun
        split at he
        · rename_i hh hhh
          split at he
          · rename_i l hl
            split at he
            · rename_i hsp
              have hsp : sp = some 0 := by simpa using hsp
              simp only [Option.some.injEq] at he
              subst he
              rcases hv with ⟨hs1, _⟩ | ⟨_, hxv⟩ | ⟨hs1, _⟩
              · rw [hs1] at hsp; cases hsp
              · obtain ⟨hb, hlh⟩ := run_bounds2 (P := P) hρ (Nat.le_refl c) hhh hl w
                refine ⟨_, w, hrun _ _ _ _ _ hxv hb, ?_, h⟩
                by_cases hml : c = l
                · simp only [hml, if_true]; exact .slx hy
                · simp only [if_neg hml, addr_add]
                  rw [show off + y.s + l * ti.size = off + l * ti.size + y.s by omega]
                  exact .slx hy
              · rw [hs1] at hsp; simp at hsp
            · split at he
              · rename_i hsp
                have hsp : sp = some 1 := by simpa using hsp
                simp only [Option.some.injEq] at he
                subst he
                rcases hv with ⟨hs1, _⟩ | ⟨hs1, _⟩ | ⟨_, rfl, rfl, p, c', hxv, hp⟩
                · rw [hs1] at hsp; cases hsp
                · rw [hs1] at hsp; simp at hsp
                · obtain ⟨hb, hlh⟩ := run_bounds2 (P := P) hρ (Nat.zero_le c') hhh hl w
                  have hh0 : hh = 0 := by
                    rcases boundA_run hρ hhh with ⟨_, rfl⟩ | ⟨_, _, j, _, _, hb, rfl⟩
                    · rfl
                    · omega
                  have hl0 : l = 0 := by omega
                  subst hl0; subst hh0
                  refine ⟨_, w, hrun _ _ _ _ _ hxv hb, ?_, h⟩
                  have : (if c' = 0 then some p else some (p.add (0 * ti.size))) = some p := by
                    split
                    · rfl
                    · simp [Addr.add]
                  simp only [this, Nat.sub_zero]
                  exact .sle hy hp
              · split at he
                · rename_i hsp
                  have hsp : sp = none := by simpa using hsp
                  split at he
                  · rename_i q hq
                    obtain ⟨c0, fr, _, e1, e2, e3, _⟩ := h.cells i q y hq hy
                    split at he
                    · cases he
                    · rename_i hz
                      have hz : q.z = ti.size := by simpa using hz
                      rcases hv with ⟨_, c', hxv, hc', hR⟩ | ⟨hs1, _⟩ | ⟨hs1, _⟩
                      · obtain ⟨hb, hlh⟩ := run_bounds2 (P := P) hρ hc' hhh hl w
                        have hhc : hh ≤ c ∨ hh = n := by
                          rcases boundA_run hρ hhh with ⟨_, rfl⟩ | ⟨_, _, j, _, _, hb, rfl⟩
                          · exact .inr rfl
                          · left; omega
                        have hzz : y.z = ti.size := by have := e3.1; omega
                        split at he
                        · rename_i hlc
                          simp only [Option.some.injEq] at he
                          subst he
                          refine ⟨_, w, hrun _ _ _ _ _ hxv hb, ?_, h⟩
                          have hml : ¬ (c' = l) := by omega
                          simp only [if_neg hml, addr_add]
                          rw [show off + y.s + l * ti.size = off + l * ti.size + y.s by omega]
                          refine .sl hy (by omega) ?_
                          rw [hzz, Nat.sub_mul]
                          rw [hzz] at hR
                          have : l * ti.size ≤ c' * ti.size := Nat.mul_le_mul_right _ (by omega)
                          omega
                        · rename_i hlc
                          split at he
                          · rename_i hend
                            simp only [Bool.and_eq_true, beq_iff_eq] at hend
                            obtain ⟨rfl, rfl⟩ := hend
                            simp only [Option.some.injEq] at he
                            subst he
                            refine ⟨_, w, hrun _ _ _ _ _ hxv hb, ?_, h⟩
                            simp only [Nat.sub_self, addr_add]
                            by_cases hml : c' = hh
                            · simp only [hml, if_true, Nat.sub_self]
                              exact .sle hy (.inl rfl)
                            · simp only [if_neg hml]
                              refine .sle hy (.inr ⟨by simp; omega, ?_⟩)
                              rw [hzz, Nat.sub_mul]
                              rw [hzz] at hR
                              have : hh * ti.size ≤ c' * ti.size := Nat.mul_le_mul_right _ (by omega)
                              omega
                          · cases he
                      · rw [hs1] at hsp; cases hsp
                      · rw [hs1] at hsp; cases hsp
                  · cases he
                · cases he
          · cases he
        · cases he
    · cases he
  · cases he

/-! ## Fields and elements -/

def fieldAddrA (P : Program) (s : TypeId) (v : Option Value) (f : Nat) (H : Hp) : Option AR :=
  match v, P.underlying s with
  | some (.pointer (some ⟨i, o, none⟩)), some (.struct fields) =>
    match fields.toList[f]? with
    | some fl => match P.info? fl.type with
      | some ti => if ti.size == 0 then none else some (.val (.pointer (some ⟨i, o + fl.offset, none⟩)) H)
      | none => none
    | none => none
  | _, _ => none
theorem fieldAddrA_sound {s : TypeId} {x : Operand} {f : Nat} (ho : o.op = .fieldAddr s x f) (h : Sim B w0 μ H w) (hρ : RhoRel μ ρ ρ') (he : fieldAddrA P s (ρ x) f H = some r) : ARel B w0 μ r ((execOp ρ' o).run P w) := by
  unfold fieldAddrA at he
  split at he
  · rename_i i off fields hx hu
    obtain ⟨y, hy, hv⟩ := (hρ _ _ hx).ptr_inv
    split at he
    · rename_i fl hfl
      split at he
      · rename_i ti hti
        split at he
        · cases he
        · rename_i hz
          have hz : ti.size ≠ 0 := by simpa using hz
          simp only [Option.some.injEq] at he
          subst he
          rw [Array.getElem?_toList] at hfl
          refine ⟨.pointer (some ⟨y.b, off + y.s + fl.offset, none⟩), w, ?_, ?_, h⟩
          · simp only [execOp, ho, Instr.fieldAt, hv, Sem.run_bind, run_und hu, Result.andThen_ok, hfl, Instr.sureAddr, Sem.run_pure, fieldPlace, run_sz hti, if_neg hz, addr_add]
          · rw [show off + y.s + fl.offset = off + fl.offset + y.s by omega]; exact .ptr hy
      · cases he
    · cases he
  · cases he

/-- A part of a struct or an array. -/
def partA (P : Program) (t : TypeId) (cs : List Value) (off : Nat) : Option Value :=
  match P.underlying t with
  | some d =>
    if isAggT d then
      match P.info? t with
      | some ti => some (.agg ((cs.drop off).take ti.size).toArray)
      | none => none
    else cs[off]?
  | none => none
theorem partA_run {t : TypeId} {cs cs' : Array Value} {off : Nat} {v : Value} (hl : LRel μ cs.toList cs'.toList) (he : partA P t cs.toList off = some v) :
    ∃ v', (part t cs' off).run P w = .ok v' w ∧ VRel μ v v' := by
  unfold partA at he
  split at he
  · rename_i d hd
    split at he
    · rename_i hag
      split at he
      · rename_i ti hti
        simp only [Option.some.injEq] at he
        subst he
        refine ⟨.agg (cs'.extract off (off + ti.size)), ?_, ?_⟩
        · simp only [part, Sem.run_bind, run_isAgg hd, hag, Result.andThen_ok, if_true, run_sz hti, Sem.run_pure]
        · have := (hl.drop off).take ti.size
          have e : (cs'.extract off (off + ti.size)).toList = (cs'.toList.drop off).take ti.size := by
            rw [Array.toList_extract, List.extract_eq_take_drop]; congr 1; omega
          exact .agg (by rw [e]; simpa using this.1) (by rw [e]; simpa using this.2)
      · cases he
    · rename_i hag
      obtain ⟨v', hv', hrel⟩ := hl.get? he
      rw [Array.getElem?_toList] at hv'
      exact ⟨v', by simp [part, run_isAgg hd, hag, hv'], hrel⟩
  · cases he

theorem VRel.agg_inv {μ : Mu} {c : Array Value} {v : Value} (h : VRel μ (.agg c) v) : ∃ c', v = .agg c' ∧ LRel μ c.toList c'.toList := by
  cases h with
  | flat h => simp [isFlat] at h
  | agg h1 h2 => exact ⟨_, rfl, h1, h2⟩

def fieldA (P : Program) (t : TypeId) (v : Option Value) (f : Nat) (H : Hp) : Option AR :=
  match v, P.underlying t with
  | some (.agg cs), some (.struct fields) =>
    match fields.toList[f]? with
    | some fl => moveA (partA P fl.type cs.toList fl.offset) H
    | none => none
  | _, _ => none
theorem fieldA_sound {t : TypeId} {x : Operand} {f : Nat} (ho : o.op = .field t x f) (h : Sim B w0 μ H w) (hρ : RhoRel μ ρ ρ') (he : fieldA P t (ρ x) f H = some r) : ARel B w0 μ r ((execOp ρ' o).run P w) := by
  unfold fieldA at he
  split at he
  · rename_i cs fields hx hu
    obtain ⟨c', hv, hl⟩ := (hρ _ _ hx).agg_inv
    split at he
    · rename_i fl hfl
      rw [Array.getElem?_toList] at hfl
      unfold moveA at he
      split at he
      · rename_i v hp
        simp only [Option.some.injEq] at he
        subst he
        obtain ⟨v', hrun, hrel⟩ := partA_run (w := w) hl hp
        exact ⟨v', w, by simp only [execOp, ho, Instr.field, hv, Sem.run_bind, run_und hu, Result.andThen_ok, hfl, asAgg, Sem.run_pure, hrun], hrel, h⟩
      · cases he
    · cases he
  · cases he

def indexAddrA (P : Program) (t : TypeId) (x ix : Option Value) (H : Hp) : Option AR :=
  match ix, P.underlying t with
  | some (.int _ n), some d =>
    match d, x with
    | .array len el, some (.pointer (some ⟨i, o, none⟩)) =>
      match P.info? el with
      | some ti => if 0 ≤ n ∧ n < len then some (.val (.pointer (some ⟨i, o + n.toNat * ti.size, none⟩)) H) else none
      | none => none
    | .slice el, some (.slice (some ⟨i, o, sp⟩) len _) =>
      match P.info? el with
      | some ti => if sp == some 1 then none else if 0 ≤ n ∧ n < len then some (.val (.pointer (some ⟨i, o + n.toNat * ti.size, none⟩)) H) else none
      | none => none
    | _, _ => none
  | _, _ => none
theorem indexAddrA_sound {t : TypeId} {x ix : Operand} (ho : o.op = .indexAddr t x ix) (h : Sim B w0 μ H w) (hρ : RhoRel μ ρ ρ') (he : indexAddrA P t (ρ x) (ρ ix) H = some r) : ARel B w0 μ r ((execOp ρ' o).run P w) := by
  unfold indexAddrA at he
  split at he
  · rename_i k n d hix hu
    have hiv := (hρ _ _ hix).int_inv
    split at he
    · rename_i len el i off hx
      obtain ⟨y, hy, hv⟩ := (hρ _ _ hx).ptr_inv
      split at he
      · rename_i ti hti
        split at he
        · rename_i hb
          simp only [Option.some.injEq] at he
          subst he
          refine ⟨.pointer (some ⟨y.b, off + y.s + n.toNat * ti.size, none⟩), w, ?_, ?_, h⟩
          · simp only [execOp, ho, Instr.indexAt, hiv, hv, asIntOf, Sem.run_bind, Sem.run_pure, Result.andThen_ok, run_und hu, Instr.sureAddr, if_pos hb, run_sz hti, addr_add]
          · rw [show off + y.s + n.toNat * ti.size = off + n.toNat * ti.size + y.s by omega]; exact .ptr hy
        · cases he
      · cases he
    · rename_i el i off sp len cap hx
      obtain ⟨y, hy, hv⟩ := (hρ _ _ hx).slice_inv
      split at he
      · rename_i ti hti
        split at he
        · cases he
        · rename_i hsp
          split at he
          · rename_i hb
            simp only [Option.some.injEq] at he
            subst he
            have key : ∀ c', ρ' x = .slice (some ⟨y.b, off + y.s, none⟩) len c' → ARel B w0 μ (.val (.pointer (some ⟨i, off + n.toNat * ti.size, none⟩)) H) ((execOp ρ' o).run P w) := by
              intro c' hxv
              refine ⟨.pointer (some ⟨y.b, off + y.s + n.toNat * ti.size, none⟩), w, ?_, ?_, h⟩
              · simp only [execOp, ho, Instr.indexAt, hiv, hxv, asIntOf, Sem.run_bind, Sem.run_pure, Result.andThen_ok, run_und hu, if_pos hb, run_sz hti, addr_add]
              · rw [show off + y.s + n.toNat * ti.size = off + n.toNat * ti.size + y.s by omega]; exact .ptr hy
            rcases hv with ⟨_, c', hxv, _⟩ | ⟨_, hxv⟩ | ⟨hs1, _⟩
            · exact key _ hxv
            · exact key _ hxv
            · subst hs1; simp at hsp
          · cases he
      · cases he
    · cases he
  · cases he

def indexA (P : Program) (t : TypeId) (x ix : Option Value) (H : Hp) : Option AR :=
  match ix, P.underlying t, x with
  | some (.int _ n), some (.array len el), some (.agg cs) =>
    match P.info? el with
    | some ti => if 0 ≤ n ∧ n < len then moveA (partA P el cs.toList (n.toNat * ti.size)) H else none
    | none => none
  | _, _, _ => none
theorem indexA_sound {t : TypeId} {x ix : Operand} (ho : o.op = .index t x ix) (h : Sim B w0 μ H w) (hρ : RhoRel μ ρ ρ') (he : indexA P t (ρ x) (ρ ix) H = some r) : ARel B w0 μ r ((execOp ρ' o).run P w) := by
  unfold indexA at he
  split at he
  · rename_i k n len el cs hix hu hx
    have hiv := (hρ _ _ hix).int_inv
    obtain ⟨c', hv, hl⟩ := (hρ _ _ hx).agg_inv
    split at he
    · rename_i ti hti
      split at he
      · rename_i hb
        unfold moveA at he
        split at he
        · rename_i v hp
          simp only [Option.some.injEq] at he
          subst he
          obtain ⟨v', hrun, hrel⟩ := partA_run (w := w) hl hp
          exact ⟨v', w, by simp only [execOp, ho, Instr.index, hv, hiv, asIntOf, Sem.run_bind, Sem.run_pure, run_und hu, Result.andThen_ok, if_pos hb, run_sz hti, hrun], hrel, h⟩
        · cases he
      · cases he
    · cases he
  · cases he

/-- 'x.(T)', T no interface. -/
def assertA (P : Program) (x : Option Value) (t : TypeId) (ok : Bool) (H : Hp) : Option AR :=
  match P.underlying t with
  | some (.interface _) => none
  | some _ =>
    match x with
    | some (.iface u v) =>
      if u = t then some (.val (if ok then .tuple #[v, .bool true] else v) H)
      else if ok then match P.info? t with
        | some ti => match ti.zero with
          | some z => if flatD 3 z then some (.val (.tuple #[z, .bool false]) H) else none
          | none => none
        | none => none
      else none
    | _ => none
  | none => none
theorem assertA_sound {x : Operand} {xt t : TypeId} {ok : Bool} (ho : o.op = .typeAssert x xt t ok) (h : Sim B w0 μ H w) (hρ : RhoRel μ ρ ρ') (he : assertA P (ρ x) t ok H = some r) : ARel B w0 μ r ((execOp ρ' o).run P w) := by
  unfold assertA at he
  split at he
  · cases he
  · rename_i d hni hd
    split at he
    · rename_i u v hx
      have hr := hρ _ _ hx
      generalize hr' : ρ' x = u' at hr
      cases hr with
      | flat hh => simp [isFlat] at hh
      | iface hv =>
        rename_i v'
        have hp2 : ∀ (a a' : Value) (b : Bool), VRel μ a a' → VRel μ (.tuple #[a, .bool b]) (.tuple #[a', .bool b]) := by
          intro a a' b hab
          have := ((LRel.nil μ).cons (.flat (v := .bool b) rfl)).cons hab
          exact .tup this.1 this.2
        split at he
        · rename_i hut
          simp only [Option.some.injEq] at he
          subst he
          refine ⟨if ok then .tuple #[v', .bool true] else v', w, ?_, ?_, h⟩
          · simp only [execOp, ho, hr', Instr.typeAssert, Sem.run_bind, run_und hd, Result.andThen_ok]
            cases d <;> first | (simp only [hut, if_true, Sem.run_pure, Result.andThen_ok]; done) | exact absurd rfl (hni _)
          · cases ok
            · exact hv
            · exact hp2 _ _ _ hv
        · rename_i hut
          split at he
          · rename_i hok
            split at he
            · rename_i ti hti
              split at he
              · rename_i z hz
                split at he
                · rename_i hfz
                  simp only [Option.some.injEq] at he
                  subst he
                  refine ⟨.tuple #[z, .bool false], w, ?_, hp2 _ _ _ (.of_flatD 3 hfz), h⟩
                  simp only [execOp, ho, hr', Instr.typeAssert, Sem.run_bind, run_und hd, Result.andThen_ok]
                  cases d <;> first | (simp only [if_neg hut, hok, if_true, Sem.run_bind, run_zero hti hz, Sem.run_pure, Result.andThen_ok]; done) | exact absurd rfl (hni _)
                · cases he
              · cases he
            · cases he
          · cases he
    · cases he
  · cases he
end

end
end Go.Proofs.YtpmjpieiajdcgaaGreat
