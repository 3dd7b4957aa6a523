/- PE, part 9: append's soundness; copy and other built-in functions; calls. -/
import Derived.Test.YtpmjpieiajdcgaaGreatPeOps6
namespace Go.Proofs.YtpmjpieiajdcgaaGreat
open Go Go.RowKit
noncomputable section

section
variable {P : Program} {B : Nat} {w0 w : World} {μ : Mu} {H : Hp} {ρ : Rho} {ρ' : Operand → Value} {o : Oper} {r : AR}

/-- A run that ends with a value. -/
def VRun (B : Nat) (w0 : World) (ν : Mu) : AR → Result Value → Prop
  | .val v H, r => ∃ v' w', r = .ok v' w' ∧ VRel ν v v' ∧ Sim B w0 ν H w'
  | _, _ => False

theorem LRel.oneCell {l l' : List Value} (h : LRel μ l l') (h1 : l.all (·.oneCell') = true) : ∀ v ∈ l', v.oneCell' = true := by
  intro v hv
  obtain ⟨j, hj⟩ := List.mem_iff_getElem?.1 hv
  have hj2 : j < l.length := by rw [h.1]; exact (List.getElem?_eq_some_iff.1 hj).1
  obtain ⟨v', hv', hr'⟩ := h.get? (List.getElem?_eq_getElem hj2)
  rw [hj] at hv'; cases hv'
  rw [hr'.oneCell]; exact List.all_eq_true.1 h1 _ (List.getElem_mem hj2)

theorem zeroCells_size (z : Value) (k : Nat) : (Builtin.zeroCells z.cells k).size = k * z.cells.size := by simp [Builtin.zeroCells]

theorem take_two (a b : List Value) (c : Array Value) : (a.toArray ++ b.toArray ++ c).toList.take (a.length + b.length) = a ++ b := by
  rw [Array.toList_append, Array.toList_append]
  show ((a ++ b) ++ c.toList).take _ = _
  rw [← List.length_append, List.take_left]

theorem appendA_sound {tys : Array TypeId} {args : List Value} {args' : Array Value} {t : TypeId} (h : Sim B w0 μ H w) (ha : LRel μ args args'.toList) (he : appendA P tys args H = some r) :
    ∃ ν, Mu.Ext H.n μ ν ∧ VRun B w0 ν r ((Builtin.append_ tys t args').run P w) := by
  unfold appendA at he
  split at he
  · rename_i sT xT s x htys
    obtain ⟨s', l1, e1, hs, ha⟩ := ha.cons_inv
    obtain ⟨x', l2, rfl, hx, ha⟩ := ha.cons_inv
    rw [ha.nil_inv] at e1
    have hargs : args' = #[s', x'] := by
      obtain ⟨l⟩ := args'
      simp only at e1
      rw [e1]
    have hty : tys = #[sT, xT] := by
      obtain ⟨l⟩ := tys
      simp only at htys
      rw [htys]
    subst hargs; subst hty
    split at he
    · rename_i el hu
      split at he
      · rename_i ti hti
        split at he
        · rename_i n new hmore
          obtain ⟨d, hd, hcount, hcellsAll⟩ := moreA_spec (B := B) (w0 := w0) (μ := μ) hx hti hmore
          split at he
          · cases he
          · rename_i hg
            simp only [Bool.or_eq_true, decide_eq_true_eq, beq_iff_eq, not_or, Nat.not_lt, gt_iff_lt, Bool.not_eq_true', Bool.not_eq_false] at hg
            obtain ⟨⟨⟨⟨hb1, hb2⟩, hb0⟩, hzn⟩, h1c⟩ := hg
            obtain ⟨z, hz, hzs⟩ : ∃ z, ti.zero = some z ∧ z.cells.size = ti.size := by
              unfold zeroFits at hzn
              split at hzn
              · rename_i z hz; exact ⟨z, hz, by simpa using hzn⟩
              · cases hzn
            have hk := h.drawn (w.drawn + 1)
            split at he
            · -- nil
              have hs' := hs.sliceNone_inv
              subst hs'
              split at he
              · rename_i hn0
                simp only [Option.some.injEq] at he
                subst he
                obtain ⟨new', hrel, hnlen, hcells⟩ := hcellsAll w h
                refine ⟨μ, .refl _ _, .slice none 0 0, w, ?_, .flat rfl, h⟩
                have := run_append_in (t := t) (base := none) (sl := 0) (sc := 0) (w' := w) hu hd hti hcount hcells (by omega) rfl
                simpa [hn0] using this
              · rename_i hn0
                simp only [Option.some.injEq] at he
                subst he
                obtain ⟨new', hrel, hnlen, hcells⟩ := hcellsAll _ hk
                have hnlen' : new'.length = n * ti.size := by rw [← hrel.1]; exact hnlen
                obtain ⟨cap, hcap, hrun⟩ := run_append_new (w := w) (t := t) (base := none) (sl := 0) (sc := 0) (old := #[]) hu hd hti hz hcount hcells (by omega) rfl (by simpa using hb1) hb0
                rw [Nat.zero_add] at hcap hrun
                have hcsz : (#[] ++ new'.toArray ++ Builtin.zeroCells z.cells (cap - n)).size = cap * ti.size := by
                  rw [Array.size_append, Array.size_append, zeroCells_size, hzs]
                  simp only [List.size_toArray, List.length_nil, hnlen', Nat.zero_add]
                  rw [← Nat.add_mul]; congr 1; omega
                refine ⟨_, .put _, _, _, hrun, ?_, hk.new (z := ti.size) (c := new) (c' := #[] ++ new'.toArray ++ Builtin.zeroCells z.cells (cap - n)) ?_ ?_ (0, 0) (.inl rfl)⟩
                · refine .sl (x := ⟨w.heap.size, 0, (#[] ++ new'.toArray ++ Builtin.zeroCells z.cells (cap - n)).size, ti.size⟩) (Mu.put_self _ _ _) hcap ?_
                  refine Nat.le_of_eq ?_
                  rw [Nat.zero_add, Nat.zero_add]
                  exact hcsz.symm
                · have : (#[] ++ new'.toArray ++ Builtin.zeroCells z.cells (cap - n)).toList.take new.length = new' := by
                    rw [hrel.1]; simp
                  rw [this]; exact hrel
                · rw [hrel.1]; simp
            · rename_i i off sp sl sc
              obtain ⟨y, hy, hcase⟩ := hs.slice_inv
              split at he
              · cases he
              · rename_i hb3
                have hb3 : (2 * (sl + n) + 256) * ti.bytes ≤ 2 ^ 40 := by omega
                split at he
                · -- room for sure
                  rename_i hle
                  split at he
                  · rename_i H' hput
                    simp only [Option.some.injEq] at he
                    subst he
                    obtain ⟨new', hrel, hnlen, hcells⟩ := hcellsAll w h
                    obtain ⟨w', hrun, hs2⟩ := Sim.puts P hy new new' (off + sl * ti.size) 0 H w h (by simpa using hput) hrel (fun v hv => List.all_eq_true.1 h1c v hv)
                    refine ⟨μ, .refl _ _, ?_⟩
                    have key : ∀ c', sc ≤ c' → s' = .slice (some ⟨y.b, off + y.s, none⟩) sl c' → (Builtin.append_ #[sT, xT] t #[s', x']).run P w = .ok (.slice (some ⟨y.b, off + y.s, none⟩) (sl + n) c') w' := by
                      intro c' hc' hsv
                      rw [hsv]
                      refine run_append_in (t := t) hu hd hti hcount hcells (by omega) ?_
                      simp only [addr_add]
                      rw [show off + y.s + sl * ti.size = off + sl * ti.size + y.s by omega]
                      exact hrun
                    rcases hcase with ⟨rfl, c', hsv, hc', hR⟩ | ⟨rfl, hsv⟩ | ⟨rfl, rfl, rfl, p, c', hsv, hp⟩
                    · exact ⟨_, w', key c' hc' hsv, .sl hy hc' hR, hs2⟩
                    · exact ⟨_, w', key sc (Nat.le_refl _) hsv, .slx hy, hs2⟩
                    · have hn0 : n = 0 := by omega
                      subst hn0
                      have : new = [] := List.eq_nil_of_length_eq_zero (by rw [hnlen, Nat.zero_mul])
                      subst this
                      have : new' = [] := hrel.nil_inv
                      subst this
                      have hw : w' = w := by simp only [storeCells, Sem.run_pure, Result.ok.injEq, true_and] at hrun; exact hrun.symm
                      subst hw
                      refine ⟨.slice (some p) 0 c', w', ?_, .sle hy hp, hs2⟩
                      rw [hsv]
                      exact run_append_in (t := t) hu hd hti hcount hcells (by omega) rfl
                  · cases he
                · rename_i hlt
                  split at he
                  · -- the capacity is known
                    rename_i hsp
                    have hsp : sp = some 0 := by simpa using hsp
                    split at he
                    · rename_i old hold
                      simp only [Option.some.injEq] at he
                      subst he
                      rcases hcase with ⟨e, _⟩ | ⟨_, hsv⟩ | ⟨e, _⟩
                      · rw [e] at hsp; cases hsp
                      · obtain ⟨new', hrel, hnlen, hcells⟩ := hcellsAll _ hk
                        have hnlen' : new'.length = n * ti.size := by rw [← hrel.1]; exact hnlen
                        obtain ⟨old', horel, horun⟩ := LRel.loadCells (P := P) hk hy hold
                        obtain ⟨_, _, holen, _⟩ := h.loads hy hold
                        have holen' : old'.length = sl * ti.size := by rw [← horel.1]; exact holen
                        obtain ⟨cap, hcap, hrun⟩ := run_append_new (w := w) (t := t) (base := some ⟨y.b, off + y.s, none⟩) (sl := sl) (sc := sc) (old := old'.toArray) hu hd hti hz hcount hcells hlt horun hb3 hb0
                        have hcsz : (old'.toArray ++ new'.toArray ++ Builtin.zeroCells z.cells (cap - (sl + n))).size = cap * ti.size := by
                          rw [Array.size_append, Array.size_append, zeroCells_size, hzs]
                          simp only [List.size_toArray, hnlen', holen']
                          rw [← Nat.add_mul, ← Nat.add_mul]; congr 1; omega
                        have hall := horel.append hrel
                        refine ⟨_, .put _, _, _, by rw [hsv]; exact hrun, ?_, hk.new (z := ti.size) (c := old ++ new) (c' := old'.toArray ++ new'.toArray ++ Builtin.zeroCells z.cells (cap - (sl + n))) ?_ ?_ (0, 0) (.inl rfl)⟩
                        · refine .sl (x := ⟨w.heap.size, 0, (old'.toArray ++ new'.toArray ++ Builtin.zeroCells z.cells (cap - (sl + n))).size, ti.size⟩) (Mu.put_self _ _ _) hcap ?_
                          refine Nat.le_of_eq ?_
                          rw [Nat.zero_add, Nat.zero_add]
                          exact hcsz.symm
                        · have : (old'.toArray ++ new'.toArray ++ Builtin.zeroCells z.cells (cap - (sl + n))).toList.take (old ++ new).length = old' ++ new' := by
                            rw [hall.1, List.length_append]; exact take_two _ _ _
                          rw [this]; exact hall
                        · rw [hall.1]; simp
                      · rw [e] at hsp; simp at hsp
                    · cases he
                  · rename_i hspn
                    split at he
                    · cases he
                    · rename_i hn0
                      split at he
                      · rename_i old H' hold hext
                        simp only [Option.some.injEq] at he
                        subst he
                        obtain ⟨q, _, _, hq, _, _, ⟨hqz, hz0⟩, _⟩ := Hp.extend_spec h.wf hext
                        obtain ⟨_, _, _, _, _, hyz, _⟩ := h.cells i q y hq hy
                        have hyz : y.z = ti.size := by rw [hyz.1, hqz]
                        -- both kinds as one: a base, a capacity, where its next cells would be
                        obtain ⟨a, c', hsv, hroom⟩ : ∃ a c', s' = .slice (some a) sl c' ∧ (sl + n ≤ c' → a = ⟨y.b, off + y.s, none⟩ ∧ off + y.s + c' * ti.size ≤ y.R) ∧
                            (sl ≠ 0 → a = ⟨y.b, off + y.s, none⟩) := by
                          rcases hcase with ⟨_, c', hsv, hc', hR⟩ | ⟨e, hsv⟩ | ⟨e, rfl, rfl, p, c', hsv, hp⟩
                          · exact ⟨_, c', hsv, fun _ => ⟨rfl, by rw [← hyz]; exact hR⟩, fun _ => rfl⟩
                          · rw [e] at hspn; simp at hspn
                          · refine ⟨p, c', hsv, fun hle => ?_, fun e => absurd rfl e⟩
                            rcases hp with rfl | ⟨rfl, hR⟩
                            · omega
                            · exact ⟨rfl, by rw [← hyz]; exact hR⟩
                        obtain ⟨hroom, haddr⟩ := hroom
                        by_cases hle : sl + n ≤ c'
                        · obtain ⟨rfl, hR⟩ := hroom hle
                          obtain ⟨new', hrel, hnlen, hcells⟩ := hcellsAll w h
                          have hRR : off + y.s + sl * ti.size + new.length ≤ y.R := by
                            rw [hnlen, Nat.add_assoc, ← Nat.add_mul]
                            have := Nat.mul_le_mul_right ti.size hle
                            omega
                          obtain ⟨w', hrun, hs2, _⟩ := h.extendIn P hy hext hrel (fun v hv => List.all_eq_true.1 h1c v hv) hRR
                          refine ⟨_, .put _, .slice (some ⟨y.b, off + y.s, none⟩) (sl + n) c', w', ?_, ?_, hs2⟩
                          · rw [hsv]
                            refine run_append_in (t := t) hu hd hti hcount hcells hle ?_
                            simp only [addr_add]
                            exact hrun
                          · have := VRel.sl (μ := μ.put H.n ⟨y.b, off + y.s, y.R, ti.size⟩) (i := H.n) (o := 0) (n := sl + n) (c := sl + n) (c' := c') (Mu.put_self _ _ _) hle (by simpa using hR)
                            simpa using this
                        · obtain ⟨new', hrel, hnlen, hcells⟩ := hcellsAll _ hk
                          have hnlen' : new'.length = n * ti.size := by rw [← hrel.1]; exact hnlen
                          obtain ⟨old', horel, horun⟩ := LRel.loadCells (P := P) hk hy hold
                          obtain ⟨_, _, holen, _⟩ := h.loads hy hold
                          have holen' : old'.length = sl * ti.size := by rw [← horel.1]; exact holen
                          have hfirst : (Builtin.firstCells ti.size sl (.slice (some a) sl c')).run P { w with drawn := w.drawn + 1 } = .ok old'.toArray { w with drawn := w.drawn + 1 } := by
                            show (loadCells a (sl * ti.size)).run P _ = _
                            by_cases hsl : sl = 0
                            · subst hsl
                              have : old' = [] := List.eq_nil_of_length_eq_zero (by rw [holen', Nat.zero_mul])
                              subst this
                              simp [loadCells, loadCellsFrom]
                            · rw [haddr hsl]; exact horun
                          obtain ⟨cap, hcap, hrun⟩ := run_append_new (w := w) (t := t) (base := some a) (sl := sl) (sc := c') (old := old'.toArray) hu hd hti hz hcount hcells hle hfirst hb3 hb0
                          have hcsz : (old'.toArray ++ new'.toArray ++ Builtin.zeroCells z.cells (cap - (sl + n))).size = cap * ti.size := by
                            rw [Array.size_append, Array.size_append, zeroCells_size, hzs]
                            simp only [List.size_toArray, hnlen', holen']
                            rw [← Nat.add_mul, ← Nat.add_mul]; congr 1; omega
                          have hall := horel.append hrel
                          obtain ⟨hs2, _⟩ := hk.extendNew hext hold (c' := old'.toArray ++ new'.toArray ++ Builtin.zeroCells z.cells (cap - (sl + n))) (by
                            have : (old'.toArray ++ new'.toArray ++ Builtin.zeroCells z.cells (cap - (sl + n))).toList.take (sl * ti.size + new.length) = old' ++ new' := by
                              rw [← holen', hrel.1]; exact take_two _ _ _
                            rw [this]; exact hall) (by rw [← holen', hrel.1]; simp)
                          refine ⟨_, .put _, _, _, by rw [hsv]; exact hrun, ?_, hs2⟩
                          refine .sl (x := ⟨w.heap.size, 0, (old'.toArray ++ new'.toArray ++ Builtin.zeroCells z.cells (cap - (sl + n))).size, ti.size⟩) (Mu.put_self _ _ _) hcap ?_
                          refine Nat.le_of_eq ?_
                          rw [Nat.zero_add, Nat.zero_add]
                          exact hcsz.symm
                      · cases he
            · cases he
        · cases he
      · cases he
    · cases he
  · cases he
end

end
end Go.Proofs.YtpmjpieiajdcgaaGreat
