/- PE, part 7: ranges over strings, the built-in functions. -/
import Derived.Test.YtpmjpieiajdcgaaGreatPeOps4
namespace Go.Proofs.YtpmjpieiajdcgaaGreat
open Go Go.RowKit
noncomputable section

section
variable {P : Program} {B : Nat} {w0 w : World} {μ : Mu} {H : Hp} {ρ : Rho} {ρ' : Operand → Value} {o : Oper} {r : AR}

/-! ## A string that is ranged over -/

def Hp.freshIter (H : Hp) (s : ByteArray) : Hp := ⟨H.b.set H.n (.iter s 0), H.n + 1, H.k⟩

theorem Hp.row_freshIter (wf : H.Wf) (s : ByteArray) {i : Nat} {q : Row} : (H.freshIter s).row i = some q ↔ H.row i = some q := by
  rw [Hp.row_eq, Hp.row_eq]
  simp only [Hp.freshIter, Tr.get_set]
  by_cases hi : i = H.n
  · subst hi
    simp only [if_true]
    constructor
    · rintro ⟨h, _⟩; simp at h
    · rintro ⟨h, _⟩; have := wf.b _ _ h; omega
  · rw [if_neg hi]

theorem Sim.freshIter (h : Sim B w0 μ H w) (s : ByteArray) : Sim B w0 (μ.put H.n ⟨w.heap.size, 0, 0, 0⟩) (H.freshIter s) (w.alloc (.stringIter s 0)) := by
  have hn := h.unknown
  have hmle := μ.le_put ⟨w.heap.size, 0, 0, 0⟩ hn
  have hget : (w.alloc (.stringIter s 0)).heap[w.heap.size]? = some (.stringIter s 0) := by show (w.heap.push _)[w.heap.size]? = _; simp
  have hold : ∀ (k : Nat) (o : Obj), w.heap[k]? = some o → (w.alloc (.stringIter s 0)).heap[k]? = some o := by
    intro k o hk
    have : k < w.heap.size := (Array.getElem?_eq_some_iff.1 hk).1
    rw [Below.heap_alloc _ _ _ this]; exact hk
  have hrow : ∀ {i : Nat} {q : Row}, (H.freshIter s).row i = some q → H.row i = some q ∧ i ≠ H.n := by
    intro i q hq
    have := (Hp.row_freshIter h.wf s).1 hq
    exact ⟨this, by have := (h.wf.row this).1; omega⟩
  refine { below := h.below.alloc h.base _, base := by have := h.base; simp; omega, wf := ⟨?_, ?_, ?_⟩, fin := ?_, cells := ?_, iter := ?_, isep := ?_, sep := ?_, top := ?_, cnt := ?_ }
  · intro i x hx
    simp only [Hp.freshIter, Tr.get_set] at hx ⊢
    split at hx
    · omega
    · have := h.wf.b _ _ hx; omega
  · intro i c el z k hx
    simp only [Hp.freshIter, Tr.get_set] at hx ⊢
    split at hx
    · simp at hx
    · have := h.wf.bk _ _ _ _ _ hx; omega
  · intro k x hx
    have := h.wf.k _ _ hx
    simp only [Hp.freshIter]; omega
  · intro j y hy
    simp only [Hp.freshIter]
    by_cases hj : j = H.n
    · omega
    · rw [Mu.put_ne _ _ hj] at hy; have := h.fin _ _ hy; omega
  · intro j q y hq hy
    obtain ⟨hq, hj⟩ := hrow hq
    rw [Mu.put_ne _ _ hj] at hy
    obtain ⟨c', fr, hg, e1, e2, e3, e4, e5⟩ := h.cells j q y hq hy
    exact ⟨c', fr, hold _ _ hg, e1, e2, e3, e4.mono hmle, e5⟩
  · intro j t p y hj hy
    by_cases he : j = H.n
    · subst he
      rw [Mu.put_self] at hy; cases hy
      simp only [Hp.freshIter, Tr.get_set_self, Option.some.injEq, Blk.iter.injEq] at hj
      obtain ⟨rfl, rfl⟩ := hj
      exact ⟨rfl, h.base, hget⟩
    · rw [Mu.put_ne _ _ he] at hy
      simp only [Hp.freshIter, Tr.get_set_ne _ _ he] at hj
      obtain ⟨a1, a2, a3⟩ := h.iter j t p y hj hy
      exact ⟨a1, a2, hold _ _ a3⟩
  · intro j t p y j' t' p' y' hj hj' hy hy' hb
    have hlt : ∀ (j : Nat) (t : ByteArray) (p : Nat) (y : Loc), H.b.get j = some (.iter t p) → μ j = some y → y.b < w.heap.size := by
      intro j t p y hj hy
      exact (Array.getElem?_eq_some_iff.1 (h.iter j t p y hj hy).2.2).1
    by_cases he : j = H.n
    · by_cases he' : j' = H.n
      · omega
      · subst he
        rw [Mu.put_self] at hy; cases hy
        rw [Mu.put_ne _ _ he'] at hy'
        simp only [Hp.freshIter, Tr.get_set_ne _ _ he'] at hj'
        have := hlt _ _ _ _ hj' hy'
        simp only at hb; omega
    · rw [Mu.put_ne _ _ he] at hy
      simp only [Hp.freshIter, Tr.get_set_ne _ _ he] at hj
      by_cases he' : j' = H.n
      · subst he'
        rw [Mu.put_self] at hy'; cases hy'
        have := hlt _ _ _ _ hj hy
        simp only at hb; omega
      · rw [Mu.put_ne _ _ he'] at hy'
        simp only [Hp.freshIter, Tr.get_set_ne _ _ he'] at hj'
        exact h.isep j t p y j' t' p' y' hj hj' hy hy' hb
  · intro j q y j' q' y' hq hq' hy hy' hb
    obtain ⟨hq, hj⟩ := hrow hq
    obtain ⟨hq', hj'⟩ := hrow hq'
    rw [Mu.put_ne _ _ hj] at hy
    rw [Mu.put_ne _ _ hj'] at hy'
    exact h.sep j q y j' q' y' hq hq' hy hy' hb
  · intro j q y q' y' hq hq' hk hy hy' hb
    obtain ⟨hq, hj⟩ := hrow hq
    obtain ⟨hq', hj'⟩ := hrow hq'
    rw [Mu.put_ne _ _ hj] at hy
    rw [Mu.put_ne _ _ hj'] at hy'
    exact h.top j q y q' y' hq hq' hk hy hy' hb
  · intro j q j' q' hq hq' hk h1
    exact h.cnt j q j' q' (hrow hq).1 (hrow hq').1 hk h1

def rangeA (P : Program) (t : TypeId) (v : Option Value) (H : Hp) : Option AR :=
  match v, P.underlying t with
  | some (.string s), some .string => some (.val (.pointer (some ⟨H.n, 0, none⟩)) (H.freshIter s))
  | _, _ => none
theorem rangeA_sound {t : TypeId} {x : Operand} (ho : o.op = .range t x) (h : Sim B w0 μ H w) (hρ : RhoRel μ ρ ρ') (he : rangeA P t (ρ x) H = some r) :
    ∃ ν, Mu.Ext H.n μ ν ∧ ARel B w0 ν r ((execOp ρ' o).run P w) := by
  unfold rangeA at he
  split at he
  · rename_i s hx hu
    simp only [Option.some.injEq] at he
    subst he
    have hv := (hρ _ _ hx).string_inv
    refine ⟨_, .put _, .pointer (some ⟨w.heap.size, 0, none⟩), w.alloc (.stringIter s 0), ?_, ?_, h.freshIter s⟩
    · simp only [execOp, ho, Instr.range, hv, Sem.run_bind, run_und hu, Result.andThen_ok, Sem.run_pure, run_newObj]
      rfl
    · exact .ptr (x := ⟨w.heap.size, 0, 0, 0⟩) (Mu.put_self _ _ _)
  · cases he

theorem run_getObj_iter {w : World} {b : Nat} {s : ByteArray} {p : Nat} (h : w.heap[b]? = some (.stringIter s p)) : (getObj b).run P w = .ok (.stringIter s p) w := by
  simp [getObj, Sem.run, h]
theorem run_setObj_iter {w : World} {b : Nat} {s : ByteArray} {p : Nat} (h : w.heap[b]? = some (.stringIter s p)) (x : Obj) : (setObj b x).run P w = .ok () { w with heap := w.heap.setIfInBounds b x } := by
  simp [setObj, Sem.run, h]

def nextA (it : Option Value) (str : Bool) (H : Hp) : Option AR :=
  match it, str with
  | some (.pointer (some ⟨i, 0, none⟩)), true =>
    match H.b.get i with
    | some (.iter s pos) =>
      if pos < s.size then
        let d := Utf8.decode s pos
        some (.val (.tuple #[.bool true, goInt pos, .int .i32 d.1]) ⟨H.b.set i (.iter s (pos + d.2)), H.n, H.k⟩)
      else some (.val (.tuple #[.bool false]) H)
    | _ => none
  | _, _ => none

theorem Sim.setIter (h : Sim B w0 μ H w) {i : Nat} {s : ByteArray} {p q : Nat} {x : Loc} (hi : H.b.get i = some (.iter s p)) (hx : μ i = some x) :
    Sim B w0 μ ⟨H.b.set i (.iter s q), H.n, H.k⟩ { w with heap := w.heap.setIfInBounds x.b (.stringIter s q) } := by
  obtain ⟨a1, a2, a3⟩ := h.iter i s p x hi hx
  have hlt : x.b < w.heap.size := (Array.getElem?_eq_some_iff.1 a3).1
  have hrow : ∀ {j : Nat} {q' : Row}, (⟨H.b.set i (.iter s q), H.n, H.k⟩ : Hp).row j = some q' → H.row j = some q' := by
    intro j q' hq
    rw [Hp.row_eq] at hq ⊢
    simp only [Tr.get_set] at hq
    split at hq
    · rename_i e; subst e; simp at hq
    · exact hq
  have hoth : ∀ j, j ≠ x.b → ({ w with heap := w.heap.setIfInBounds x.b (.stringIter s q) } : World).heap[j]? = w.heap[j]? := by
    intro j hj
    simp only [Array.getElem?_setIfInBounds]
    rw [if_neg (fun e => hj e.symm)]
  refine { below := h.below.trans ⟨rfl, rfl, rfl, by simp, fun k hk => hoth k (by omega)⟩, base := by have := h.base; simpa using this, wf := ⟨?_, ?_, h.wf.k⟩, fin := h.fin, cells := ?_, iter := ?_, isep := ?_, sep := ?_, top := ?_, cnt := ?_ }
  · intro j y hy
    simp only [Tr.get_set] at hy
    split at hy
    · rename_i e; subst e; exact h.wf.b _ _ hi
    · exact h.wf.b _ _ hy
  · intro j c el z k hy
    simp only [Tr.get_set] at hy
    split at hy
    · simp at hy
    · exact h.wf.bk _ _ _ _ _ hy
  · intro j q' y hq hy
    obtain ⟨c', fr, hg, rest⟩ := h.cells j q' y (hrow hq) hy
    refine ⟨c', fr, ?_, rest⟩
    rw [hoth _ ?_]; exact hg
    intro e; rw [e, a3] at hg; cases hg
  · intro j t p' y hj hy
    simp only [Tr.get_set] at hj
    split at hj
    · rename_i e; subst e
      rw [hx] at hy; cases hy
      simp only [Option.some.injEq, Blk.iter.injEq] at hj
      obtain ⟨rfl, rfl⟩ := hj
      refine ⟨a1, a2, ?_⟩
      simp [hlt]
    · rename_i e
      obtain ⟨b1, b2, b3⟩ := h.iter j t p' y hj hy
      refine ⟨b1, b2, ?_⟩
      rw [hoth _ ?_]; exact b3
      intro e2
      exact e (h.isep j t p' y i s p x hj hi hy hx e2)
  · intro j t p' y j' t' p'' y' hj hj' hy hy' hb
    simp only [Tr.get_set] at hj hj'
    have g : ∀ (j : Nat) (t : ByteArray) (p' : Nat), (if j = i then some (Blk.iter s q) else H.b.get j) = some (.iter t p') → ∃ t p', H.b.get j = some (.iter t p') := by
      intro j t p' hj
      split at hj
      · rename_i e; subst e; exact ⟨_, _, hi⟩
      · exact ⟨_, _, hj⟩
    obtain ⟨_, _, h1⟩ := g _ _ _ hj
    obtain ⟨_, _, h2⟩ := g _ _ _ hj'
    exact h.isep j _ _ y j' _ _ y' h1 h2 hy hy' hb
  · intro j q1 y j' q2 y' hq hq' hy hy' hb
    exact h.sep j q1 y j' q2 y' (hrow hq) (hrow hq') hy hy' hb
  · intro j q1 y q2 y' hq hq' hk hy hy' hb
    exact h.top j q1 y q2 y' (hrow hq) (hrow hq') hk hy hy' hb
  · intro j q1 j' q2 hq hq' hk h1
    exact h.cnt j q1 j' q2 (hrow hq) (hrow hq') hk h1

theorem nextA_sound {it : Operand} {str : Bool} (ho : o.op = .next it str) (h : Sim B w0 μ H w) (hρ : RhoRel μ ρ ρ') (he : nextA (ρ it) str H = some r) : ARel B w0 μ r ((execOp ρ' o).run P w) := by
  unfold nextA at he
  split at he
  · rename_i i hx
    obtain ⟨x, hx', hv⟩ := (hρ _ _ hx).ptr_inv
    split at he
    · rename_i s pos hi
      obtain ⟨a1, a2, a3⟩ := h.iter i s pos x hi hx'
      rw [a1, Nat.add_zero] at hv
      split at he
      · rename_i hlt
        simp only [Option.some.injEq] at he
        subst he
        refine ⟨.tuple #[.bool true, goInt pos, .int .i32 (Utf8.decode s pos).1], _, ?_, .of_flatD 2 rfl, h.setIter hi hx'⟩
        simp only [execOp, ho, Instr.next, hv, Sem.run_bind, run_getObj_iter a3, Result.andThen_ok, if_pos hlt, run_setObj_iter a3, Sem.run_pure]
      · rename_i hlt
        simp only [Option.some.injEq] at he
        subst he
        refine ⟨.tuple #[.bool false], w, ?_, .of_flatD 2 rfl, h⟩
        simp only [execOp, ho, Instr.next, hv, Sem.run_bind, run_getObj_iter a3, Result.andThen_ok, if_neg hlt, Sem.run_pure]
    · cases he
  · cases he
end

end
end Go.Proofs.YtpmjpieiajdcgaaGreat
