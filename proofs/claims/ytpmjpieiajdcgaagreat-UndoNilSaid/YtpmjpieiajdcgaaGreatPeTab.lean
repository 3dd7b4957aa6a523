/- PE, part 28: runs with some calls proved ahead; runs at open arguments. -/
import Derived.Test.YtpmjpieiajdcgaaGreatPeQ8
namespace Go.Proofs.YtpmjpieiajdcgaaGreat
open Go Go.RowKit
noncomputable section

/-- What was known stays known where nothing old turns. -/
theorem Sim.grow {B : Nat} {w0 w w' : World} {μ : Mu} {H : Hp} (h : Sim B w0 μ H w) (hb : Below w.heap.size w w') : Sim B w0 μ H w' where
  below := h.below.trans (hb.mono h.base)
  base := Nat.le_trans h.base hb.size
  wf := h.wf
  fin := h.fin
  cells := by
    intro i r x hr hx
    obtain ⟨c', fr, h1, h2⟩ := h.cells i r x hr hx
    refine ⟨c', fr, ?_, h2⟩
    rw [hb.block _ (Array.getElem?_eq_some_iff.1 h1).1, h1]
  iter := by
    intro i s p x hi hx
    obtain ⟨h1, h2, h3⟩ := h.iter i s p x hi hx
    refine ⟨h1, h2, ?_⟩
    rw [hb.block _ (Array.getElem?_eq_some_iff.1 h3).1, h3]
  isep := h.isep
  sep := h.sep
  top := h.top
  cnt := h.cnt

/-- A call without arguments whose answer is known. -/
def tab1 (g : FuncId) (v : Value) (call : CallFn) : CallFn := fun f args H => bif f == g && args.isEmpty then some (.ret v, H) else call f args H
theorem tab1_ok {P : Program} {g : FuncId} {v : Value} {call : CallFn} (hv : isFlat v = true) (hg : ∀ w, Calls P g #[] w fun e w' => e = .returned v ∧ Below w.heap.size w w') (hc : CallOk P call) : CallOk P (tab1 g v call) := by
  intro f args H res H' h B w0 μ w args' hs hl
  unfold tab1 at h
  cases hcond : (f == g && args.isEmpty) with
  | false => rw [hcond] at h; exact hc f args H res H' h B w0 μ w args' hs hl
  | true =>
    rw [hcond] at h
    simp only [cond_true, Option.some.injEq, Prod.mk.injEq] at h
    obtain ⟨rfl, rfl⟩ := h
    simp only [Bool.and_eq_true, beq_iff_eq, Array.isEmpty_iff] at hcond
    obtain ⟨rfl, rfl⟩ := hcond
    have hl' : args' = #[] := by
      have := hl.nil_inv
      cases args'
      simp_all
    subst hl'
    refine (hg w).mono ?_
    rintro e w' ⟨rfl, hb⟩
    exact ⟨μ, .refl _ _, Nat.le_refl _, hs.grow hb, v, rfl, .flat hv⟩

/-- A memory of which nothing is known but that some rows have numbers. -/
def Hn (n : Nat) : Hp := ⟨.e, n, .e⟩
theorem Hn_row (n i : Nat) (r : Row) : (Hn n).row i ≠ some r := by
  intro h
  have := (Hp.row_eq.1 h).1
  cases this
theorem Hn_sim {n : Nat} {μ : Mu} (hμ : ∀ i x, μ i = some x → i < n) (w : World) : Sim w.heap.size w μ (Hn n) w where
  below := .refl _ _
  base := Nat.le_refl _
  wf := ⟨fun i x h => (by cases h), fun i c el z k h => (by cases h), fun k x h => (by cases h)⟩
  fin := hμ
  cells := fun i r x h => absurd h (Hn_row n i r)
  iter := fun i s p x h => (by cases h)
  isep := fun i s p x j s' p' y h => (by cases h)
  sep := fun i r x j q y h => absurd h (Hn_row n i r)
  top := fun i r x q y h => absurd h (Hn_row n i r)
  cnt := fun i r j q h => absurd h (Hn_row n i r)

/-- One function's run over calls that are proved. -/
theorem q_open {P : Program} {ext : FuncId → Option ExtK} (hf : Fit P ext) {K : Nat} {call : CallFn} (hc : CallOk P call) {f : FuncId} {b : Bool} {n : Nat} {args args' : Array Value} {μ : Mu} (hμ : ∀ i x, μ i = some x → i < n)
    (hl : LRel μ args.toList args'.toList) (h : isB b (qStep P ext K (drawQ P ext) call f args (Hn n)) = true) (w : World) :
    Calls P f args' w fun e w' => e = .returned (.bool b) ∧ Below w.heap.size w w' := by
  unfold isB at h
  split at h
  · rename_i c H' hr
    have hcb : c = b := by simpa using h
    subst hcb
    have h1 := qStep_ok (fun _ hn => drawQ_ok hn call) hr
    refine Calls.mono (evStep_sound hf K (drawOk hf hc) hc f args (Hn n) _ _ h1 _ _ _ w args' (Hn_sim hμ w) hl) ?_
    rintro e w' ⟨ν, _, _, hs, v', he, hv⟩
    exact ⟨by rw [he, hv.isFlat_eq rfl], hs.below⟩
  · cases h
end
end Go.Proofs.YtpmjpieiajdcgaaGreat
