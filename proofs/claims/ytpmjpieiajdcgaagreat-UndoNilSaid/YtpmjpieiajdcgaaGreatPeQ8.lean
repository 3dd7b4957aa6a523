/- PE, part 26: whole calls made ready, from the empty memory. -/
import Derived.Test.YtpmjpieiajdcgaaGreatPeQ6
import Derived.Test.YtpmjpieiajdcgaaGreatPeQ7
namespace Go.Proofs.YtpmjpieiajdcgaaGreat
open Go Go.RowKit

/-- Whole calls, made ready, are the machine's. -/
theorem qFn_ok {P : Program} {ext : FuncId → Option ExtK} (hf : Fit P ext) (K d : Nat) : CallOk P (qFn P ext K (drawQ P ext) d) :=
  qFn_sound hf (fun call _ hn => drawQ_ok hn call) d

/-- The empty memory. -/
def H0 : Hp := ⟨.e, 1, .e⟩
theorem H0_row (i : Nat) (r : Row) : H0.row i ≠ some r := by
  intro h
  have := (Hp.row_eq.1 h).1
  cases this
theorem H0_sim (w : World) : Sim w.heap.size w (fun _ => none) H0 w where
  below := .refl _ _
  base := Nat.le_refl _
  wf := ⟨fun i x h => (by cases h), fun i c el z k h => (by cases h), fun k x h => (by cases h)⟩
  fin := fun i x h => (by cases h)
  cells := fun i r x h => absurd h (H0_row i r)
  iter := fun i s p x h => (by cases h)
  isep := fun i s p x j s' p' y h => (by cases h)
  sep := fun i r x j q y h => absurd h (H0_row i r)
  top := fun i r x q y h => absurd h (H0_row i r)
  cnt := fun i r j q h => absurd h (H0_row i r)

/-- Does the run end with this truth value? -/
def isB (b : Bool) (r : Option (CR × Hp)) : Bool := match r with
  | some (.ret (.bool c), _) => c == b
  | _ => false

/-- A run at the empty memory that ends with a truth value. -/
theorem q_bool {P : Program} {ext : FuncId → Option ExtK} (hf : Fit P ext) {K d : Nat} {f : FuncId} {b : Bool} (h : isB b (qFn P ext K (drawQ P ext) d f #[] H0) = true) (w : World) :
    Calls P f #[] w fun e w' => e = .returned (.bool b) ∧ Below w.heap.size w w' := by
  unfold isB at h
  split at h
  · rename_i c H' hr
    have hc : c = b := by simpa using h
    subst hc
    refine Calls.mono (qFn_ok hf K d f #[] H0 _ _ hr _ _ _ w #[] (H0_sim w) (LRel.nil _)) ?_
    rintro e w' ⟨ν, _, _, hs, v', he, hv⟩
    exact ⟨by rw [he, hv.isFlat_eq rfl], hs.below⟩
  · cases h
end Go.Proofs.YtpmjpieiajdcgaaGreat
