/- PE, part 27: a program fits, by a look at its functions. -/
import Derived.Test.YtpmjpieiajdcgaaGreatPeOps9
namespace Go.Proofs.YtpmjpieiajdcgaaGreat
open Go Go.RowKit

def fitNames (P : Program) : Bool := P.funcs.toList.all fun fn => fn.body.isNone || (fn.name != "runtime.NumGoroutine")
theorem fitNames_ok {P : Program} (h : fitNames P = true) (k : Nat) (fn : Func) (hk : P.funcs[k]? = some fn) (hb : fn.body.isSome = true) : fn.name ≠ "runtime.NumGoroutine" := by
  unfold fitNames at h
  rw [List.all_eq_true] at h
  have hm : fn ∈ P.funcs.toList := by
    rw [Array.mem_toList_iff]
    exact Array.mem_of_getElem? hk
  have := h fn hm
  cases hbb : fn.body with
  | none => rw [hbb] at hb; cases hb
  | some c => simpa [hbb] using this

/-- What stands outside, by three numbers. -/
def ext3 (a b c : Nat) (k : Nat) : Option ExtK := if k == a then some .same else if k == b then some (.flat Extern.BytealgIndex.index) else if k == c then some (.flat Extern.BytealgIndexByte.indexByte) else none

theorem fit3 {P : Program} {a b c : Nat} {fa fb fc : Func} (hn : fitNames P = true) (hm : P.follows .mixedOrders = true)
    (ha : P.funcs[a]? = some fa) (hb : P.funcs[b]? = some fb) (hc : P.funcs[c]? = some fc)
    (a1 : fa.body = none) (a2 : fa.name ≠ "runtime.NumGoroutine") (a3 : Extern.findNext fa = none) (a4 : Extern.find fa = some Extern.AbiNoEscape.same)
    (b1 : fb.body = none) (b2 : fb.name ≠ "runtime.NumGoroutine") (b3 : Extern.findNext fb = none) (b4 : Extern.find fb = some Extern.BytealgIndex.index)
    (c1 : fc.body = none) (c2 : fc.name ≠ "runtime.NumGoroutine") (c3 : Extern.findNext fc = none) (c4 : Extern.find fc = some Extern.BytealgIndexByte.indexByte) :
    Fit P (ext3 a b c) where
  num := fitNames_ok hn
  mixed := hm
  ext := by
    intro k x h
    unfold ext3 at h
    split at h
    · rename_i e
      have e := eq_of_beq e
      subst e
      cases h
      exact ⟨fa, ha, a1, a2, a3, a4⟩
    · split at h
      · rename_i e
        have e := eq_of_beq e
        subst e
        cases h
        exact ⟨fb, hb, b1, b2, b3, b4⟩
      · split at h
        · rename_i e
          have e := eq_of_beq e
          subst e
          cases h
          exact ⟨fc, hc, c1, c2, c3, c4⟩
        · cases h
end Go.Proofs.YtpmjpieiajdcgaaGreat
