/- UndoNil: whatever step and whatever number: a history that is not there answers as the law asks: the law returns true, and its arguments read as they did. No condition. -/
import Derived.Test.YtpmjpieiajdcgaaGreatUnC
import Derived.Test.YtpmjpieiajdcgaaGreatUnF
import Derived.Test.YtpmjpieiajdcgaaGreatRows
import Derived.ProofKit
import Derived.OpenShut
import Derived.Carry
import Derived.Lib.SmallJoins
namespace Go.Proofs.YtpmjpieiajdcgaaGreat
open Go Go.ChangeShapes Go.WideShapes Go.ChangeAt Go.RowKit Go.Joins
/-- A slice's value. -/
def SlShape (p : Value) : Prop := p = .slice none 0 0 ∨ ∃ b off n c, p = .slice (some ⟨b, off, none⟩) n c
theorem cell_slice {P : Program} {w : World} {r : Reach} {base : Nat} {t e : TypeId} {v : Value} (ht : P.underlying t = some (.slice e)) (h : Cell.okWide P w r base t v) : SlShape v := by
  simp only [Cell.okWide, ht] at h
  cases v with
  | slice a n c =>
    cases a with
    | none =>
      cases n <;> cases c <;> simp_all [Cell.ok, SlShape]
    | some a =>
      obtain ⟨b, o, sp⟩ := a
      simp only [Cell.ok, ht] at h
      obtain ⟨_, _, _, hs, _⟩ := h
      simp only at hs
      subst hs
      exact .inr ⟨_, _, _, _, rfl⟩
  | _ => simp_all [Cell.ok]
theorem cell_int {P : Program} {w : World} {r : Reach} {base : Nat} {t : TypeId} {k : IntKind} {v : Value} (ht : P.underlying t = some (.int k)) (h : Cell.okWide P w r base t v) : ∃ n, v = .int k n := by
  simp only [Cell.okWide, ht] at h
  cases v <;> simp_all [Cell.ok]
theorem cell_string {P : Program} {w : World} {r : Reach} {base : Nat} {t : TypeId} {v : Value} (ht : P.underlying t = some .string) (h : Cell.okWide P w r base t v) : ∃ s, v = .string s := by
  simp only [Cell.okWide, ht] at h
  cases v <;> simp_all [Cell.ok]
theorem slrel {μ : Mu} {i : Nat} {b off : Nat} {n c : Nat} (h : μ i = some ⟨b, off, 0, 0⟩) : VRel μ (.slice (some ⟨i, 0, some 0⟩) n c) (.slice (some ⟨b, off, none⟩) n c) := by
  have := VRel.slx (μ := μ) (i := i) (o := 0) (n := n) (c := c) h
  simpa using this
theorem ct24 : Tryz.prog.cellTypes Tryz.prog.depth 24 = some [3, 22, 22, 3, 9, 9] := by kernel_rfl

set_option maxRecDepth 100000 in
theorem open_op {w : World} {base : Nat} {v : Value} (h : Value.okWide Tryz.prog w .any base 24 v) : ∃ k p q m s t, v = .agg #[.int .i64 k, p, q, .int .i64 m, .string s, .string t] ∧ SlShape p ∧ SlShape q := by
  simp only [Value.okWide, Tryz.underlying24] at h
  obtain ⟨cs, rfl, hsz, ts, hts, _, hc⟩ := h
  rw [ct24] at hts
  cases hts
  obtain ⟨l⟩ := cs
  have hsz : l.length = 6 := by
    have e : Tryz.prog.cellsOf 24 = 6 := by kernel_rfl
    rw [e] at hsz
    simpa using hsz
  match l, hsz with
  | [c0, c1, c2, c3, c4, c5], _ =>
    obtain ⟨u0, e0, h0⟩ := hc 0 c0 rfl
    obtain ⟨u1, e1, h1⟩ := hc 1 c1 rfl
    obtain ⟨u2, e2, h2⟩ := hc 2 c2 rfl
    obtain ⟨u3, e3, h3⟩ := hc 3 c3 rfl
    obtain ⟨u4, e4, h4⟩ := hc 4 c4 rfl
    obtain ⟨u5, e5, h5⟩ := hc 5 c5 rfl
    obtain rfl : u0 = 3 := Option.some.inj e0.symm
    obtain rfl : u1 = 22 := Option.some.inj e1.symm
    obtain rfl : u2 = 22 := Option.some.inj e2.symm
    obtain rfl : u3 = 3 := Option.some.inj e3.symm
    obtain rfl : u4 = 9 := Option.some.inj e4.symm
    obtain rfl : u5 = 9 := Option.some.inj e5.symm
    obtain ⟨k, rfl⟩ := cell_int Tryz.underlying3 h0
    obtain ⟨m, rfl⟩ := cell_int Tryz.underlying3 h3
    obtain ⟨s, rfl⟩ := cell_string Tryz.underlying9 h4
    obtain ⟨t, rfl⟩ := cell_string Tryz.underlying9 h5
    exact ⟨k, c1, c2, m, s, t, rfl, cell_slice Tryz.underlying22 h1, cell_slice Tryz.underlying22 h2⟩

theorem VRel.agg2 {μ : Mu} {l l' : List Value} (h : LRel μ l l') : VRel μ (.agg l.toArray) (.agg l'.toArray) := .agg h.1 h.2

theorem law (k m n : Int) (p q : Value) (s t : ByteArray) (hp : SlShape p) (hq : SlShape q) (w : World) :
    Calls Tryz.prog 3 #[.agg #[.int .i64 k, p, q, .int .i64 m, .string s, .string t], .int .i64 n] w fun e w' => e = .returned (.bool true) ∧ Below w.heap.size w w' := by
  have fl : ∀ (μ : Mu) (v : Value), isFlat v = true → VRel μ v v := fun μ v h => .flat h
  rcases hp with rfl | ⟨b1, o1, n1, c1, rfl⟩ <;> rcases hq with rfl | ⟨b2, o2, n2, c2, rfl⟩
  · refine q_open fitP callU_ok (n := 3) (μ := fun _ => none) (fun i x h => by cases h) ?_ (run_nn k m n s t) w
    exact .cons (.agg2 (.cons (fl _ _ rfl) (.cons (fl _ _ rfl) (.cons (fl _ _ rfl) (.cons (fl _ _ rfl) (.cons (fl _ _ rfl) (.cons (fl _ _ rfl) (.nil _)))))))) (.cons (fl _ _ rfl) (.nil _))
  · refine q_open fitP callU_ok (n := 3) (μ := fun i => if i = 2 then some ⟨b2, o2, 0, 0⟩ else none) (fun i x h => by split at h <;> simp_all) ?_ (run_ns n2 c2 k m n s t) w
    exact .cons (.agg2 (.cons (fl _ _ rfl) (.cons (fl _ _ rfl) (.cons (slrel (by simp)) (.cons (fl _ _ rfl) (.cons (fl _ _ rfl) (.cons (fl _ _ rfl) (.nil _)))))))) (.cons (fl _ _ rfl) (.nil _))
  · refine q_open fitP callU_ok (n := 3) (μ := fun i => if i = 1 then some ⟨b1, o1, 0, 0⟩ else none) (fun i x h => by split at h <;> simp_all) ?_ (run_sn n1 c1 k m n s t) w
    exact .cons (.agg2 (.cons (fl _ _ rfl) (.cons (slrel (by simp)) (.cons (fl _ _ rfl) (.cons (fl _ _ rfl) (.cons (fl _ _ rfl) (.cons (fl _ _ rfl) (.nil _)))))))) (.cons (fl _ _ rfl) (.nil _))
  · refine q_open fitP callU_ok (n := 3) (μ := fun i => if i = 1 then some ⟨b1, o1, 0, 0⟩ else if i = 2 then some ⟨b2, o2, 0, 0⟩ else none) (fun i x h => by split at h <;> (try split at h) <;> simp_all) ?_ (run_ss n1 c1 n2 c2 k m n s t) w
    exact .cons (.agg2 (.cons (fl _ _ rfl) (.cons (slrel (by simp)) (.cons (slrel (by simp)) (.cons (fl _ _ rfl) (.cons (fl _ _ rfl) (.cons (fl _ _ rfl) (.nil _)))))))) (.cons (fl _ _ rfl) (.nil _))

theorem own : ownKnob Tryz.prog.godebug = none := by kernel_rfl
theorem laidOut : laidOutB Tryz.prog = true := by kernel_rfl
end Go.Proofs.YtpmjpieiajdcgaaGreat
namespace Go.Proofs.YtpmjpieiajdcgaaGreat
open Go Go.ChangeShapes Go.WideShapes Go.ChangeAt Go.RowKit Go.Joins
set_option maxRecDepth 100000 in
theorem lifted (os : Os) (started : os.Started) (H : Type) (enc : TypeId × Value → H) :
    ReturnsInHanded {} Tryz.checked os 3 .any (Rows.undoNilSpec.pre6 enc Tryz.prog Tryz.f3 Rows.undoNilRow.domain false) (Rows.undoNilSpec.post enc Tryz.prog Tryz.f3 false true false false) := by
  refine returnsInHanded_of_change (C := Tryz.checked) Go.Proofs.YtpmjpieiajdcgaaGreat.own started (by kernel_rfl) Tryz.func3
    (ChangeSpec.witness6 (enc := enc) (C := Tryz.checked) false ⟨#[], #[.agg #[.int .i64 0, .slice none 0 0, .slice none 0 0, .int .i64 0, .string .empty, .string .empty], .int .i64 0], []⟩ 8 (by kernel_rfl) (by kernel_rfl) (by kernel_rfl) (by kernel_rfl)) ?_
  intro W base args ds gs before hval0 hW _ _
  have hval : ∀ (j : Nat) t v, Tryz.f3.params[j]? = some t → args[j]? = some v → Value.okWide Tryz.prog W .any base t v := hval0
  have hW' := hW
  obtain ⟨p, q, hA0, hV, rfl, _, _⟩ := hW
  have hA : DataW.TrodAll enc Tryz.prog W 0 (fun _ => true) true Tryz.f3.params.toList args.toList ds p := hA0
  rw [Tryz.params3] at hA hval
  obtain ⟨v0, v1, d0, d1, p0, p1, rfl, rfl, rfl, h0, h1⟩ := trodAll_two hA
  obtain ⟨rfl, rfl⟩ := trodVars_none hV
  obtain ⟨k, pp, qq, m, s, t, rfl, hp, hq⟩ := Go.Proofs.YtpmjpieiajdcgaaGreat.open_op (hval 0 24 v0 rfl rfl)
  obtain ⟨n, rfl⟩ := okWide_int Tryz.underlying3 (hval 1 3 v1 rfl rfl)
  clear hA0 hval0
  simp only [List.append_nil] at hW'
  refine (Go.Proofs.YtpmjpieiajdcgaaGreat.law k m n pp qq s t hp hq W).mono fun e W' ⟨he, hb⟩ => ?_
  subst he
  refine ⟨_, rfl, ⟨_, _, _, [], p0 ++ p1, [], hW', trodAll_mk1 (shut_bool Tryz.underlying4 _), trodAll_mk2 ?_ ?_, rfl, hb.frame _, fun h => by cases h⟩⟩
  · exact Below.trod Go.Proofs.YtpmjpieiajdcgaaGreat.laidOut (by kernel_rfl) (of_decide_eq_true (by kernel_rfl)) h0 hb (fun x hx => by simpa using hW'.lt x (by simp [hx]))
  · exact Below.trod Go.Proofs.YtpmjpieiajdcgaaGreat.laidOut (by kernel_rfl) (of_decide_eq_true (by kernel_rfl)) h1 hb (fun x hx => by simpa using hW'.lt x (by simp [hx]))

theorem e1 : Tryz.pinned.checked.prog.funcNamed Rows.undoNilRow.func = some 3 := by kernel_rfl
theorem e3 : Tryz.f3.isInstance Tryz.prog Rows.undoNilRow.origin Rows.undoNilRow.targs := of_decide_eq_true (by kernel_rfl)
theorem e4 : Tryz.f3.isWrapper Tryz.prog Rows.undoNilRow.wrapper Rows.undoNilRow.mainSum := (by unfold Func.isWrapper; first | (rw [if_pos (by decide +kernel)]; kernel_rfl) | (rw [if_neg (by decide +kernel)]; exact ⟨rfl, rfl⟩))

/-- THE STATEMENT. -/
theorem proved : Rows.UndoNilSaid :=
  OpenClaim.holds_of_wide 3 Tryz.f3 rfl rfl rfl rfl rfl rfl rfl ⟨rfl, rfl, rfl, rfl, rfl⟩ rfl rfl rfl rfl rfl e1 Tryz.func3 joined e3 e4
    (fun os started H enc _ => lifted os started H enc)
end Go.Proofs.YtpmjpieiajdcgaaGreat
