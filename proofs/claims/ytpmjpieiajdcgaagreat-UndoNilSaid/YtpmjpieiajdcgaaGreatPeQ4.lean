/- PE, part 22: code and calls made ready, for the kernel's evaluation. -/
import Derived.Test.YtpmjpieiajdcgaaGreatPeQ3
namespace Go.Proofs.YtpmjpieiajdcgaaGreat
open Go Go.RowKit
noncomputable section

/-! ## Code -/

section
variable (P : Program) (ext : FuncId → Option ExtK) (n K : Nat) (dr : Array Oper → Box QRun)

def andQ (b : Env → List Deferred → Hp → QRes) (r : QRes) : QRes :=
  QRes.rec (motive := fun _ => QRes) .bad b .exit .ret .panic r
def blockQ (id : Nat) (r : QRes) : QRes :=
  QRes.rec (motive := fun _ => QRes) .bad .normal (fun j e ds H => Bool.rec (motive := fun _ => QRes) (.exit j e ds H) (.normal e ds H) (Nat.beq j id)) .ret .panic r
def loopQ (f : Env → List Deferred → Hp → QRes) (k : Nat) : Env → List Deferred → Hp → QRes :=
  Nat.rec (motive := fun _ => Env → List Deferred → Hp → QRes) (fun _ _ _ => .bad) (fun _ ih e ds H => andQ ih (f e ds H)) k
def codeQ : Code → Box QRun
  | .skip => .mk fun _ e ds H => .normal e ds H
  | .ret => .mk fun _ e ds H => .ret e ds H
  | .exit id => .mk fun _ e ds H => .exit id e ds H
  | .seq a b => (codeQ a).then fun fa => (codeQ b).then fun fb => .mk fun call e ds H => andQ (fb call) (fa call e ds H)
  | .cond c a b => (odE c).then fun g => (codeQ a).then fun fa => (codeQ b).then fun fb => .mk fun call e ds H =>
      onBool (g e) .bad fun q => Bool.rec (motive := fun _ => QRes) (fb call e ds H) (fa call e ds H) q
  | .block id c => (codeQ c).then fun f => .mk fun call e ds H => blockQ id (f call e ds H)
  | .loop c => (codeQ c).then fun f => .mk fun call e ds H => loopQ (f call) K e ds H
  | .region _ ops draw => Bool.rec (motive := fun _ => Box QRun) (opsQ P ext n ops ops.toList) (dr ops) draw
  | _ => .mk fun _ _ _ _ => .bad

/-- A region in whatever order, made ready. -/
def DrawQ (call : CallFn) : Prop := ∀ (ops : Array Oper) (e : Env) (t : Tr Value) (ds : List Deferred) (H : Hp), EnvEq e t →
  QOk ((dr ops).x call e ds H) (if uniqD n ops then evDraw P ext call n ops (ops.toList.map depMask) t ds (ops.size + 1) ⟨0, .e, [], List.range ops.size, H⟩ else none)

variable {P ext n K dr}
def andE (r' : Option (Ex × St)) (g : St → Option (Ex × St)) : Option (Ex × St) := match r' with | some (.normal, s') => g s' | r => r
theorem andQ_ok {b : Env → List Deferred → Hp → QRes} {r : QRes} {r' : Option (Ex × St)} {g : St → Option (Ex × St)} (h1 : QOk r r')
    (h2 : ∀ e t ds H, EnvEq e t → QOk (b e ds H) (g ⟨t, ds, H⟩)) : QOk (andQ b r) (andE r' g) := by
  intro x s h
  cases r with
  | bad => cases h
  | normal e ds H =>
    obtain ⟨t, ht, he⟩ := h1 _ _ rfl
    subst ht
    exact h2 e t ds H he x s h
  | exit id e ds H => obtain ⟨t, ht, he⟩ := h1 _ _ rfl; subst ht; cases h; exact ⟨t, rfl, he⟩
  | ret e ds H => obtain ⟨t, ht, he⟩ := h1 _ _ rfl; subst ht; cases h; exact ⟨t, rfl, he⟩
  | panic v e ds H => obtain ⟨t, ht, he⟩ := h1 _ _ rfl; subst ht; cases h; exact ⟨t, rfl, he⟩
theorem loopQ_ok {f : Env → List Deferred → Hp → QRes} {g : St → Option (Ex × St)} (h : ∀ e t ds H, EnvEq e t → QOk (f e ds H) (g ⟨t, ds, H⟩)) :
    ∀ k e t ds H, EnvEq e t → QOk (loopQ f k e ds H) (iterE g k ⟨t, ds, H⟩) := by
  intro k
  induction k with
  | zero => intro e t ds H _ x s h; cases h
  | succ k ih => intro e t ds H he; exact andQ_ok (h e t ds H he) ih

theorem codeQ_ok (hn : n ≤ 256) {call : CallFn} (hdr : DrawQ P ext n dr call) : ∀ (c : Code) (e : Env) (t : Tr Value) (ds : List Deferred) (H : Hp), EnvEq e t →
    QOk ((codeQ P ext n K dr c).x call e ds H) (evCode P ext call n K c ⟨t, ds, H⟩) := by
  intro c
  induction c with
  | skip => intro e t ds H he x s h; cases h; exact ⟨t, rfl, he⟩
  | ret => intro e t ds H he x s h; cases h; exact ⟨t, rfl, he⟩
  | exit id => intro e t ds H he x s h; cases h; exact ⟨t, rfl, he⟩
  | seq a b iha ihb =>
    intro e t ds H he
    simp only [codeQ, Box.then_eq, evCode]
    exact andQ_ok (iha e t ds H he) ihb
  | cond c a b iha ihb =>
    intro e t ds H he x s h
    simp only [codeQ, Box.then_eq, Box.mk_x, onBool] at h
    rw [show (odE c).x e = rhoE t c by rw [← odE_rho he]; rfl] at h
    rw [evCode]
    split at h
    · rename_i q hq
      cases q with
      | true => simp only [hq]; exact iha e t ds H he x s h
      | false => simp only [hq]; exact ihb e t ds H he x s h
    · cases h
  | block id c ih =>
    intro e t ds H he x s h
    simp only [codeQ, Box.then_eq, Box.mk_x] at h
    have ih := ih e t ds H he
    rw [evCode]
    cases hr : (codeQ P ext n K dr c).x call e ds H with
    | bad => rw [hr] at h; cases h
    | normal e1 ds1 H1 => rw [hr] at h ih; obtain ⟨t1, ht, he1⟩ := ih _ _ rfl; rw [ht]; cases h; exact ⟨t1, rfl, he1⟩
    | exit j e1 ds1 H1 =>
      rw [hr] at h ih; obtain ⟨t1, ht, he1⟩ := ih _ _ rfl; rw [ht]
      simp only [blockQ] at h
      rw [nbeq] at h
      by_cases hj : j = id
      · subst hj; simp only [beq_self_eq_true] at h; cases h; simp only [if_true]; exact ⟨t1, rfl, he1⟩
      · rw [show (j == id) = false by simpa using hj] at h; cases h; simp only [if_neg hj]; exact ⟨t1, rfl, he1⟩
    | ret e1 ds1 H1 => rw [hr] at h ih; obtain ⟨t1, ht, he1⟩ := ih _ _ rfl; rw [ht]; cases h; exact ⟨t1, rfl, he1⟩
    | panic v e1 ds1 H1 => rw [hr] at h ih; obtain ⟨t1, ht, he1⟩ := ih _ _ rfl; rw [ht]; cases h; exact ⟨t1, rfl, he1⟩
  | loop c ih =>
    intro e t ds H he
    simp only [codeQ, Box.then_eq, evCode]
    exact loopQ_ok ih K e t ds H he
  | region id ops draw =>
    intro e t ds H he
    rw [evCode]
    cases draw with
    | true => exact hdr ops e t ds H he
    | false => exact opsQ_ok hn call ops ops.toList e t ds H he
  | _ => intro e t ds H he x s h; cases h
end
end
end Go.Proofs.YtpmjpieiajdcgaaGreat
