/- PE, part 21: regions, code and calls made ready, for the kernel's evaluation. -/
import Derived.Test.YtpmjpieiajdcgaaGreatPeQ2
namespace Go.Proofs.YtpmjpieiajdcgaaGreat
open Go Go.RowKit
noncomputable section

/-- Where a run stands. -/
structure QS where
  env : Env
  ds : List Deferred
  H : Hp
/-- How a piece of code ends, here. -/
inductive QRes where
  | bad
  | normal (e : Env) (ds : List Deferred) (H : Hp)
  | exit (id : Nat) (e : Env) (ds : List Deferred) (H : Hp)
  | ret (e : Env) (ds : List Deferred) (H : Hp)
  | panic (v : Value) (e : Env) (ds : List Deferred) (H : Hp)
def QRes.opt : QRes → Option (Ex × QS)
  | .bad => none
  | .normal e ds H => some (.normal, ⟨e, ds, H⟩)
  | .exit id e ds H => some (.exit id, ⟨e, ds, H⟩)
  | .ret e ds H => some (.ret, ⟨e, ds, H⟩)
  | .panic v e ds H => some (.panic v, ⟨e, ds, H⟩)
abbrev QRun := CallFn → Env → List Deferred → Hp → QRes

def odE : Od Env
  | .tmp t => Bool.rec (motive := fun _ => Box (Env → Option Value)) (.mk fun _ => none) (getT t) (Nat.blt t 256)
  | .const v => Bool.rec (motive := fun _ => Box (Env → Option Value)) (.mk fun _ => none) (.mk fun _ => some v) (flatD 3 v)
  | .func f => .mk fun _ => some (.func (.func f) #[] #[])
  | .global _ => .mk fun _ => none
theorem odE_rho {e : Env} {t : Tr Value} (h : EnvEq e t) : odE.rho e = rhoE t := by
  funext x
  cases x with
  | tmp k =>
    show (Bool.rec (motive := fun _ => Box (Env → Option Value)) (.mk fun _ => none) (getT k) (Nat.blt k 256)).x e = t.get k
    rw [h k, nblt]
    by_cases hk : k < 256
    · rw [if_pos hk, decide_eq_true hk]; exact getT_x k e
    · rw [if_neg hk, decide_eq_false hk]; rfl
  | const v =>
    show (Bool.rec (motive := fun _ => Box (Env → Option Value)) (.mk fun _ => none) (.mk fun _ => some v) (flatD 3 v)).x e = if flatD 3 v then some v else none
    cases flatD 3 v <;> rfl
  | func f => rfl
  | global _ => rfl
theorem odE_func (e : Env) (k : FuncId) : odE.rho e (.func k) = some (.func (.func k) #[] #[]) := rfl

/-- How a slot is written. -/
def putQ (n : Nat) (dst : Option Tmp) : Option (Box (Env → Value → Env)) :=
  match dst with
  | none => some (.mk fun e _ => e)
  | some d => Bool.rec (motive := fun _ => Option (Box (Env → Value → Env))) none (some (setT d)) (Nat.blt d n)
theorem putQ_eq {n : Nat} (hn : n ≤ 256) {dst : Option Tmp} {s : Box (Env → Value → Env)} (h : putQ n dst = some s) {e : Env} {t : Tr Value} (he : EnvEq e t) (v : Value) :
    ∃ t', putE n t dst v = some t' ∧ EnvEq (s.x e v) t' := by
  unfold putQ at h
  cases dst with
  | none => cases h; exact ⟨t, rfl, he⟩
  | some d =>
    cases hb : Nat.blt d n with
    | false => simp only [hb] at h; cases h
    | true =>
      simp only [hb] at h
      cases h
      rw [nblt] at hb
      have hd : d < n := by simpa using hb
      have hd2 : d < 256 := Nat.lt_of_lt_of_le hd hn
      refine ⟨t.set d v, by simp only [putE, hd, if_true], ?_⟩
      rw [setT_x]
      exact he.set hd2 v

section
variable (P : Program) (ext : FuncId → Option ExtK) (n : Nat)

/-- Behind an operation. -/
def afterQ (s : Env → Value → Env) (rest : QRun) (call : CallFn) (e : Env) (ds : List Deferred) (r : Option AR) : QRes :=
  match r with
  | some (.val v H) => rest call (s e v) ds H
  | some (.enter f args H) => match call f args H with
    | some (.ret v, H) => rest call (s e v) ds H
    | some (.pan v, H) => .panic v e ds H
    | none => .bad
  | some (.skip H) => rest call (s e undef) ds H
  | some (.defer d H) => rest call (s e undef) (d :: ds) H
  | some (.pan v H) => .panic v e ds H
  | none => .bad
def plainQ (s : Env → Value → Env) (rest : QRun) : DOp Env → Box QRun
  | .pure f => .mk fun call e ds H => Option.rec (motive := fun _ => QRes) .bad (fun v => rest call (s e v) ds H) (f e)
  | .read f => .mk fun call e ds H => Option.rec (motive := fun _ => QRes) .bad (fun v => rest call (s e v) ds H) (f e H)
  | .mem f => .mk fun call e ds H => afterQ s rest call e ds (f e H)
def guardQ (ops : Array Oper) (s : Env → Value → Env) (rest run : QRun) : Option (Nat × Bool) → Box QRun
  | none => .mk run
  | some (j, want) =>
    match (ops[j]?).bind (·.dst) with
    | some d => (odE (.tmp d)).then fun g => .mk fun call e ds H => match g e with
      | some (.bool b) => Bool.rec (motive := fun _ => QRes) (rest call (s e undef) ds H) (run call e ds H) (b == want)
      | some _ => rest call (s e undef) ds H
      | none => .bad
    | none => .mk fun call e ds H => rest call (s e undef) ds H
def stepQ (ops : Array Oper) (o : Oper) (rest : QRun) : Box QRun :=
  match putQ n o.dst with
  | some s => s.then fun s => (plainQ s rest (decOp P ext odE o)).then fun run => guardQ ops s rest run o.guard
  | none => .mk fun _ _ _ _ => .bad
def opsQ (ops : Array Oper) : List Oper → Box QRun
  | [] => .mk fun _ e ds H => .normal e ds H
  | o :: l => (opsQ ops l).then fun rest => stepQ P ext n ops o rest

/-- The run here is the run there. -/
def QOk (r : QRes) (r' : Option (Ex × St)) : Prop := ∀ x s, r.opt = some (x, s) → ∃ t', r' = some (x, ⟨t', s.ds, s.H⟩) ∧ EnvEq s.env t'

variable {P ext n}
theorem Box.mk_x {α : Type} (a : α) : (Box.mk a).x = a := rfl
theorem opsQ_ok (hn : n ≤ 256) (call : CallFn) (ops : Array Oper) : ∀ (l : List Oper) (e : Env) (t : Tr Value) (ds : List Deferred) (H : Hp), EnvEq e t →
    QOk ((opsQ P ext n ops l).x call e ds H) (evOps P ext call n ops l ⟨t, ds, H⟩) := by
  intro l
  induction l with
  | nil => intro e t ds H he x s h; cases h; exact ⟨t, rfl, he⟩
  | cons o l ih =>
    intro e t ds H he x s h
    simp only [opsQ, Box.then_eq, stepQ] at h
    split at h
    · rename_i st hst
      have hput := putQ_eq hn hst he
      -- not wanted
      have hskip : ∀ x s, ((opsQ P ext n ops l).x call (st.x e undef) ds H).opt = some (x, s) → wantedA ops (rhoE t) o = some false → ∃ t', evOps P ext call n ops (o :: l) ⟨t, ds, H⟩ = some (x, ⟨t', s.ds, s.H⟩) ∧ EnvEq s.env t' := by
        intro x s h hw
        obtain ⟨t1, h1, h2⟩ := hput undef
        obtain ⟨t', h3, h4⟩ := ih _ _ _ _ h2 _ _ h
        refine ⟨t', ?_, h4⟩
        rw [evOps]; simp only [hw, h1, h3]
      -- wanted
      have hrun : ∀ x s, ((plainQ st.x (opsQ P ext n ops l).x (decOp P ext odE o)).x call e ds H).opt = some (x, s) → wantedA ops (rhoE t) o = some true → ∃ t', evOps P ext call n ops (o :: l) ⟨t, ds, H⟩ = some (x, ⟨t', s.ds, s.H⟩) ∧ EnvEq s.env t' := by
        intro x s h hw
        have hok := decOp_ok (P := P) (ext := ext) odE_func o
        have hval : ∀ v, aop P ext (rhoE t) o H = some (.val v H) → ((opsQ P ext n ops l).x call (st.x e v) ds H).opt = some (x, s) → ∃ t', evOps P ext call n ops (o :: l) ⟨t, ds, H⟩ = some (x, ⟨t', s.ds, s.H⟩) ∧ EnvEq s.env t' := by
          intro v hv h
          obtain ⟨t1, h1, h2⟩ := hput v
          obtain ⟨t', h3, h4⟩ := ih _ _ _ _ h2 _ _ h
          refine ⟨t', ?_, h4⟩
          rw [evOps]; simp only [hw, hv, h1, h3]
        cases hd : decOp P ext odE o with
        | pure f =>
          rw [hd] at h hok
          simp only [plainQ, Box.x] at h
          cases hf : f e with
          | none => rw [hf] at h; cases h
          | some v => rw [hf] at h; exact hval v (odE_rho he ▸ hok e v hf H) h
        | read f =>
          rw [hd] at h hok
          simp only [plainQ, Box.x] at h
          cases hf : f e H with
          | none => rw [hf] at h; cases h
          | some v => rw [hf] at h; exact hval v (odE_rho he ▸ hok e H v hf) h
        | mem f =>
          rw [hd] at h hok
          simp only [plainQ, Box.x, afterQ] at h
          have hop : ∀ r, f e H = some r → aop P ext (rhoE t) o H = some r := fun r hr => odE_rho he ▸ hok e H r hr
          split at h
          · rename_i v H1 hf
            have := hop _ hf
            obtain ⟨t1, h1, h2⟩ := hput v
            obtain ⟨t', h3, h4⟩ := ih _ _ _ _ h2 _ _ h
            exact ⟨t', by rw [evOps]; simp only [hw, this, h1, h3], h4⟩
          · rename_i k args H1 hf
            have := hop _ hf
            split at h
            · rename_i v H2 hc
              obtain ⟨t1, h1, h2⟩ := hput v
              obtain ⟨t', h3, h4⟩ := ih _ _ _ _ h2 _ _ h
              exact ⟨t', by rw [evOps]; simp only [hw, this, hc, h1, h3], h4⟩
            · rename_i v H2 hc
              cases h
              exact ⟨t, by rw [evOps]; simp only [hw, this, hc], he⟩
            · cases h
          · rename_i H1 hf
            have := hop _ hf
            obtain ⟨t1, h1, h2⟩ := hput undef
            obtain ⟨t', h3, h4⟩ := ih _ _ _ _ h2 _ _ h
            exact ⟨t', by rw [evOps]; simp only [hw, this, h1, h3], h4⟩
          · rename_i d H1 hf
            have := hop _ hf
            obtain ⟨t1, h1, h2⟩ := hput undef
            obtain ⟨t', h3, h4⟩ := ih _ _ _ _ h2 _ _ h
            exact ⟨t', by rw [evOps]; simp only [hw, this, h1, h3], h4⟩
          · rename_i v H1 hf
            have := hop _ hf
            cases h
            exact ⟨t, by rw [evOps]; simp only [hw, this], he⟩
          · cases h
      -- the guard
      cases hg : o.guard with
      | none =>
        rw [hg] at h
        exact hrun x s h (by rw [wantedA, hg])
      | some p =>
        obtain ⟨j, want⟩ := p
        rw [hg] at h
        cases hd : (ops[j]?).bind (·.dst) with
        | none =>
          simp only [guardQ, hd] at h
          exact hskip x s h (by rw [wantedA, hg]; simp only [hd])
        | some d =>
          simp only [guardQ, hd, Box.then_eq, Box.mk_x] at h
          have hr : (odE (.tmp d)).x e = rhoE t (.tmp d) := by rw [← odE_rho he]; rfl
          rw [hr] at h
          cases hb : rhoE t (.tmp d) with
          | none => rw [hb] at h; cases h
          | some u =>
            rw [hb] at h
            cases u with
            | bool b =>
              cases hbw : (b == want) with
              | false => simp only [hbw] at h; exact hskip x s h (by rw [wantedA, hg]; simp only [hd, hb, hbw])
              | true => simp only [hbw] at h; exact hrun x s h (by rw [wantedA, hg]; simp only [hd, hb, hbw])
            | _ => exact hskip x s h (by rw [wantedA, hg]; simp only [hd, hb])
    · cases h
end
end
end Go.Proofs.YtpmjpieiajdcgaaGreat
