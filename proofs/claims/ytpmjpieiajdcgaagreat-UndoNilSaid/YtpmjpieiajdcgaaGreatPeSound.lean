/- PE, part 13: what the evaluator says of code, the machine does. -/
import Derived.Test.YtpmjpieiajdcgaaGreatPeEval
namespace Go.Proofs.YtpmjpieiajdcgaaGreat
open Go Go.RowKit
noncomputable section

section
variable {P : Program} {ext : FuncId → Option ExtK} {call : CallFn} {B n : Nat} {w0 w : World} {μ ν : Mu} {H : Hp}

/-! ## Numbers only grow -/

def AR.hp : AR → Hp
  | .val _ H | .skip H | .enter _ _ H | .defer _ H | .pan _ H => H

theorem put_mono {H' : Hp} {i off : Nat} {v : Value} (h : H.put i off v = some H') : H.n ≤ H'.n := by
  unfold Hp.put at h
  split at h
  · split at h
    · cases h
    · split at h
      · split at h
        · simp only [Option.some.injEq] at h; subst h; exact Nat.le_refl _
        · simp only [Option.some.injEq] at h; subst h; exact Nat.le_succ _
      · cases h
  · cases h
theorem puts_mono : ∀ {l : List Value} {H H' : Hp} {i off : Nat}, H.puts i off l = some H' → H.n ≤ H'.n := by
  intro l
  induction l with
  | nil => intro H H' i off h; simp only [Hp.puts, Option.some.injEq] at h; subst h; exact Nat.le_refl _
  | cons v l ih =>
    intro H H' i off h
    simp only [Hp.puts] at h
    cases hp : H.put i off v with
    | none => rw [hp] at h; cases h
    | some H1 => rw [hp] at h; exact Nat.le_trans (put_mono hp) (ih h)
theorem extend_mono {H' : Hp} {i off m : Nat} {new : List Value} {el : TypeId} {z : Nat} (h : H.extend i off m new el z = some H') : H.n ≤ H'.n := by
  unfold Hp.extend at h
  split at h
  · split at h
    · cases h
    · dsimp only at h
      split at h
      · split at h
        · simp only [Option.some.injEq] at h; subst h; exact Nat.le_succ _
        · simp only [Option.some.injEq] at h; subst h; exact Nat.le_succ _
      · simp only [Option.some.injEq] at h; subst h; exact Nat.le_succ _
  · cases h
theorem shut_mono {H' : Hp} {i : Nat} (h : H.shut i = some H') : H.n ≤ H'.n := by
  unfold Hp.shut at h
  split at h
  · split at h
    · cases h
    · simp only [Option.some.injEq] at h; subst h; exact Nat.le_refl _
  · cases h
theorem fresh_mono (H : Hp) (c : List Value) (el : TypeId) (z : Nat) : H.n ≤ (H.fresh c el z).n := Nat.le_succ _

variable {ρ : Rho} {o : Oper} {r : AR}

theorem moveA_mono {v : Option Value} (h : moveA v H = some r) : r.hp = H := by
  unfold moveA at h
  split at h
  · simp only [Option.some.injEq] at h; subst h; rfl
  · cases h
theorem flatOp_mono (h : flatOp P ρ o H = some r) : r.hp = H := by
  unfold flatOp at h
  (repeat' (split at h)) <;> first | (simp only [Option.some.injEq] at h; subst h; rfl) | cases h
theorem appendA_mono {tys : Array TypeId} {args : List Value} (h : appendA P tys args H = some r) : H.n ≤ r.hp.n := by
  unfold appendA at h
  (repeat' (split at h)) <;> first
    | (cases h; done)
    | (simp only [Option.some.injEq] at h; subst h; first | exact Nat.le_refl _ | exact fresh_mono _ _ _ _ | (apply puts_mono; assumption) | (apply extend_mono; assumption))
theorem builtinA_mono {b : Builtin} {tys : Array TypeId} {args : List Value} (h : builtinA P ρ o b tys args H = some r) : H.n ≤ r.hp.n := by
  unfold builtinA at h
  split at h
  · exact appendA_mono h
  · rcases orA_cases h with h | h
    · unfold lenA at h
      (repeat' (split at h)) <;> first | (cases h; done) | (simp only [Option.some.injEq] at h; subst h; exact Nat.le_refl _)
    · rw [flatOp_mono h]; exact Nat.le_refl _
  · rcases orA_cases h with h | h
    · unfold capA at h
      (repeat' (split at h)) <;> first | (cases h; done) | (simp only [Option.some.injEq] at h; subst h; exact Nat.le_refl _)
    · rw [flatOp_mono h]; exact Nat.le_refl _
  · unfold copyA at h
    (repeat' (split at h)) <;> first | (cases h; done) | (simp only [Option.some.injEq] at h; subst h; apply puts_mono; assumption)
  · rcases orA_cases h with h | h
    · unfold unsafeDataA at h
      (repeat' (split at h)) <;> first | (cases h; done) | (simp only [Option.some.injEq] at h; subst h; exact Nat.le_refl _)
    · rw [flatOp_mono h]; exact Nat.le_refl _
  · rcases orA_cases h with h | h
    · unfold unsafeStringA at h
      (repeat' (split at h)) <;> first | (cases h; done) | (simp only [Option.some.injEq] at h; subst h; first | exact Nat.le_refl _ | (apply shut_mono; assumption))
    · rw [flatOp_mono h]; exact Nat.le_refl _
  · rw [flatOp_mono h]; exact Nat.le_refl _
  · rw [flatOp_mono h]; exact Nat.le_refl _
  · cases h
theorem funcCallA_mono {f : Option Value} {args : List Value} (h : funcCallA P ext f args H = some r) : H.n ≤ r.hp.n := by
  unfold funcCallA at h
  split at h
  · dsimp only at h
    (repeat' (split at h)) <;> first | (cases h; done) | (simp only [Option.some.injEq] at h; subst h; exact Nat.le_refl _)
  · cases h

theorem aop_mono (h : aop P ext ρ o H = some r) : H.n ≤ r.hp.n := by
  unfold aop at h
  split at h
  · rw [moveA_mono h]; exact Nat.le_refl _
  · rw [moveA_mono h]; exact Nat.le_refl _
  · unfold pickA at h
    split at h
    · rw [moveA_mono h]; exact Nat.le_refl _
    · rw [moveA_mono h]; exact Nat.le_refl _
    · cases h
  · unfold allocA newA at h
    (repeat' (split at h)) <;> first | (cases h; done) | (simp only [Option.some.injEq] at h; subst h; exact fresh_mono _ _ _ _)
  · unfold boxA newA at h
    (repeat' (split at h)) <;> first | (cases h; done) | (simp only [Option.some.injEq] at h; subst h; exact fresh_mono _ _ _ _)
  · unfold buildA at h
    (repeat' (split at h)) <;> first | (cases h; done) | (rw [moveA_mono h]; exact Nat.le_refl _)
  · unfold buildSliceA at h
    (repeat' (split at h)) <;> first | (cases h; done) | (simp only [Option.some.injEq] at h; subst h; exact fresh_mono _ _ _ _)
  · unfold loadA at h
    (repeat' (split at h)) <;> first | (cases h; done) | (simp only [Option.some.injEq] at h; subst h; exact Nat.le_refl _)
  · unfold storeA at h
    (repeat' (split at h)) <;> first | (cases h; done) | (simp only [Option.some.injEq] at h; subst h; apply puts_mono; assumption)
  · unfold nilCheckA at h
    (repeat' (split at h)) <;> first | (cases h; done) | (simp only [Option.some.injEq] at h; subst h; exact Nat.le_refl _)
  · rcases orA_cases h with h | h
    · rw [flatOp_mono h]; exact Nat.le_refl _
    · unfold eqA at h
      (repeat' (split at h)) <;> first | (cases h; done) | (simp only [Option.some.injEq] at h; subst h; exact Nat.le_refl _)
  · rw [flatOp_mono h]; exact Nat.le_refl _
  · rcases orA_cases h with h | h
    · unfold convA at h
      (repeat' (split at h)) <;> first | (cases h; done) | (simp only [Option.some.injEq] at h; subst h; first | exact Nat.le_refl _ | exact fresh_mono _ _ _ _)
    · rw [flatOp_mono h]; exact Nat.le_refl _
  · unfold ifaceA at h
    (repeat' (split at h)) <;> first | (cases h; done) | (simp only [Option.some.injEq] at h; subst h; exact Nat.le_refl _)
  · unfold funcA at h
    (repeat' (split at h)) <;> first | (cases h; done) | (simp only [Option.some.injEq] at h; subst h; exact Nat.le_refl _)
  · unfold makeSliceA at h
    (repeat' (split at h)) <;> first | (cases h; done) | (simp only [Option.some.injEq] at h; subst h; exact fresh_mono _ _ _ _)
  · rcases orA_cases h with h | h
    · unfold sliceA at h
      (repeat' (split at h)) <;> first | (cases h; done) | (simp only [Option.some.injEq] at h; subst h; exact Nat.le_refl _)
    · rw [flatOp_mono h]; exact Nat.le_refl _
  · unfold fieldAddrA at h
    (repeat' (split at h)) <;> first | (cases h; done) | (simp only [Option.some.injEq] at h; subst h; exact Nat.le_refl _)
  · unfold fieldA at h
    (repeat' (split at h)) <;> first | (cases h; done) | (rw [moveA_mono h]; exact Nat.le_refl _)
  · unfold indexAddrA at h
    (repeat' (split at h)) <;> first | (cases h; done) | (simp only [Option.some.injEq] at h; subst h; exact Nat.le_refl _)
  · rcases orA_cases h with h | h
    · unfold indexA at h
      (repeat' (split at h)) <;> first | (cases h; done) | (rw [moveA_mono h]; exact Nat.le_refl _)
    · rw [flatOp_mono h]; exact Nat.le_refl _
  · unfold rangeA at h
    (repeat' (split at h)) <;> first | (cases h; done) | (simp only [Option.some.injEq] at h; subst h; exact Nat.le_succ _)
  · unfold nextA at h
    (repeat' (split at h)) <;> first | (cases h; done) | (simp only [Option.some.injEq] at h; subst h; exact Nat.le_refl _)
  · unfold assertA at h
    (repeat' (split at h)) <;> first | (cases h; done) | (simp only [Option.some.injEq] at h; subst h; exact Nat.le_refl _)
  · unfold extractA at h
    (repeat' (split at h)) <;> first | (cases h; done) | (rw [moveA_mono h]; exact Nat.le_refl _)
  · unfold callA at h
    split at h
    · split at h
      · exact builtinA_mono h
      · exact funcCallA_mono h
      · cases h
    · cases h
  · unfold deferA at h
    (repeat' (split at h)) <;> first | (cases h; done) | (simp only [Option.some.injEq] at h; subst h; exact Nat.le_refl _)
  · unfold panicA at h
    (repeat' (split at h)) <;> first | (cases h; done) | (simp only [Option.some.injEq] at h; subst h; exact Nat.le_refl _)
  · cases h

/-! ## Frames -/

def DsRel (μ : Mu) : List Deferred → List Deferred → Prop
  | [], [] => True
  | d :: l, d' :: l' => DRel μ d d' ∧ DsRel μ l l'
  | _, _ => False
theorem DRel.mono (h : μ.Le ν) {d d' : Deferred} (r : DRel μ d d') : DRel ν d d' := by
  obtain ⟨⟨fn, c, c', h1, h2, h3⟩, h4⟩ := r
  exact ⟨⟨fn, c, c', h1, h2, h3.mono h⟩, h4.mono h⟩
theorem DsRel.mono (h : μ.Le ν) : ∀ {l l' : List Deferred}, DsRel μ l l' → DsRel ν l l'
  | [], [], _ => trivial
  | _ :: _, _ :: _, r => ⟨r.1.mono h, DsRel.mono h r.2⟩

def EnvRel (μ : Mu) (n : Nat) (env : Tr Value) (tmps : Array Value) : Prop := tmps.size = n ∧ ∀ i v, env.get i = some v → i < n ∧ VRel μ v (tmps.getD i undef)
theorem EnvRel.mono (h : μ.Le ν) {env : Tr Value} {t : Array Value} (r : EnvRel μ n env t) : EnvRel ν n env t := ⟨r.1, fun i v e => ⟨(r.2 i v e).1, (r.2 i v e).2.mono h⟩⟩

structure StRel (B : Nat) (w0 : World) (n : Nat) (μ : Mu) (s : St) (a : Act) (w : World) : Prop where
  env : EnvRel μ n s.env a.tmps
  ds : DsRel μ s.ds a.defers
  sim : Sim B w0 μ s.H w

def ExRel (ν : Mu) : Ex → Exit → Prop
  | .normal, .normal => True
  | .exit i, .exit j => i = j
  | .ret, .ret => True
  | .panic v, .panic c => ∃ v', c = [{ v := v', recovered := false }] ∧ VRel ν v v'
  | _, _ => False

/-- The machine ends so. -/
def Ends (B : Nat) (w0 : World) (n : Nat) (μ0 : Mu) (n0 : Nat) (r : Ex × St) : Exit → Act → World → Prop := fun e a w =>
  ∃ ν, Mu.Ext n0 μ0 ν ∧ n0 ≤ r.2.H.n ∧ StRel B w0 n ν r.2 a w ∧ ExRel ν r.1 e
theorem Ends.of {n0 n1 : Nat} {μ1 : Mu} {r : Ex × St} (h : Mu.Ext n0 μ μ1) (hn : n0 ≤ n1) {e : Exit} {a : Act} {w : World} (k : Ends B w0 n μ1 n1 r e a w) : Ends B w0 n μ n0 r e a w := by
  obtain ⟨ν, h1, h2, h3, h4⟩ := k
  exact ⟨ν, h.trans h1 hn, Nat.le_trans hn h2, h3, h4⟩

def CEnds (B : Nat) (w0 : World) (μ0 : Mu) (n0 : Nat) (res : CR) (H' : Hp) : Ending → World → Prop := fun e w =>
  ∃ ν, Mu.Ext n0 μ0 ν ∧ n0 ≤ H'.n ∧ Sim B w0 ν H' w ∧
    (match res with
     | .ret v => ∃ v', e = .returned v' ∧ VRel ν v v'
     | .pan v => ∃ v', e = .panicked [{ v := v', recovered := false }] ∧ VRel ν v v')

def CallOk (P : Program) (call : CallFn) : Prop := ∀ f args H res H', call f args H = some (res, H') → ∀ B w0 μ w args', Sim B w0 μ H w → LRel μ args.toList args'.toList →
  Calls P f args' w (CEnds B w0 μ H.n res H')

theorem EnvRel.rho {env : Tr Value} {a : Act} (h : EnvRel μ n env a.tmps) : RhoRel μ (rhoE env) a.eval := by
  intro x v hx
  cases x with
  | tmp t => exact (h.2 t v hx).2
  | const u =>
    simp only [rhoE] at hx
    split at hx
    · rename_i hf
      simp only [Option.some.injEq] at hx
      subst hx
      exact .of_flatD 3 hf
    · cases hx
  | func f => simp only [rhoE, Option.some.injEq] at hx; subst hx; exact .func rfl (fun _ => by simpa using VRel.ofUndef μ) rfl (fun _ => by simpa using VRel.ofUndef μ)
  | global g => simp [rhoE] at hx

theorem EnvRel.put {env env' : Tr Value} {a : Act} {dst : Option Tmp} {v v' : Value} (h : EnvRel μ n env a.tmps) (hv : VRel μ v v') (he : putE n env dst v = some env') : EnvRel μ n env' (a.put dst v').tmps := by
  unfold putE at he
  split at he
  · simp only [Option.some.injEq] at he; subst he; exact h
  · rename_i d
    split at he
    · rename_i hd
      simp only [Option.some.injEq] at he
      subst he
      refine ⟨by simp only [Act.put, Array.size_setIfInBounds]; exact h.1, fun i u hu => ?_⟩
      rw [Tr.get_set] at hu
      simp only [Act.put]
      by_cases hi : i = d
      · subst hi
        simp only [if_true, Option.some.injEq] at hu
        subst hu
        refine ⟨hd, ?_⟩
        rw [Array.getD_eq_getD_getElem?, Array.getElem?_setIfInBounds]
        simp [h.1, hd, hv]
      · rw [if_neg hi] at hu
        obtain ⟨h1, h2⟩ := h.2 i u hu
        refine ⟨h1, ?_⟩
        rw [Array.getD_eq_getD_getElem?, Array.getElem?_setIfInBounds, if_neg (fun e => hi e.symm), ← Array.getD_eq_getD_getElem?]
        exact h2
    · cases he
theorem Act.put_defers_eq (a : Act) (dst : Option Tmp) (v : Value) : (a.put dst v).defers = a.defers := by cases dst <;> rfl

/-- A guard is read alike. -/
theorem wanted_sound {ops : Array Oper} {a : Act} {ρ : Rho} {o : Oper} {b : Bool} (hρ : RhoRel μ ρ a.eval) (h : wantedA ops ρ o = some b)
    (hlt : ∀ (j : Nat) (want : Bool) (d : Tmp), o.guard = some (j, want) → (ops[j]?).bind (·.dst) = some d → (∃ v, ρ (.tmp d) = some v) → d < a.tmps.size) : Region.wanted o (yielded ops a.tmps) = b := by
  unfold wantedA at h
  unfold Region.wanted
  split at h
  · rename_i hg
    simp only [Option.some.injEq] at h
    rw [hg]; exact h
  · rename_i j want hg
    rw [hg]
    simp only
    split at h
    · rename_i d hd
      unfold yielded
      rw [hd]
      simp only [Option.bind_some]
      split at h
      · rename_i c hc
        simp only [Option.some.injEq] at h
        have hv := (hρ _ _ hc).bool_inv
        have hdl := hlt j want d hg hd ⟨_, hc⟩
        simp only [Act.eval] at hv
        rw [Array.getD_eq_getD_getElem?, Array.getElem?_eq_getElem hdl] at hv
        simp only [Option.getD_some] at hv
        rw [Array.getElem?_eq_getElem hdl, hv]
        simpa using h
      · rename_i v hnb hc
        simp only [Option.some.injEq] at h
        have hv := hρ _ _ hc
        have hdl := hlt j want d hg hd ⟨_, hc⟩
        simp only [Act.eval] at hv
        rw [Array.getD_eq_getD_getElem?, Array.getElem?_eq_getElem hdl] at hv
        simp only [Option.getD_some] at hv
        rw [Array.getElem?_eq_getElem hdl]
        generalize a.tmps[d] = u at hv
        subst h
        cases u with
        | bool c =>
          exfalso
          cases hv with
          | flat _ => exact hnb _ rfl
        | _ => simp
      · cases h
    · rename_i hd
      simp only [Option.some.injEq] at h
      unfold yielded
      rw [hd]
      simp [h]

theorem upon_mono {o : Oper} {a : Act} {K K' : Act → World → Prop} {Q Q' : Exit → Act → World → Prop} (hK : ∀ a w, K a w → K' a w) (hQ : ∀ e a w, Q e a w → Q' e a w) {r : Result Next}
    (h : o.upon P a K Q r) : o.upon P a K' Q' r := by
  cases r with
  | ok n w' =>
    cases n <;> simp only [Oper.upon] at h ⊢ <;>
      first
        | exact hK _ _ h
        | exact Calls.mono h (fun e w'' he => by
            cases e with
            | returned v => exact hK _ _ he
            | panicked c => exact hQ _ _ _ he
            | outgrown => obtain ⟨a0, w0, hq⟩ := he; exact ⟨a0, w0, hQ _ _ _ hq⟩)
        | exact Rows.mono h (fun _ _ he => hK _ _ he)
  | halt x w' => cases x <;> simp only [Oper.upon] at h ⊢ <;> exact hQ _ _ _ h
theorem wpOps_post {ops : Array Oper} {Q Q' : Exit → Act → World → Prop} (hQ : ∀ e a w, Q e a w → Q' e a w) : ∀ (l : List Nat) (a : Act) (w : World), wpOps P ops Q l a w → wpOps P ops Q' l a w := by
  intro l
  induction l with
  | nil => intro a w h; exact hQ _ _ _ h
  | cons i rest ih =>
    intro a w h
    simp only [wpOps] at h ⊢
    cases ho : ops[i]? with
    | none => rw [ho] at h; exact ih _ _ h
    | some o =>
      rw [ho] at h
      simp only at h ⊢
      by_cases hw : Region.wanted o (yielded ops a.tmps) = true
      · rw [if_pos hw] at h ⊢
        rcases h with h | ⟨h1, a0, w0, h2⟩
        · exact .inl (upon_mono ih hQ h)
        · exact .inr ⟨h1, a0, w0, hQ _ _ _ h2⟩
      · rw [if_neg hw] at h ⊢
        exact ih _ _ h

theorem evOps_sound (hf : Fit P ext) (hc : CallOk P call) (ops : Array Oper) : ∀ (l pre : List Oper) (s : St) (r : Ex × St) (μ : Mu) (a : Act) (w : World), ops.toList = pre ++ l → evOps P ext call n ops l s = some r →
    StRel B w0 n μ s a w → wpOps P ops (Ends B w0 n μ s.H.n r) (List.range' pre.length l.length) a w := by
  intro l
  induction l with
  | nil =>
    intro pre s r μ a w _ he hs
    simp only [evOps, Option.some.injEq] at he
    subst he
    exact ⟨μ, .refl _ _, Nat.le_refl _, hs, trivial⟩
  | cons o rest ih =>
    intro pre s r μ a w hops he hs
    have ho : ops[pre.length]? = some o := by
      rw [← Array.getElem?_toList, hops]; simp
    have hops' : ops.toList = (pre ++ [o]) ++ rest := by rw [hops]; simp
    have ih' := fun s r μ a w => ih (pre ++ [o]) s r μ a w hops'
    simp only [List.length_append, List.length_cons, List.length_nil, Nat.zero_add] at ih'
    simp only [List.length_cons, List.range'_succ]
    simp only [wpOps, ho]
    simp only [evOps] at he
    have hρ := hs.env.rho
    have hg : ∀ b, wantedA ops (rhoE s.env) o = some b → Region.wanted o (yielded ops a.tmps) = b := fun b h =>
      wanted_sound hρ h fun j want d _ _ ⟨v, hv⟩ => by rw [hs.env.1]; exact (hs.env.2 d v hv).1
    split at he
    · cases he
    · rename_i hw
      rw [hg _ hw]
      simp only [Bool.false_eq_true, if_false]
      split at he
      · rename_i env henv
        exact ih' ⟨env, s.ds, s.H⟩ r μ _ w he ⟨hs.env.put (.ofUndef μ) henv, by rw [Act.put_defers_eq]; exact hs.ds, hs.sim⟩
      · cases he
    · rename_i hw
      rw [hg _ hw]
      simp only [if_true]
      left
      unfold Oper.wp
      split at he
      · rename_i v H hop
        have hm := aop_mono hop
        obtain ⟨ν, hν, v', w', hrun, hv, hsim⟩ := aop_sound hf hs.sim hρ hop
        rw [hrun, Oper.upon_value]
        split at he
        · rename_i env henv
          have hle := hν.le hs.sim
          have := ih' ⟨env, s.ds, H⟩ r ν (a.put o.dst v') w' he ⟨(hs.env.mono hle).put hv henv, by rw [Act.put_defers_eq]; exact hs.ds.mono hle, hsim⟩
          exact wpOps_post (fun e a w k => Ends.of hν hm k) _ _ _ this
        · cases he
      · rename_i H hop
        have hm := aop_mono hop
        obtain ⟨ν, hν, w', hrun, hsim⟩ := aop_sound hf hs.sim hρ hop
        rw [hrun, Oper.upon_skip]
        split at he
        · rename_i env henv
          have hle := hν.le hs.sim
          have := ih' ⟨env, s.ds, H⟩ r ν (a.put o.dst undef) w' he ⟨(hs.env.mono hle).put (.ofUndef ν) henv, by rw [Act.put_defers_eq]; exact hs.ds.mono hle, hsim⟩
          exact wpOps_post (fun e a w k => Ends.of hν hm k) _ _ _ this
        · cases he
      · rename_i d H hop
        have hm := aop_mono hop
        obtain ⟨ν, hν, d', w', hrun, hd, hsim⟩ := aop_sound hf hs.sim hρ hop
        rw [hrun, Oper.upon_defer]
        split at he
        · rename_i env henv
          have hle := hν.le hs.sim
          have henv' := EnvRel.put (a := { a with defers := d' :: a.defers }) (hs.env.mono hle) (.ofUndef ν) henv
          have := ih' ⟨env, d :: s.ds, H⟩ r ν ({ a with defers := d' :: a.defers }.put o.dst undef) w' he ⟨henv', by rw [Act.put_defers_eq]; exact ⟨hd, hs.ds.mono hle⟩, hsim⟩
          exact wpOps_post (fun e a w k => Ends.of hν hm k) _ _ _ this
        · cases he
      · rename_i v H hop
        have hm := aop_mono hop
        obtain ⟨ν, hν, v', w', hrun, hv, hsim⟩ := aop_sound hf hs.sim hρ hop
        simp only [Option.some.injEq] at he
        subst he
        rw [hrun, Oper.upon_panic]
        have hle := hν.le hs.sim
        exact ⟨ν, hν, hm, ⟨hs.env.mono hle, hs.ds.mono hle, hsim⟩, v', rfl, hv⟩
      · rename_i f args H hop
        have hm := aop_mono hop
        obtain ⟨ν, hν, args', w', hrun, hargs, hsim⟩ := aop_sound hf hs.sim hρ hop
        rw [hrun, Oper.upon_enter]
        have hle := hν.le hs.sim
        split at he
        · rename_i v H' hcall
          refine (hc f args H _ H' hcall B w0 ν w' args' hsim hargs).mono ?_
          rintro e w'' ⟨ν2, hν2, hn2, hsim2, v', rfl, hv⟩
          simp only
          split at he
          · rename_i env henv
            have hle2 := hν2.le hsim
            have := ih' ⟨env, s.ds, H'⟩ r ν2 (a.put o.dst v') w'' he ⟨((hs.env.mono hle).mono hle2).put hv henv, by rw [Act.put_defers_eq]; exact (hs.ds.mono hle).mono hle2, hsim2⟩
            exact wpOps_post (fun e a w k => Ends.of (hν.trans hν2 hm) (Nat.le_trans hm hn2) k) _ _ _ this
          · cases he
        · rename_i v H' hcall
          simp only [Option.some.injEq] at he
          subst he
          refine (hc f args H _ H' hcall B w0 ν w' args' hsim hargs).mono ?_
          rintro e w'' ⟨ν2, hν2, hn2, hsim2, v', rfl, hv⟩
          simp only
          have hle2 := hν2.le hsim
          exact ⟨ν2, hν.trans hν2 hm, Nat.le_trans hm hn2, ⟨(hs.env.mono hle).mono hle2, (hs.ds.mono hle).mono hle2, hsim2⟩, v', rfl, hv⟩
        · cases he
      · cases he
end

end
end Go.Proofs.YtpmjpieiajdcgaaGreat
