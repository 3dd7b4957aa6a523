/- PE, part 14: code. -/
import Derived.Test.YtpmjpieiajdcgaaGreatPeSound
import Derived.LoopN
namespace Go.Proofs.YtpmjpieiajdcgaaGreat
open Go Go.RowKit
noncomputable section

section
variable {P : Program} {ext : FuncId → Option ExtK} {call : CallFn} {B n : Nat} {w0 w : World} {μ ν : Mu} {H : Hp}

def DrawOk (P : Program) (ext : FuncId → Option ExtK) (call : CallFn) : Prop := ∀ (n : Nat) (id : Nat) (ops : Array Oper) (env : Tr Value) (ds : List Deferred) (H : Hp) (r : Ex × St),
  (if uniqD n ops then evDraw P ext call n ops (ops.toList.map depMask) env ds (ops.size + 1) ⟨0, .e, [], List.range ops.size, H⟩ else none) = some r →
  ∀ B w0 μ a w, StRel B w0 n μ ⟨env, ds, H⟩ a w → (Code.region id ops true).wp P (Ends B w0 n μ H.n r) a w

theorem rounds_post {c : Code} {Q Q' : Exit → Act → World → Prop} (hQ : ∀ e a w, Q e a w → Q' e a w) : ∀ (k : Nat) (a : Act) (w : World), Code.rounds P c Q k a w → Code.rounds P c Q' k a w := by
  intro k
  induction k with
  | zero => intro a w h; exact h
  | succ k ih =>
    intro a w h
    rw [rounds_succ] at h ⊢
    refine wp_mono h ?_
    intro e a w h
    cases e with
    | normal => exact ih a w h
    | _ => exact hQ _ _ _ h

theorem iterE_sound {c : Code} {f : St → Option (Ex × St)}
    (hbody : ∀ (s : St) (r : Ex × St), f s = some r → ∀ μ a w, StRel B w0 n μ s a w → c.wp P (Ends B w0 n μ s.H.n r) a w) :
    ∀ (k : Nat) (s : St) (r : Ex × St), iterE f k s = some r → ∀ μ a w, StRel B w0 n μ s a w → Code.rounds P c (Ends B w0 n μ s.H.n r) k a w := by
  intro k
  induction k with
  | zero => intro s r h; cases h
  | succ k ih =>
    intro s r h μ a w hs
    rw [rounds_succ]
    simp only [iterE] at h
    split at h
    · rename_i s' hfs
      refine wp_mono (hbody s _ hfs μ a w hs) ?_
      rintro e a' w' ⟨ν, h1, h2, h3, h4⟩
      cases e with
      | normal =>
        have hr := ih s' r h ν a' w' h3
        show Code.rounds P c _ k a' w'
        exact rounds_post (fun e a w q => Ends.of h1 h2 q) k a' w' hr
      | _ => exact h4.elim
    · rename_i hn
      refine wp_mono (hbody s r h μ a w hs) ?_
      rintro e a' w' ⟨ν, h1, h2, h3, h4⟩
      cases e with
      | normal =>
        obtain ⟨x, s'⟩ := r
        cases x with
        | normal => exact absurd h (hn s')
        | _ => exact h4.elim
      | _ => exact ⟨ν, h1, h2, h3, h4⟩

theorem evCode_sound (hf : Fit P ext) (hc : CallOk P call) (hd : DrawOk P ext call) (K : Nat) : ∀ (c : Code) (s : St) (r : Ex × St), evCode P ext call n K c s = some r →
    ∀ μ a w, StRel B w0 n μ s a w → c.wp P (Ends B w0 n μ s.H.n r) a w := by
  intro c
  induction c with
  | skip => intro s r h μ a w hs; simp only [evCode, Option.some.injEq] at h; subst h; exact wp_skip ⟨μ, .refl _ _, Nat.le_refl _, hs, trivial⟩
  | ret => intro s r h μ a w hs; simp only [evCode, Option.some.injEq] at h; subst h; exact wp_ret ⟨μ, .refl _ _, Nat.le_refl _, hs, trivial⟩
  | exit id => intro s r h μ a w hs; simp only [evCode, Option.some.injEq] at h; subst h; exact wp_exit ⟨μ, .refl _ _, Nat.le_refl _, hs, rfl⟩
  | seq x y ihx ihy =>
    intro s r h μ a w hs
    simp only [evCode] at h
    refine wp_seq ?_
    split at h
    · rename_i s' hx
      refine wp_mono (ihx s _ hx μ a w hs) ?_
      rintro e a' w' ⟨ν, h1, h2, h3, h4⟩
      cases e with
      | normal => exact wp_mono (ihy s' r h ν a' w' h3) (fun e a w q => Ends.of h1 h2 q)
      | _ => exact h4.elim
    · rename_i hn
      refine wp_mono (ihx s r h μ a w hs) ?_
      rintro e a' w' ⟨ν, h1, h2, h3, h4⟩
      cases e with
      | normal =>
        obtain ⟨x, s'⟩ := r
        cases x with
        | normal => exact absurd h (hn s')
        | _ => exact h4.elim
      | _ => exact ⟨ν, h1, h2, h3, h4⟩
  | cond c x y ihx ihy =>
    intro s r h μ a w hs
    simp only [evCode] at h
    split at h
    · rename_i hc
      exact wp_cond_true (hs.env.rho _ _ hc).bool_inv (ihx s r h μ a w hs)
    · rename_i hc
      exact wp_cond_false (hs.env.rho _ _ hc).bool_inv (ihy s r h μ a w hs)
    · cases h
  | block id c ih =>
    intro s r h μ a w hs
    simp only [evCode] at h
    refine wp_block ?_
    split at h
    · rename_i j s' hx
      refine wp_mono (ih s _ hx μ a w hs) ?_
      rintro e a' w' ⟨ν, h1, h2, h3, h4⟩
      cases e with
      | exit k =>
        have hjk : j = k := h4
        subst hjk
        simp only [Exit.inBlock]
        split at h
        · rename_i hid
          rw [if_pos hid]
          simp only [Option.some.injEq] at h
          subst h
          exact ⟨ν, h1, h2, h3, trivial⟩
        · rename_i hid
          rw [if_neg hid]
          simp only [Option.some.injEq] at h
          subst h
          exact ⟨ν, h1, h2, h3, rfl⟩
      | _ => exact h4.elim
    · rename_i hn
      refine wp_mono (ih s r h μ a w hs) ?_
      rintro e a' w' ⟨ν, h1, h2, h3, h4⟩
      cases e with
      | exit k =>
        obtain ⟨x, s'⟩ := r
        cases x with
        | exit j => exact absurd h (hn j s')
        | _ => exact h4.elim
      | _ => exact ⟨ν, h1, h2, h3, h4⟩
  | loop c ih =>
    intro s r h μ a w hs
    simp only [evCode] at h
    exact wp_loop_rounds K (iterE_sound (fun s r h μ a w hs => ih s r h μ a w hs) K s r h μ a w hs)
  | region id ops draw =>
    intro s r h μ a w hs
    simp only [evCode] at h
    cases draw with
    | true =>
      simp only [if_true] at h
      exact hd n id ops s.env s.ds s.H r h B w0 μ a w hs
    | false =>
      simp only [Bool.false_eq_true, if_false] at h
      refine wp_region ?_
      have := evOps_sound hf hc ops ops.toList [] s r μ a w (by simp) h hs
      simpa [List.range_eq_range'] using this
  | _ => intro s r h; simp [evCode] at h

theorem argsEnv_get : ∀ (l : List Value) (k : Nat) (t : Tr Value) (i : Nat) (v : Value), (argsEnv l k t).get i = some v → (k ≤ i ∧ l[i - k]? = some v) ∨ ((i < k ∨ k + l.length ≤ i) ∧ t.get i = some v) := by
  intro l
  induction l with
  | nil => intro k t i v h; simp only [argsEnv] at h; right; exact ⟨by simp; omega, h⟩
  | cons x l ih =>
    intro k t i v h
    simp only [argsEnv] at h
    rcases ih (k + 1) _ i v h with ⟨h1, h2⟩ | ⟨h1, h2⟩
    · left
      refine ⟨by omega, ?_⟩
      rw [show i - k = (i - (k + 1)) + 1 by omega]
      simpa using h2
    · rw [Tr.get_set] at h2
      split at h2
      · rename_i e
        left
        subst e
        simp only [Option.some.injEq] at h2
        exact ⟨Nat.le_refl _, by simpa using h2⟩
      · right
        refine ⟨?_, h2⟩
        simp only [List.length_cons]
        omega

theorem argsEnv_rel {args args' : Array Value} (h : LRel μ args.toList args'.toList) (hn : args.size ≤ n) : EnvRel μ n (argsEnv args.toList 0 .e) (args' ++ Array.replicate (n - args'.size) undef) := by
  have hsz : args'.size = args.size := by have := h.1; simpa using this.symm
  refine ⟨by rw [Array.size_append, Array.size_replicate, hsz]; omega, fun i v hi => ?_⟩
  rcases argsEnv_get _ _ _ _ _ hi with ⟨_, h2⟩ | ⟨_, h2⟩
  · rw [Nat.sub_zero] at h2
    obtain ⟨v', hv', hrel⟩ := h.get? h2
    have hlt := (List.getElem?_eq_some_iff.1 h2).1
    simp only [Array.length_toList] at hlt
    refine ⟨by omega, ?_⟩
    rw [Array.getD_eq_getD_getElem?, Array.getElem?_append_left (by omega), ← Array.getElem?_toList, hv']
    exact hrel
  · simp at h2

def resM (tmps : Array Value) : ResultVar → Sem Value
  | .tmp t => pure (tmps.getD t undef)
  | .cell a t => do loadVar t (← asAddr (tmps.getD a undef))
theorem results_list (fn : Func) (tmps : Array Value) : results fn tmps = (do
    let vs ← List.toArray <$> fn.results.toList.mapM (resM tmps)
    pure (if h : vs.size = 1 then vs[0] else .tuple vs)) := by
  unfold results
  rw [Array.mapM_eq_mapM_toList]
  congr 1

theorem resA_sound {s : St} {a : Act} (hs : StRel B w0 n μ s a w) {x : ResultVar} {v : Value} (h : resA P s x = some v) : ∃ v', (resM a.tmps x).run P w = .ok v' w ∧ VRel μ v v' := by
  cases x with
  | tmp t => exact ⟨_, rfl, (hs.env.2 t v h).2⟩
  | cell b t =>
    simp only [resA] at h
    split at h
    · rename_i u H hl
      simp only [Option.some.injEq] at h
      subst h
      obtain ⟨u', hrun, u2, he, hv⟩ := loadA_sound' (v' := a.tmps.getD b undef) hs.sim (fun u hu => (hs.env.2 b u hu).2) hl
      cases he
      refine ⟨u', ?_, hv⟩
      cases hg : s.env.get b with
      | none => rw [hg] at hl; simp [loadA] at hl
      | some p =>
        have hp := (hs.env.2 b p hg).2
        rw [hg] at hl
        unfold loadA at hl
        split at hl
        · rename_i i off heq
          simp only [Option.some.injEq] at heq
          subst heq
          obtain ⟨x, _, hx⟩ := hp.ptr_inv
          rw [hx] at hrun
          simpa [resM, hx, asAddr, Instr.loadAt, Instr.sureAddr] using hrun
        · cases hl
    · cases h
theorem resList_sound {s : St} {a : Act} (hs : StRel B w0 n μ s a w) : ∀ (l : List ResultVar) {vs : List Value}, resListA P s l = some vs → ∃ vs', (l.mapM (resM a.tmps)).run P w = .ok vs' w ∧ LRel μ vs vs' := by
  intro l
  induction l with
  | nil => intro vs h; simp only [resListA, Option.some.injEq] at h; subst h; exact ⟨[], rfl, LRel.nil μ⟩
  | cons x l ih =>
    intro vs h
    simp only [resListA] at h
    split at h
    · rename_i v vs0 hx hl
      simp only [Option.some.injEq] at h
      subst h
      obtain ⟨v', hrun, hv⟩ := resA_sound (P := P) hs hx
      obtain ⟨vs', hruns, hvs⟩ := ih hl
      refine ⟨v' :: vs', ?_, hvs.cons hv⟩
      rw [List.mapM_cons]
      simp only [Sem.run_bind, hrun, Result.andThen_ok, hruns, Sem.run_pure]
    · cases h

theorem resultsA_sound {fn : Func} {s : St} {v : Value} {a : Act} (hs : StRel B w0 n μ s a w) (h : resultsA P fn s = some v) : ∃ v', (results fn a.tmps).run P w = .ok v' w ∧ VRel μ v v' := by
  unfold resultsA at h
  rw [results_list]
  split at h
  · rename_i u hu
    simp only [Option.some.injEq] at h
    subst h
    obtain ⟨vs', hrun, hrel⟩ := resList_sound hs _ hu
    obtain ⟨v', l, rfl, hv, hl⟩ := hrel.cons_inv
    rw [hl.nil_inv] at hrun
    refine ⟨v', ?_, hv⟩
    simp only [Sem.run_bind, Sem.run_map, hrun, Result.andThen_ok, Sem.run_pure]
    rfl
  · rename_i l hne hl
    simp only [Option.some.injEq] at h
    subst h
    obtain ⟨vs', hrun, hrel⟩ := resList_sound hs _ hl
    refine ⟨.tuple vs'.toArray, ?_, .tup (by simpa using hrel.1) (by simpa using hrel.2)⟩
    have hlen : ¬ (vs'.toArray.size = 1) := by
      simp only [List.size_toArray]
      rw [← hrel.1]
      intro e
      obtain ⟨u, hu⟩ := List.length_eq_one_iff.1 e
      exact hne u hu
    simp only [Sem.run_bind, Sem.run_map, hrun, Result.andThen_ok, Sem.run_pure, dif_neg hlen]
  · cases h
end

end
end Go.Proofs.YtpmjpieiajdcgaaGreat
