/- PE, part 15: deferred calls, whole calls. -/
import Derived.Test.YtpmjpieiajdcgaaGreatPeSound2
namespace Go.Proofs.YtpmjpieiajdcgaaGreat
open Go Go.RowKit
noncomputable section

section
variable {P : Program} {ext : FuncId → Option ExtK} {call : CallFn} {B n : Nat} {w0 w : World} {μ ν : Mu} {H : Hp}

/-- The panic of the frame below, as it stands: none, one that goes on, one that was recovered. -/
inductive Mode0 where
  | ret
  | pan (v : Value)
  | rcv (v : Value)

def modeM : Mode0 → FrameMode
  | .ret => .returning
  | .pan v => .panicking [{ v, recovered := false }]
  | .rcv v => .panicking [{ v, recovered := true }]
def ModeRel (μ : Mu) (m : Option Value) (x : Mode0) : Prop :=
  match m, x with
  | none, .ret | none, .rcv _ => True
  | some v, .pan v' => VRel μ v v'
  | _, _ => False
theorem ModeRel.mono (h : μ.Le ν) {m : Option Value} {x : Mode0} (r : ModeRel μ m x) : ModeRel ν m x := by
  cases m <;> cases x <;> first | trivial | exact VRel.mono h r | exact r.elim

theorem recoverD_mode (c₀ : Frame) (cs : List Frame) (x : Mode0) : recoverD ({ c₀ with mode := modeM x } :: cs) =
    (match x with | .pan v => some (v, { c₀ with mode := modeM (.rcv v) } :: cs) | _ => none) := by
  cases x <;> rfl

/-- One operation that ends as it should. -/
theorem evOne_sound (hf : Fit P ext) (hc : CallOk P call) {ops : Array Oper} {o : Oper} {s s1 : St} {a : Act} (he : evOps P ext call n ops [o] s = some (.normal, s1)) (hs : StRel B w0 n μ s a w) :
    (Region.wanted o (yielded ops a.tmps) = true ∧
      o.upon P a (fun a' w' => ∃ ν, Mu.Ext s.H.n μ ν ∧ s.H.n ≤ s1.H.n ∧ StRel B w0 n ν s1 a' w') (fun _ _ _ => False) ((execOp a.eval o).run P w)) ∨
    (Region.wanted o (yielded ops a.tmps) = false ∧ s1.H = s.H ∧ StRel B w0 n μ s1 (a.put o.dst undef) w) := by
  simp only [evOps] at he
  have hρ := hs.env.rho
  have hg : ∀ b, wantedA ops (rhoE s.env) o = some b → Region.wanted o (yielded ops a.tmps) = b := fun b h =>
    wanted_sound hρ h fun j want d _ _ ⟨v, hv⟩ => by rw [hs.env.1]; exact (hs.env.2 d v hv).1
  split at he
  · cases he
  · rename_i hw
    right
    refine ⟨hg _ hw, ?_⟩
    split at he
    · rename_i env henv
      simp only [Option.some.injEq, Prod.mk.injEq, true_and] at he
      subst he
      exact ⟨rfl, hs.env.put (.ofUndef μ) henv, by rw [Act.put_defers_eq]; exact hs.ds, hs.sim⟩
    · cases he
  · rename_i hw
    left
    refine ⟨hg _ hw, ?_⟩
    split at he
    · rename_i v H hop
      have hm := aop_mono hop
      obtain ⟨ν, hν, v', w', hrun, hv, hsim⟩ := aop_sound hf hs.sim hρ hop
      rw [hrun, Oper.upon_value]
      split at he
      · rename_i env henv
        simp only [Option.some.injEq, Prod.mk.injEq, true_and] at he
        subst he
        have hle := hν.le hs.sim
        exact ⟨ν, hν, hm, (hs.env.mono hle).put hv henv, by rw [Act.put_defers_eq]; exact hs.ds.mono hle, hsim⟩
      · cases he
    · rename_i H hop
      have hm := aop_mono hop
      obtain ⟨ν, hν, w', hrun, hsim⟩ := aop_sound hf hs.sim hρ hop
      rw [hrun, Oper.upon_skip]
      split at he
      · rename_i env henv
        simp only [Option.some.injEq, Prod.mk.injEq, true_and] at he
        subst he
        have hle := hν.le hs.sim
        exact ⟨ν, hν, hm, (hs.env.mono hle).put (.ofUndef ν) henv, by rw [Act.put_defers_eq]; exact hs.ds.mono hle, hsim⟩
      · cases he
    · rename_i d H hop
      have hm := aop_mono hop
      obtain ⟨ν, hν, d', w', hrun, hd, hsim⟩ := aop_sound hf hs.sim hρ hop
      rw [hrun, Oper.upon_defer]
      split at he
      · rename_i env henv
        simp only [Option.some.injEq, Prod.mk.injEq, true_and] at he
        subst he
        have hle := hν.le hs.sim
        have henv' := EnvRel.put (a := { a with defers := d' :: a.defers }) (hs.env.mono hle) (.ofUndef ν) henv
        exact ⟨ν, hν, hm, henv', by rw [Act.put_defers_eq]; exact ⟨hd, hs.ds.mono hle⟩, hsim⟩
      · cases he
    · simp at he
    · rename_i f args H hop
      have hm := aop_mono hop
      obtain ⟨ν, hν, args', w', hrun, hargs, hsim⟩ := aop_sound hf hs.sim hρ hop
      rw [hrun, Oper.upon_enter]
      have hle := hν.le hs.sim
      split at he
      · rename_i v H' hcall
        refine (hc f args H _ H' hcall B w0 ν w' args' hsim hargs).mono ?_
        rintro e w'' ⟨ν2, hν2, hn2, hsim2, v', rfl, hv⟩
        simp only
        split at he
        · rename_i env henv
          simp only [Option.some.injEq, Prod.mk.injEq, true_and] at he
          subst he
          have hle2 := hν2.le hsim
          exact ⟨ν2, hν.trans hν2 hm, Nat.le_trans hm hn2, ((hs.env.mono hle).mono hle2).put hv henv, by rw [Act.put_defers_eq]; exact (hs.ds.mono hle).mono hle2, hsim2⟩
        · cases he
      · simp at he
      · cases he
    · cases he

/-- The region with recover. -/
theorem evOpsR_sound (hf : Fit P ext) (hc : CallOk P call) (ops : Array Oper) (c₀ : Frame) (cs : List Frame) (Q : Exit → Act → List Frame → World → Prop) :
    ∀ (l pre : List Oper) (s : St) (m : Option Value) (s' : St) (m' : Option Value) (μ : Mu) (a : Act) (x : Mode0) (w : World), ops.toList = pre ++ l → evOpsR P ext call n ops l s m = some (s', m') →
    StRel B w0 n μ s a w → ModeRel μ m x →
    (∀ ν a w x, Mu.Ext s.H.n μ ν → s.H.n ≤ s'.H.n → StRel B w0 n ν s' a w → ModeRel ν m' x → Q .normal a ({ c₀ with mode := modeM x } :: cs) w) →
    wpOpsS P ops Q (List.range' pre.length l.length) a ({ c₀ with mode := modeM x } :: cs) w := by
  intro l
  induction l with
  | nil =>
    intro pre s m s' m' μ a x w _ he hs hm hQ
    simp only [evOpsR, Option.some.injEq, Prod.mk.injEq] at he
    obtain ⟨rfl, rfl⟩ := he
    exact hQ μ a w x (.refl _ _) (Nat.le_refl _) hs hm
  | cons o rest ih =>
    intro pre s m s' m' μ a x w hops he hs hm hQ
    have ho : ops[pre.length]? = some o := by
      rw [← Array.getElem?_toList, hops]; simp
    have hops' : ops.toList = (pre ++ [o]) ++ rest := by rw [hops]; simp
    have ih' := fun s m s' m' μ a x w => ih (pre ++ [o]) s m s' m' μ a x w hops'
    simp only [List.length_append, List.length_cons, List.length_nil, Nat.zero_add] at ih'
    simp only [List.length_cons, List.range'_succ]
    simp only [evOpsR] at he
    split at he
    · rename_i hir
      simp only [wpOpsS, ho]
      obtain ⟨c, hop, hcal, hg⟩ : ∃ c, o.op = .call c ∧ c.callee = .builtin .recover ∧ o.guard = none := by
        unfold isRecover at hir
        split at hir
        · rename_i c hop
          simp only [Bool.and_eq_true, Option.isNone_iff_eq_none] at hir
          refine ⟨c, hop, ?_, hir.2⟩
          have := hir.1
          split at this
          · assumption
          · cases this
        · cases hir
      have hw : Region.wanted o (yielded ops a.tmps) = true := by unfold Region.wanted; rw [hg]
      rw [if_pos hw]
      have hrun : (execOp a.eval o).run P w = .ok .recover w := by
        simp [execOp, hop, resolve, hcal, invoke, builtin]
      rw [hrun]
      simp only
      rw [recoverD_mode]
      split at he
      · rename_i env henv
        cases x with
        | pan v =>
          simp only
          cases m with
          | none => exact hm.elim
          | some u =>
            simp only [Option.getD_some] at henv
            have hs2 : StRel B w0 n μ { s with env } (a.put o.dst v) w := ⟨hs.env.put hm henv, by rw [Act.put_defers_eq]; exact hs.ds, hs.sim⟩
            exact ih' { s with env } none s' m' μ _ (.rcv v) w he hs2 trivial hQ
        | ret =>
          simp only
          cases m with
          | some u => exact hm.elim
          | none =>
            simp only [Option.getD_none] at henv
            have hs2 : StRel B w0 n μ { s with env } (a.put o.dst .nilIface) w := ⟨hs.env.put (.flat rfl) henv, by rw [Act.put_defers_eq]; exact hs.ds, hs.sim⟩
            exact ih' { s with env } none s' m' μ _ .ret w he hs2 trivial hQ
        | rcv v =>
          simp only
          cases m with
          | some u => exact hm.elim
          | none =>
            simp only [Option.getD_none] at henv
            have hs2 : StRel B w0 n μ { s with env } (a.put o.dst .nilIface) w := ⟨hs.env.put (.flat rfl) henv, by rw [Act.put_defers_eq]; exact hs.ds, hs.sim⟩
            exact ih' { s with env } none s' m' μ _ (.rcv v) w he hs2 trivial hQ
      · cases he
    · rename_i hnr
      split at he
      · rename_i s1 hone
        simp only [wpOpsS, ho]
        rcases evOne_sound hf hc hone hs with ⟨hw, hup⟩ | ⟨hw, hH, hs1⟩
        · rw [if_pos hw]
          split
          · rename_i w' hrun
            rw [hrun] at hup
            exact hup.elim
          · refine upon_mono ?_ ?_ hup
            · rintro a' w' ⟨ν, hν, hn, hs1⟩
              exact ih' s1 m s' m' ν a' x w' he hs1 (hm.mono (hν.le hs.sim)) (fun ν2 a2 w2 x2 h1 h2 h3 h4 => hQ ν2 a2 w2 x2 (hν.trans h1 hn) (Nat.le_trans hn h2) h3 h4)
            · intro e a' w' h; exact h.elim
        · rw [if_neg (by rw [hw]; decide)]
          exact ih' s1 m s' m' μ _ x w he hs1 hm (fun ν2 a2 w2 x2 h1 h2 h3 h4 => hQ ν2 a2 w2 x2 (by rw [← hH]; exact h1) (by rw [← hH]; exact h2) h3 h4)
      · cases he

theorem settle_modeM (x : Mode0) : settle (modeM x) = (match x with | .pan v => modeM (.pan v) | _ => .returning) := by
  cases x <;> rfl

/-- A deferred call. -/
theorem evDefer_sound (hf : Fit P ext) (hc : CallOk P call) (hd : DrawOk P ext call) {K : Nat} {d d' : Deferred} {m m' : Option Value} {H' : Hp} {x : Mode0} (hs : Sim B w0 μ H w) (hdr : DRel μ d d') (hm : ModeRel μ m x)
    (he : evDefer P ext call K d m H = some (m', H')) :
    ∃ fv cap f args, d'.target = .fn fv cap ∧ (invoke d'.target d'.args).run P w = .ok (.enter f args) w ∧
      CallsD P f args (modeM x) w (fun e u w' => ∃ v, e = .returned v ∧ ∃ ν x', Mu.Ext H.n μ ν ∧ H.n ≤ H'.n ∧ Sim B w0 ν H' w' ∧ u = modeM x' ∧ ModeRel ν m' x') := by
  unfold evDefer at he
  split at he
  · rename_i k cap htar
    obtain ⟨⟨fn', c1, c', ht, ht', hcap⟩, hargs⟩ := hdr
    rw [htar] at ht
    cases ht
    split at he
    · rename_i fn hfn
      split at he
      · rename_i rid ops rest hb
        split at he
        · rename_i hg
          simp only [Bool.and_eq_true, decide_eq_true_eq] at hg
          split at he
          · rename_i s1 m1 hR
            have hall : LRel μ (d.args.toList ++ cap.toList) (d'.args ++ c').toList := by
              rw [Array.toList_append]; exact hargs.append hcap
            have hsz : (d.args.toList ++ cap.toList).toArray.size ≤ fn.ntmps := by simpa using hg.1
            have hrel : LRel μ (d.args.toList ++ cap.toList).toArray.toList (d'.args ++ c').toList := hall
            have henv := argsEnv_rel (n := fn.ntmps) hrel hsz
            refine ⟨_, _, k, d'.args ++ c', ht', ?_, ?_⟩
            · rw [ht']
              simp only [invoke]
              exact run_callFunc_body hf hfn hb _
            · refine callsD_of_wpS hfn hb fun c₀ cs hu => ?_
              have hmode : ({ c₀ with mode := modeM x } : Frame) = c₀ := by rw [← hu]
              refine wpS_seq (wpS_region ?_)
              have hs0 : StRel B w0 fn.ntmps μ ⟨argsEnv (d.args.toList ++ cap.toList) 0 .e, [], H⟩ { tmps := (d'.args ++ c') ++ Array.replicate (fn.ntmps - (d'.args ++ c').size) undef, defers := [] } w := ⟨henv, trivial, hs⟩
              have hcs : (c₀ :: cs) = ({ c₀ with mode := modeM x } :: cs) := by rw [hmode]
              rw [hcs]
              have := evOpsR_sound hf hc ops c₀ cs (Exit.thenS (rest.wpS P (bodyPostS P fn c₀ cs (fun e u w' => ∃ v, e = .returned v ∧ ∃ ν x', Mu.Ext H.n μ ν ∧ H.n ≤ H'.n ∧ Sim B w0 ν H' w' ∧ u = modeM x' ∧ ModeRel ν m' x')))
                (bodyPostS P fn c₀ cs (fun e u w' => ∃ v, e = .returned v ∧ ∃ ν x', Mu.Ext H.n μ ν ∧ H.n ≤ H'.n ∧ Sim B w0 ν H' w' ∧ u = modeM x' ∧ ModeRel ν m' x'))) ops.toList [] _ m s1 m1 μ _ x w (by simp) hR hs0 hm ?_
              · simpa [List.range_eq_range'] using this
              intro ν a1 w1 x1 h1 h2 h3 h4
              show rest.wpS P _ a1 _ w1
              refine wpS_of_wp ?_
              have hres : ∀ (a : Act) (w : World), fn.results.isEmpty = true → (results fn a.tmps).run P w = .ok (.tuple #[]) w := by
                intro a w hemp
                have : fn.results = #[] := by simpa using hemp
                simp [results, this]
              have hfin : ∀ (ex : Ex) (s2 : St), evCode P ext call fn.ntmps K rest s1 = some (ex, s2) → (ex = .normal ∨ ex = .ret) → s2.ds.isEmpty = true → m1 = m' → s2.H = H' →
                  rest.wp P (fun e a' w' => bodyPostS P fn c₀ cs (fun e u w' => ∃ v, e = .returned v ∧ ∃ ν x', Mu.Ext H.n μ ν ∧ H.n ≤ H'.n ∧ Sim B w0 ν H' w' ∧ u = modeM x' ∧ ModeRel ν m' x') e a' ({ c₀ with mode := modeM x1 } :: cs) w') a1 w1 := by
                intro ex s2 hev hex hemp hmm hHH
                refine wp_mono (evCode_sound hf hc hd K rest s1 _ hev ν a1 w1 h3) ?_
                rintro e a2 w2 ⟨ν2, k1, k2, k3, k4⟩
                have hds : a2.defers = [] := by
                  have := k3.ds
                  have hnil : s2.ds = [] := by simpa using hemp
                  simp only [hnil] at this
                  cases hda : a2.defers with
                  | nil => rfl
                  | cons _ _ => rw [hda] at this; exact this.elim
                have hpost : bodyPostS P fn c₀ cs (fun e u w' => ∃ v, e = .returned v ∧ ∃ ν x', Mu.Ext H.n μ ν ∧ H.n ≤ H'.n ∧ Sim B w0 ν H' w' ∧ u = modeM x' ∧ ModeRel ν m' x') .normal a2 ({ c₀ with mode := modeM x1 } :: cs) w2 := by
                  refine ⟨hds, modeM x1, rfl, _, hres _ _ hg.2, _, rfl, ν2, x1, h1.trans k1 h2, ?_, ?_, rfl, ?_⟩
                  · rw [← hHH]; exact Nat.le_trans h2 k2
                  · rw [← hHH]; exact k3.sim
                  · rw [← hmm]; exact h4.mono (k1.le h3.sim)
                rcases hex with rfl | rfl
                · cases e with
                  | normal => exact hpost
                  | _ => exact k4.elim
                · cases e with
                  | ret => exact hpost
                  | _ => exact k4.elim
              split at he
              · rename_i s2 hev
                split at he
                · rename_i hemp
                  simp only [Option.some.injEq, Prod.mk.injEq] at he
                  exact hfin _ s2 hev (.inl rfl) hemp he.1 he.2
                · cases he
              · rename_i s2 hev
                split at he
                · rename_i hemp
                  simp only [Option.some.injEq, Prod.mk.injEq] at he
                  exact hfin _ s2 hev (.inr rfl) hemp he.1 he.2
                · cases he
              · cases he
          · cases he
        · cases he
      · cases he
    · cases he
  · cases he

theorem evLeave_sound (hf : Fit P ext) (hc : CallOk P call) (hd : DrawOk P ext call) {K : Nat} {fn : Func} {tmps : Array Value} {n0 : Nat} {μ0 : Mu} : ∀ (ds : List Deferred) (ds' : List Deferred) (m : Option Value) (s : St) (res : CR) (H' : Hp) (μ : Mu) (w : World) (x : Mode0),
    evLeave P ext call K fn ds m s = some (res, H') → EnvRel μ fn.ntmps s.env tmps → DsRel μ ds ds' → Sim B w0 μ s.H w → ModeRel μ m x → (∀ v, x ≠ .rcv v) → Mu.Ext n0 μ0 μ → n0 ≤ s.H.n →
    Leaves P fn tmps (CEnds B w0 μ0 n0 res H') ds' (modeM x) w := by
  intro ds
  induction ds with
  | nil =>
    intro ds' m s res H' μ w x he henv hds hs hm hx hν hn
    cases ds' with
    | cons _ _ => exact hds.elim
    | nil =>
      cases m with
      | none =>
        simp only [evLeave] at he
        split at he
        · rename_i v hv
          simp only [Option.some.injEq, Prod.mk.injEq] at he
          obtain ⟨rfl, rfl⟩ := he
          cases x with
          | ret =>
            obtain ⟨v', hrun, hrel⟩ := resultsA_sound (P := P) (s := ⟨s.env, [], s.H⟩) (a := { tmps, defers := [] }) ⟨henv, trivial, hs⟩ hv
            exact ⟨v', hrun, μ, hν, hn, hs, v', rfl, hrel⟩
          | pan v => exact hm.elim
          | rcv v => exact absurd rfl (hx v)
        · cases he
      | some v =>
        simp only [evLeave, Option.some.injEq, Prod.mk.injEq] at he
        obtain ⟨rfl, rfl⟩ := he
        cases x with
        | pan v' => exact ⟨μ, hν, hn, hs, v', rfl, hm⟩
        | _ => exact hm.elim
  | cons d ds ih =>
    intro ds' m s res H' μ w x he henv hds hs hm hx hν hn
    cases ds' with
    | nil => exact hds.elim
    | cons d' ds' =>
      simp only [evLeave] at he
      split at he
      · rename_i m1 H1 hdef
        obtain ⟨fv, cap, f, args, ht, hinv, hcall⟩ := evDefer_sound (K := K) hf hc hd hs hds.1 hm hdef
        refine ⟨by cases x <;> simp [modeM], fv, cap, f, args, ht, hinv, hcall.mono ?_⟩
        rintro e u w' ⟨v, rfl, ν, x1, h1, h2, h3, rfl, h5⟩
        simp only
        have hle := h1.le hs
        have key : ∀ x2, ModeRel ν m1 x2 → (∀ v, x2 ≠ .rcv v) → Leaves P fn tmps (CEnds B w0 μ0 n0 res H') ds' (modeM x2) w' := fun x2 hm2 hx2 =>
          ih ds' m1 { s with H := H1 } res H' ν w' x2 he (henv.mono hle) (hds.2.mono hle) h3 hm2 hx2 (hν.trans h1 hn) (Nat.le_trans hn h2)
        rw [settle_modeM]
        cases x1 with
        | ret => exact key .ret h5 (by simp)
        | pan v => exact key (.pan v) h5 (by simp)
        | rcv v =>
          cases m1 with
          | none => exact key .ret trivial (by simp)
          | some _ => exact h5.elim
      · cases he

/-- One call. -/
def evStep (P : Program) (ext : FuncId → Option ExtK) (K : Nat) (call : CallFn) (f : FuncId) (args : Array Value) (H : Hp) : Option (CR × Hp) :=
  match P.funcs[f]? with
  | some fn => match fn.body with
    | some c =>
      if args.size ≤ fn.ntmps then
        match evCode P ext call fn.ntmps K c ⟨argsEnv args.toList 0 .e, [], H⟩ with
        | some (.normal, s) | some (.ret, s) => evLeave P ext call K fn s.ds none s
        | some (.panic v, s) => evLeave P ext call K fn s.ds (some v) s
        | _ => none
      else none
    | none => none
  | none => none
theorem evStep_sound (hf : Fit P ext) (K : Nat) {call : CallFn} (hdr : DrawOk P ext call) (ih : CallOk P call) : CallOk P (evStep P ext K call) := by
  intro f args H res H' h B w0 μ w args' hs hargs
  unfold evStep at h
  split at h
  · rename_i fn hfn
    split at h
    · rename_i c hb
      split at h
      · rename_i hsz
        refine calls_of_wp_defers hfn hb ?_
        have henv := argsEnv_rel (n := fn.ntmps) hargs hsz
        have hs0 : StRel B w0 fn.ntmps μ ⟨argsEnv args.toList 0 .e, [], H⟩ { tmps := args' ++ Array.replicate (fn.ntmps - args'.size) undef, defers := [] } w := ⟨henv, trivial, hs⟩
        have hfin : ∀ (ex : Ex) (s : St) (m : Option Value), evCode P ext call fn.ntmps K c ⟨argsEnv args.toList 0 .e, [], H⟩ = some (ex, s) →
            (match ex with | .normal | .ret => m = none | .panic v => m = some v | _ => False) → evLeave P ext call K fn s.ds m s = some (res, H') →
            c.wp P (bodyPostD P fn (CEnds B w0 μ H.n res H')) { tmps := args' ++ Array.replicate (fn.ntmps - args'.size) undef, defers := [] } w := by
          intro ex s m hev hm hl
          refine wp_mono (evCode_sound hf ih hdr K c _ _ hev μ _ w hs0) ?_
          rintro e a1 w1 ⟨ν, k1, k2, k3, k4⟩
          have key : ∀ x, ModeRel ν m x → (∀ v, x ≠ .rcv v) → Leaves P fn a1.tmps (CEnds B w0 μ H.n res H') a1.defers (modeM x) w1 := fun x hmx hx =>
            evLeave_sound hf ih hdr s.ds a1.defers m s res H' ν w1 x hl k3.env k3.ds k3.sim hmx hx k1 k2
          cases ex with
          | normal =>
            cases e with
            | normal => subst hm; exact key .ret trivial (by simp)
            | _ => exact k4.elim
          | ret =>
            cases e with
            | ret => subst hm; exact key .ret trivial (by simp)
            | _ => exact k4.elim
          | exit id => exact hm.elim
          | panic v =>
            cases e with
            | panic ch =>
              obtain ⟨v', rfl, hv⟩ := k4
              subst hm
              exact key (.pan v') hv (by simp)
            | _ => exact k4.elim
        split at h
        · rename_i s hev; exact hfin _ s none hev rfl h
        · rename_i s hev; exact hfin _ s none hev rfl h
        · rename_i v s hev; exact hfin _ s (some v) hev rfl h
        · cases h
      · cases h
    · cases h
  · cases h

/-- Whole calls. -/
theorem evFn_sound (hf : Fit P ext) (K : Nat) (hd : ∀ call, CallOk P call → DrawOk P ext call) : ∀ d, CallOk P (evFn P ext K d) := by
  intro d
  induction d with
  | zero => intro f args H res H' h; cases h
  | succ d ih => exact evStep_sound hf K (hd _ ih) ih
end

end
end Go.Proofs.YtpmjpieiajdcgaaGreat
