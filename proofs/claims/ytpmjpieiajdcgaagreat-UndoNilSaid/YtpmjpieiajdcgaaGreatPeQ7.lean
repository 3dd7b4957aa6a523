/- PE, part 25: regions in whatever order, made ready, do what they do there. -/
import Derived.Test.YtpmjpieiajdcgaaGreatPeQ5
import Derived.Test.YtpmjpieiajdcgaaGreatPeDraw3
namespace Go.Proofs.YtpmjpieiajdcgaaGreat
open Go Go.RowKit
noncomputable section

section
variable {P : Program} {ext : FuncId → Option ExtK} {n : Nat} {ops : Array Oper} {t0 : Tr Value}

theorem wantD_x (od : Od E2) (o : Oper) (e : E2) : (wantD ops od o).x e = wantedA ops (od.rho e) o := by
  unfold wantD wantedA
  cases hg : o.guard with
  | none => rfl
  | some p =>
    obtain ⟨j, want⟩ := p
    simp only
    cases hd : (ops[j]?).bind (·.dst) with
    | none => rfl
    | some d =>
      simp only [Box.then_eq, Box.mk_x]
      show _ = (match (od (.tmp d)).x e with | some (.bool b) => some (b == want) | some _ => some false | none => none)
      cases (od (.tmp d)).x e with
      | none => rfl
      | some v => cases v <;> rfl

/-- What is known of an operation that the machine may not have done yet. -/
def LooseOk (P : Program) (ext : FuncId → Option ExtK) (ops : Array Oper) (t0 vals : Tr Value) (p : Nat × Nat) (o : Oper) : Prop :=
  ∃ v, vals.get p.1 = some v ∧
    (isNew o = true → wantedA ops (rhoD ops t0 vals p.1 (depMask o)) o = some true → ∃ r : NewRow, v = r.val (p.2 - 1) ∧ p.2 ≠ 0) ∧
    (isNew o = false → ∀ f, decOp P ext (odD ops p.1 (depMask o)) o = .pure f → veq 4 v v = true ∧
      ((wantedA ops (rhoD ops t0 vals p.1 (depMask o)) o = some true ∧ ∀ H, aop P ext (rhoD ops t0 vals p.1 (depMask o)) o H = some (.val v H)) ∨
       (wantedA ops (rhoD ops t0 vals p.1 (depMask o)) o = some false ∧ v = undef)))

structure RD (P : Program) (ext : FuncId → Option ExtK) (ops : Array Oper) (t0 : Tr Value) (e : E2) (s : DSt) : Prop where
  ini : EnvEq e.i t0
  cur : ∀ j o, ops[j]? = some o → s.D.testBit j = true → ∃ v, s.vals.get j = some v ∧ ∀ t, o.dst = some t → e.c.get t = some v
  old : ∀ t, t < 256 → (∀ j o, ops[j]? = some o → s.D.testBit j = true → o.dst ≠ some t) → e.c.get t = e.i.get t
  loose : ∀ p ∈ s.loose, s.D.testBit p.1 = true ∧ ∃ o, ops[p.1]? = some o ∧ subM (depMask o) s.D = true ∧ LooseOk P ext ops t0 s.vals p o

theorem rhoD_tmp (vals : Tr Value) (i dep t : Nat) : rhoD ops t0 vals i dep (.tmp t) = (match writer ops t with
    | none => t0.get t
    | some j => bif dep.testBit j then vals.get j else bif j == i || (match ops[j]? with | some oj => (depMask oj).testBit i | none => false) then t0.get t else none) := by
  rw [show rhoD ops t0 vals i dep (.tmp t) = (match writer ops t with
    | none => t0.get t
    | some j => if dep.testBit j then vals.get j else if j == i || (match ops[j]? with | some oj => (depMask oj).testBit i | none => false) then t0.get t else none) from rfl]
  cases writer ops t with
  | none => rfl
  | some j =>
    simp only
    cases dep.testBit j with
    | true => rfl
    | false =>
      simp only [Bool.false_eq_true, if_false, cond_false]
      cases (j == i || (match ops[j]? with | some oj => (depMask oj).testBit i | none => false)) <;> rfl
theorem odD_tmp (i dep t : Nat) : odD ops i dep (.tmp t) = (match writer ops t with
    | none => iniT t
    | some j => bif dep.testBit j then curT t else bif j == i || (match ops[j]? with | some oj => (depMask oj).testBit i | none => false) then iniT t else .mk fun _ => none) := rfl
theorem odD_rho (hn : n ≤ 256) (hu : uniqD n ops = true) {e : E2} {s : DSt} (h : RD P ext ops t0 e s) {i dep : Nat} (hd : subM dep s.D = true) :
    (odD ops i dep).rho e = rhoD ops t0 s.vals i dep := by
  funext x
  cases x with
  | tmp t =>
    show (odD ops i dep (.tmp t)).x e = _
    rw [odD_tmp, rhoD_tmp]
    cases hw : writer ops t with
    | none => simp only [iniT_x]; exact (h.ini t).symm
    | some j =>
      obtain ⟨o, ho, hdst⟩ := writer_some hw
      have htn := (uniq_writer hu ho hdst).1
      simp only
      cases hb : dep.testBit j with
      | true =>
        obtain ⟨v, h1, h2⟩ := h.cur j o ho (subM_bit hd hb)
        simp only [cond_true, h1]
        rw [curT_x, if_pos (Nat.lt_of_lt_of_le htn hn), h2 t hdst]
      | false =>
        simp only [cond_false]
        cases (j == i || (match ops[j]? with | some oj => (depMask oj).testBit i | none => false)) with
        | true => simp only [cond_true, iniT_x]; exact (h.ini t).symm
        | false => rfl
  | const v =>
    show (Bool.rec (motive := fun _ => Box (E2 → Option Value)) (.mk fun _ => none) (.mk fun _ => some v) (flatD 3 v)).x e = if flatD 3 v then some v else none
    cases flatD 3 v <;> rfl
  | func f => rfl
  | global _ => rfl

/-- What an operand is does not hang on later values. -/
theorem rhoD_set {vals : Tr Value} {D i k dep : Nat} {v : Value} (hd : subM dep D = true) (hk : D.testBit k = false) : rhoD ops t0 (vals.set k v) i dep = rhoD ops t0 vals i dep := by
  funext x
  cases x with
  | tmp t =>
    rw [rhoD_tmp, rhoD_tmp]
    cases writer ops t with
    | none => rfl
    | some j =>
      simp only
      cases hb : dep.testBit j with
      | true =>
        simp only [cond_true]
        rw [Tr.get_set_ne]
        intro e; subst e
        rw [subM_bit hd hb] at hk; cases hk
      | false => rfl
  | _ => rfl

theorem putQ_x {dst : Option Tmp} {st : Box (Env → Value → Env)} (h : putQ n dst = some st) (e : Env) (v : Value) : (dst = none ∧ st.x e v = e) ∨ ∃ d, dst = some d ∧ d < n ∧ st.x e v = e.set d v := by
  unfold putQ at h
  cases dst with
  | none => cases h; exact .inl ⟨rfl, rfl⟩
  | some d =>
    cases hb : Nat.blt d n with
    | false => simp only [hb] at h; cases h
    | true =>
      simp only [hb] at h
      cases h
      rw [nblt] at hb
      exact .inr ⟨d, rfl, by simpa using hb, setT_x d e v⟩

theorem or_bit {D i j : Nat} (h : (D ||| 2 ^ i).testBit j = true) : D.testBit j = true ∨ j = i := by
  rw [Nat.testBit_or, Nat.testBit_two_pow] at h
  simp only [Bool.or_eq_true, decide_eq_true_eq] at h
  rcases h with h | h
  · exact .inl h
  · exact .inr h.symm
theorem or_bit_of {D i j : Nat} (h : D.testBit j = true ∨ j = i) : (D ||| 2 ^ i).testBit j = true := by
  rw [Nat.testBit_or, Nat.testBit_two_pow]
  rcases h with h | h
  · simp [h]
  · simp [h]

/-- One more operation is done. -/
theorem RD.put (hn : n ≤ 256) (hu : uniqD n ops = true) {e : E2} {s : DSt} (h : RD P ext ops t0 e s) {i : Nat} {o : Oper} (ho : ops[i]? = some o) (hi : s.D.testBit i = false)
    {st : Box (Env → Value → Env)} (hst : putQ n o.dst = some st) (v : Value) {L : List (Nat × Nat)} {pe : List Nat} {H : Hp}
    (hL : ∀ p ∈ L, p ∈ s.loose ∨ (p.1 = i ∧ subM (depMask o) s.D = true ∧
      (isNew o = true → wantedA ops (rhoD ops t0 s.vals i (depMask o)) o = some true → ∃ r : NewRow, v = r.val (p.2 - 1) ∧ p.2 ≠ 0) ∧
      (isNew o = false → ∀ f, decOp P ext (odD ops i (depMask o)) o = .pure f → veq 4 v v = true ∧
        ((wantedA ops (rhoD ops t0 s.vals i (depMask o)) o = some true ∧ ∀ H, aop P ext (rhoD ops t0 s.vals i (depMask o)) o H = some (.val v H)) ∨
         (wantedA ops (rhoD ops t0 s.vals i (depMask o)) o = some false ∧ v = undef))))) :
    RD P ext ops t0 (putD st.x e v) ⟨s.D ||| 2 ^ i, s.vals.set i v, L, pe, H⟩ := by
  have hput := putQ_x hst e.c v
  refine ⟨h.ini, ?_, ?_, ?_⟩
  · intro j o' ho' hj
    rcases or_bit hj with hj1 | rfl
    · have hji : j ≠ i := by intro e; subst e; rw [hi] at hj1; cases hj1
      obtain ⟨u, h1, h2⟩ := h.cur j o' ho' hj1
      refine ⟨u, by rw [Tr.get_set_ne _ _ hji]; exact h1, fun t ht => ?_⟩
      show (st.x e.c v).get t = some u
      rcases hput with ⟨_, h3⟩ | ⟨d, h3, h4, h5⟩
      · rw [h3]; exact h2 t ht
      · have htd : t ≠ d := by
          intro e'
          subst e'
          have h6 := (uniq_writer hu ho' ht).2
          have h7 := (uniq_writer hu ho h3).2
          rw [h6] at h7; cases h7; exact hji rfl
        have htn := (uniq_writer hu ho' ht).1
        rw [h5, Env.get_set _ _ (Nat.lt_of_lt_of_le h4 hn) (Nat.lt_of_lt_of_le htn hn), if_neg htd]; exact h2 t ht
    · rw [ho] at ho'; cases ho'
      refine ⟨v, by rw [Tr.get_set_self], fun t ht => ?_⟩
      show (st.x e.c v).get t = some v
      rcases hput with ⟨h3, _⟩ | ⟨d, h3, h4, h5⟩
      · rw [h3] at ht; cases ht
      · rw [h3] at ht; cases ht
        rw [h5, Env.get_set _ _ (Nat.lt_of_lt_of_le h4 hn) (Nat.lt_of_lt_of_le h4 hn), if_pos rfl]
  · intro t ht hno
    show (st.x e.c v).get t = _
    have hold := h.old t ht fun j o' ho' hj => hno j o' ho' (or_bit_of (.inl hj))
    rcases hput with ⟨_, h3⟩ | ⟨d, h3, h4, h5⟩
    · rw [h3]; exact hold
    · have htd : t ≠ d := by intro e'; subst e'; exact hno i o ho (or_bit_of (.inr rfl)) h3
      rw [h5, Env.get_set _ _ (Nat.lt_of_lt_of_le h4 hn) ht, if_neg htd]; exact hold
  · intro p hp
    rcases hL p hp with hp | ⟨h1, h2, h3, h4⟩
    · obtain ⟨h1, o', ho', h2, u, h3, h4, h5⟩ := h.loose p hp
      have hpi : p.1 ≠ i := by intro e'; rw [e', hi] at h1; cases h1
      refine ⟨or_bit_of (.inl h1), o', ho', subM_of fun j hj => or_bit_of (.inl (subM_bit h2 hj)), u, ?_, ?_, ?_⟩
      · show (s.vals.set i v).get p.1 = some u
        rw [Tr.get_set_ne _ _ hpi]; exact h3
      · simp only [rhoD_set (ops := ops) (t0 := t0) (vals := s.vals) (i := p.1) (v := v) h2 hi]; exact h4
      · simp only [rhoD_set (ops := ops) (t0 := t0) (vals := s.vals) (i := p.1) (v := v) h2 hi]; exact h5
    · obtain ⟨p1, id⟩ := p
      simp only at h1
      subst h1
      refine ⟨or_bit_of (.inr rfl), o, ho, subM_of fun j hj => or_bit_of (.inl (subM_bit h2 hj)), v, Tr.get_set_self _ _ _, ?_, ?_⟩
      · simp only [rhoD_set (ops := ops) (t0 := t0) (vals := s.vals) (i := p1) (v := v) h2 hi]; exact h3
      · simp only [rhoD_set (ops := ops) (t0 := t0) (vals := s.vals) (i := p1) (v := v) h2 hi]; exact h4

theorem selfV_eq {v : Value} (h : selfV v = true) : veq 4 v v = true := by
  unfold selfV at h
  split at h <;> first | exact h | (simp [veq]; done)

theorem quietQ_ok (hn : n ≤ 256) (hu : uniqD n ops = true) {e : E2} {s : DSt} (h : RD P ext ops t0 e s) {i : Nat} {o : Oper} (ho : ops[i]? = some o) (hsub : subM (depMask o) s.D = true) (hi : s.D.testBit i = false)
    {rest : DRun} {call : CallFn} {ds : List Deferred} {x : Ex × QS} (hq : ((quietQ P ext n ops i o rest).x call e ds s.H).opt = some x) :
    ∃ v id H' e', quietD P ext ops t0 s i o = some (v, id, H') ∧ RD P ext ops t0 e' { s with D := s.D ||| 2 ^ i, vals := s.vals.set i v, loose := (i, id) :: s.loose, H := H' } ∧ (rest call e' ds H').opt = some x := by
  unfold quietQ at hq
  have hrho := odD_rho hn hu h (i := i) (dep := depMask o) hsub
  cases hst : putQ n o.dst with
  | none => rw [hst] at hq; cases hq
  | some st =>
    rw [hst] at hq
    simp only [Box.then_eq] at hq
    -- not wanted
    have hskip : wantedA ops (rhoD ops t0 s.vals i (depMask o)) o = some false → (rest call (putD st.x e undef) ds s.H).opt = some x → ∃ v id H' e', quietD P ext ops t0 s i o = some (v, id, H') ∧ RD P ext ops t0 e' { s with D := s.D ||| 2 ^ i, vals := s.vals.set i v, loose := (i, id) :: s.loose, H := H' } ∧ (rest call e' ds H').opt = some x := by
      intro hw hr
      refine ⟨undef, 0, s.H, putD st.x e undef, by unfold quietD; simp only [hw], h.put hn hu ho hi hst undef ?_, hr⟩
      intro p hp
      rcases List.mem_cons.1 hp with rfl | hp
      · exact .inr ⟨rfl, hsub, fun _ h1 => (by rw [hw] at h1; cases h1), fun _ f _ => ⟨rfl, .inr ⟨hw, rfl⟩⟩⟩
      · exact .inl hp
    cases hnew : isNew o with
    | true =>
      rw [hnew] at hq
      simp only [if_true, Box.mk_x, wantD_x, hrho] at hq
      split at hq
      · rename_i hw
        split at hq
        · rename_i r hr
          refine ⟨r.val s.H.n, s.H.n + 1, _, _, by unfold quietD; simp only [hw, hnew, if_true, hr], h.put hn hu ho hi hst _ ?_, hq⟩
          intro p hp
          rcases List.mem_cons.1 hp with rfl | hp
          · exact .inr ⟨rfl, hsub, fun _ _ => ⟨r, rfl, by simp⟩, fun h1 => (by rw [hnew] at h1; cases h1)⟩
          · exact .inl hp
        · cases hq
      · rename_i hw; exact hskip hw hq
      · cases hq
    | false =>
      rw [hnew] at hq
      simp only [Bool.false_eq_true, if_false] at hq
      have hok := decOp_ok (P := P) (ext := ext) (od := odD ops i (depMask o)) (fun _ _ => rfl) o
      have hval : ∀ v, wantedA ops (rhoD ops t0 s.vals i (depMask o)) o = some true → aop P ext (rhoD ops t0 s.vals i (depMask o)) o s.H = some (.val v s.H) →
          (∀ f, decOp P ext (odD ops i (depMask o)) o = .pure f → veq 4 v v = true ∧ ∀ H, aop P ext (rhoD ops t0 s.vals i (depMask o)) o H = some (.val v H)) → (rest call (putD st.x e v) ds s.H).opt = some x →
          ∃ v id H' e', quietD P ext ops t0 s i o = some (v, id, H') ∧ RD P ext ops t0 e' { s with D := s.D ||| 2 ^ i, vals := s.vals.set i v, loose := (i, id) :: s.loose, H := H' } ∧ (rest call e' ds H').opt = some x := by
        intro v hw ha hp hr
        refine ⟨v, 0, s.H, putD st.x e v, by unfold quietD; simp only [hw, hnew, ha]; simp, h.put hn hu ho hi hst v ?_, hr⟩
        intro p hp'
        rcases List.mem_cons.1 hp' with rfl | hp'
        · exact .inr ⟨rfl, hsub, fun h1 => (by rw [hnew] at h1; cases h1), fun _ f hf => ⟨(hp f hf).1, .inl ⟨hw, (hp f hf).2⟩⟩⟩
        · exact .inl hp'
      cases hd : decOp P ext (odD ops i (depMask o)) o with
      | pure f =>
        rw [hd] at hq hok
        simp only [Box.mk_x, wantD_x, hrho] at hq
        split at hq
        · rename_i hw
          split at hq
          · rename_i v hf
            cases hs : selfV v with
            | false => rw [hs] at hq; cases hq
            | true =>
              rw [hs] at hq
              have ha : ∀ H, aop P ext (rhoD ops t0 s.vals i (depMask o)) o H = some (.val v H) := fun H => hrho ▸ hok e v hf H
              exact hval v hw (ha _) (fun _ _ => ⟨selfV_eq hs, ha⟩) hq
          · cases hq
        · rename_i hw; exact hskip hw hq
        · cases hq
      | read f =>
        rw [hd] at hq hok
        simp only [Box.mk_x, wantD_x, hrho] at hq
        split at hq
        · rename_i hw
          split at hq
          · rename_i v hf
            exact hval v hw (hrho ▸ hok e s.H v hf) (fun f' hf' => (by rw [hd] at hf'; cases hf')) hq
          · cases hq
        · rename_i hw; exact hskip hw hq
        · cases hq
      | mem f =>
        rw [hd] at hq hok
        simp only [Box.mk_x, wantD_x, hrho] at hq
        split at hq
        · rename_i hw
          split at hq
          · rename_i v H' hf
            cases hs : (H'.n == s.H.n) with
            | false => rw [hs] at hq; cases hq
            | true =>
              rw [hs] at hq
              have ha := hrho ▸ hok e s.H _ hf
              refine ⟨v, 0, s.H, putD st.x e v, by unfold quietD; simp only [hw, hnew, ha, hs]; simp, h.put hn hu ho hi hst v ?_, hq⟩
              intro p hp'
              rcases List.mem_cons.1 hp' with rfl | hp'
              · exact .inr ⟨rfl, hsub, fun h1 => (by rw [hnew] at h1; cases h1), fun _ f' hf' => (by rw [hd] at hf'; cases hf')⟩
              · exact .inl hp'
          · cases hq
        · rename_i hw; exact hskip hw hq
        · cases hq

theorem RD.pend {e : E2} {s : DSt} (h : RD P ext ops t0 e s) (pe : List Nat) : RD P ext ops t0 e { s with pend := pe } := ⟨h.ini, h.cur, h.old, h.loose⟩

/-- What is still to do is not done; what is done or to do is all. -/
structure Todo (ops : Array Oper) (s : DSt) (l : List Nat) : Prop where
  fresh : ∀ i ∈ l, s.D.testBit i = false
  nodup : l.Nodup
  all : ∀ i, i < ops.size → s.D.testBit i = true ∨ i ∈ l

theorem sweepQ_ok (hn : n ≤ 256) (hu : uniqD n ops = true) {k : Nat → List Nat → List Nat → Box DRun} {call : CallFn} {ds : List Deferred} {x : Ex × QS} : ∀ (l : List Nat) (e : E2) (s : DSt), RD P ext ops t0 e s → Todo ops s (s.pend ++ l) →
    ((sweepQ P ext n ops l s.D (s.loose.map (·.1)) s.pend k).x call e ds s.H).opt = some x →
    ∃ s' e', sweep P ext ops t0 l s = some s' ∧ RD P ext ops t0 e' s' ∧ Todo ops s' s'.pend ∧ ((k s'.D (s'.loose.map (·.1)) s'.pend).x call e' ds s'.H).opt = some x := by
  intro l
  induction l with
  | nil => intro e s h ht hx; exact ⟨s, e, rfl, h, by simpa using ht, hx⟩
  | cons i l ih =>
    intro e s h ht hx
    simp only [sweepQ] at hx
    simp only [sweep]
    cases ho : ops[i]? with
    | none => rw [ho] at hx; cases hx
    | some o =>
      rw [ho] at hx
      simp only at hx ⊢
      cases hc : (!isE o && subM (depMask o) s.D) with
      | true =>
        rw [hc] at hx
        simp only [cond_true, Box.then_eq] at hx
        simp only [if_true]
        have hsub : subM (depMask o) s.D = true := by simp only [Bool.and_eq_true] at hc; exact hc.2
        have hi : s.D.testBit i = false := ht.fresh i (by simp)
        obtain ⟨v, id, H', e', h1, h2, h3⟩ := quietQ_ok hn hu h ho hsub hi hx
        rw [h1]
        refine ih e' _ h2 ⟨?_, ?_, ?_⟩ h3
        · intro j hj
          cases hb : (s.D ||| 2 ^ i).testBit j with
          | false => rfl
          | true =>
            rcases or_bit hb with h4 | h4
            · have h6 := ht.fresh j (by rcases List.mem_append.1 hj with h5 | h5 <;> simp [h5])
              rw [h4] at h6; cases h6
            · subst h4
              have h6 := ht.nodup
              rw [List.nodup_append] at h6
              rcases List.mem_append.1 hj with h5 | h5
              · exact absurd rfl (h6.2.2 j h5 j (by simp))
              · exact absurd h5 (List.nodup_cons.1 h6.2.1).1
        · exact ht.nodup.sublist (List.Sublist.append (List.Sublist.refl _) (List.sublist_cons_self i l))
        · intro j hj
          rcases ht.all j hj with h4 | h4
          · exact .inl (or_bit_of (.inl h4))
          · rcases List.mem_append.1 h4 with h5 | h5
            · exact .inr (List.mem_append.2 (.inl h5))
            · rcases List.mem_cons.1 h5 with rfl | h5
              · exact .inl (or_bit_of (.inr rfl))
              · exact .inr (List.mem_append.2 (.inr h5))
      | false =>
        rw [hc] at hx
        simp only [cond_false] at hx
        simp only [Bool.false_eq_true, if_false]
        refine ih e { s with pend := s.pend ++ [i] } (h.pend _) ?_ hx
        show Todo ops _ ((s.pend ++ [i]) ++ l)
        rw [List.append_assoc]
        exact ⟨ht.fresh, ht.nodup, ht.all⟩

theorem stillQ_ok (hn : n ≤ 256) (hu : uniqD n ops = true) {e : E2} {s : DSt} (h : RD P ext ops t0 e s) {p : Nat × Nat} (hp : p ∈ s.loose) {o : Oper} (ho : ops[p.1]? = some o)
    (hx : (stillQ P ext ops p.1 o).x e s.H = true) : stillD P ext ops t0 s p = true := by
  obtain ⟨hD, o', ho', hsub, v, hv, hnewok, hpure⟩ := h.loose p hp
  rw [ho] at ho'; cases ho'
  have hrho := odD_rho hn hu h (i := p.1) (dep := depMask o) hsub
  unfold stillQ at hx
  cases hd : o.dst with
  | none => rw [hd] at hx; cases hx
  | some d =>
    rw [hd] at hx
    simp only [Box.then_eq] at hx
    have hg : (curT d).x e = some v := by
      obtain ⟨u, h1, h2⟩ := h.cur p.1 o ho hD
      rw [hv] at h1; cases h1
      rw [curT_x, if_pos (Nat.lt_of_lt_of_le (uniq_writer hu ho hd).1 hn), h2 d hd]
    unfold stillD
    simp only [ho, hv]
    cases hnew : isNew o with
    | true =>
      rw [hnew] at hx
      simp only [if_true, Box.mk_x, wantD_x, hrho, hg] at hx
      simp only [if_true]
      split at hx
      · rename_i w v' hw hv'
        cases hv'
        obtain ⟨r0, hr0, hne⟩ := hnewok hnew hw
        have hid : idOf v = some (p.2 - 1) := by rw [hr0]; unfold NewRow.val; cases r0.sl <;> rfl
        rw [hid] at hx
        rw [hw]
        simp only
        split at hx
        · rename_i r id hr hid'
          cases hid'
          split at hx
          · rename_i q hq
            rw [hr, hq]
            simp only [Bool.and_eq_true] at hx ⊢
            exact ⟨⟨⟨⟨⟨by simpa using hne, hx.1.1.1.1⟩, hx.1.1.1.2⟩, hx.1.1.2⟩, hx.1.2⟩, hx.2⟩
          · cases hx
        · cases hx
      · rename_i w v' hw hv'
        cases hv'
        rw [hw]; exact hx
      · cases hx
    | false =>
      rw [hnew] at hx
      simp only [Bool.false_eq_true, if_false] at hx
      simp only [Bool.false_eq_true, if_false]
      have hok := decOp_ok (P := P) (ext := ext) (od := odD ops p.1 (depMask o)) (fun _ _ => rfl) o
      cases hdo : decOp P ext (odD ops p.1 (depMask o)) o with
      | pure f =>
        obtain ⟨h1, h2⟩ := hpure hnew f hdo
        rcases h2 with ⟨hw, ha⟩ | ⟨hw, rfl⟩
        · rw [hw]; simp only [ha, h1]; simp
        · rw [hw]; exact h1
      | read f =>
        rw [hdo] at hx hok
        simp only [Box.mk_x, wantD_x, hrho, hg] at hx
        split at hx
        · rename_i w v' hw hv'
          cases hv'
          split at hx
          · rename_i u hf
            rw [hw]
            simp only [hrho ▸ hok e s.H u hf, hx]; simp
          · cases hx
        · rename_i w v' hw hv'
          cases hv'
          rw [hw]; exact hx
        · cases hx
      | mem f =>
        rw [hdo] at hx hok
        simp only [Box.mk_x, wantD_x, hrho, hg] at hx
        split at hx
        · rename_i w v' hw hv'
          cases hv'
          split at hx
          · rename_i u H' hf
            rw [hw]
            simp only [hrho ▸ hok e s.H _ hf, hx]
          · cases hx
        · rename_i w v' hw hv'
          cases hv'
          rw [hw]; exact hx
        · cases hx

theorem checksQ_ok (hn : n ≤ 256) (hu : uniqD n ops = true) {e : E2} {s : DSt} (h : RD P ext ops t0 e s) : ∀ (l : List (Nat × Nat)), (∀ p ∈ l, p ∈ s.loose) → (checksQ P ext ops (l.map (·.1))).x e s.H = true → l.all (stillD P ext ops t0 s) = true := by
  intro l
  induction l with
  | nil => intro _ _; rfl
  | cons p l ih =>
    intro hl hx
    simp only [List.map_cons, checksQ] at hx
    obtain ⟨_, o, ho, _⟩ := h.loose p (hl p (by simp))
    simp only [ho, Box.then_eq, Box.mk_x] at hx
    cases hf : (stillQ P ext ops p.1 o).x e s.H with
    | false => rw [hf] at hx; cases hx
    | true =>
      rw [hf] at hx
      rw [List.all_cons, stillQ_ok hn hu h (hl p (by simp)) ho hf, ih (fun q hq => hl q (by simp [hq])) hx]
      rfl

theorem get_del' (t : Tr Value) : ∀ k j, (t.del k).get j = if j = k then none else t.get j := by
  induction t with
  | e => intro k j; simp [Tr.del]
  | n l v r ihl ihr =>
    intro k j
    simp only [Tr.del, beq_iff_eq]
    by_cases hk : k = 0
    · subst hk
      simp only [if_true, Tr.get_n, beq_iff_eq]
      by_cases hj : j = 0
      · subst hj; simp
      · rw [if_neg hj, if_neg hj, if_neg hj]
    · rw [if_neg hk]
      by_cases h1 : k % 2 = 1
      · rw [if_pos h1]
        simp only [Tr.get_n, beq_iff_eq, ihl]
        repeat' split
        all_goals first | rfl | omega
      · rw [if_neg h1]
        simp only [Tr.get_n, beq_iff_eq, ihr]
        repeat' split
        all_goals first | rfl | omega
theorem delsQ_eq (hn : n ≤ 256) : ∀ (l : List Oper) (e : Env) (t : Tr Value), (∀ o ∈ l, ∀ d, o.dst = some d → d < n) → EnvEq e t →
    EnvEq (l.foldl (fun e o => match o.dst with | some d => (R16.upd (d / 16)).x ((R16.upd (d % 16)).x fun _ => none) e | none => e) e) (l.foldl (fun t o => match o.dst with | some d => t.del d | none => t) t) := by
  intro l
  induction l with
  | nil => intro e t _ h; exact h
  | cons o l ih =>
    intro e t hl h
    rw [List.foldl_cons, List.foldl_cons]
    refine ih _ _ (fun o' ho' => hl o' (by simp [ho'])) ?_
    cases hd : o.dst with
    | none => exact h
    | some d =>
      have hdn : @LT.lt Nat _ d 256 := Nat.lt_of_lt_of_le (hl o (by simp) d hd) hn
      intro i
      simp only
      rw [get_del']
      by_cases hi : i < 256
      · rw [if_pos hi, h i, if_pos hi]
        unfold Env.get
        rw [R16.sel_upd _ _ (by omega) (by omega)]
        by_cases h2 : i / 16 = d / 16
        · rw [if_pos h2, R16.sel_upd _ _ (by omega) (by omega)]
          by_cases h3 : i % 16 = d % 16
          · rw [if_pos h3, if_pos (show i = d by omega)]
          · rw [if_neg h3, if_neg (show i ≠ d by omega), h2]
        · rw [if_neg h2, if_neg (show i ≠ d by omega)]
      · rw [if_neg hi, h i, if_neg hi]; simp

theorem loudQ_ok (hn : n ≤ 256) (hu : uniqD n ops = true) {e : E2} {s : DSt} (h : RD P ext ops t0 e s) {i : Nat} {o : Oper} (ho : ops[i]? = some o) (hsub : subM (depMask o) s.D = true) (hi : s.D.testBit i = false)
    {deps : List Nat} {rest : DRun} {call : CallFn} {ds : List Deferred} {x : Ex × QS} (hq : ((loudQ P ext n ops i o rest).x call e ds s.H).opt = some x) :
    (∃ v H' e', loudD P ext call ops t0 s i o = some (.ret v, H') ∧ RD P ext ops t0 e' (nextD ops deps s i o v H') ∧ (rest call e' ds H').opt = some x) ∨
    (∃ v H', loudD P ext call ops t0 s i o = some (.pan v, H') ∧ x = (.panic v, ⟨delsQ ops e.i, ds, H'⟩)) := by
  unfold loudQ at hq
  have hrho := odD_rho hn hu h (i := i) (dep := depMask o) hsub
  cases hst : putQ n o.dst with
  | none => rw [hst] at hq; cases hq
  | some st =>
    rw [hst] at hq
    simp only [Box.then_eq, Box.mk_x, wantD_x, hrho] at hq
    have hrd : ∀ v H', RD P ext ops t0 (putD st.x e v) (nextD ops deps s i o v H') := fun v H' =>
      h.put hn hu ho hi hst v fun p hp => .inl (List.mem_filter.1 hp).1
    have hok := decOp_ok (P := P) (ext := ext) (od := odD ops i (depMask o)) (fun _ _ => rfl) o
    have hf : ∀ r, (match decOp P ext (odD ops i (depMask o)) o with
      | .pure f => .mk fun e H => match f e with | some v => some (.val v H) | none => none
      | .read f => .mk fun e H => match f e H with | some v => some (.val v H) | none => none
      | .mem f => .mk f : Box (E2 → Hp → Option AR)).x e s.H = some r → aop P ext (rhoD ops t0 s.vals i (depMask o)) o s.H = some r := by
      intro r hr
      cases hd : decOp P ext (odD ops i (depMask o)) o with
      | pure f =>
        rw [hd] at hr hok
        simp only [Box.mk_x] at hr
        split at hr
        · rename_i v hv; cases hr; exact hrho ▸ hok e v hv s.H
        · cases hr
      | read f =>
        rw [hd] at hr hok
        simp only [Box.mk_x] at hr
        split at hr
        · rename_i v hv; cases hr; exact hrho ▸ hok e s.H v hv
        · cases hr
      | mem f =>
        rw [hd] at hr hok
        exact hrho ▸ hok e s.H r hr
    split at hq
    · cases hq
    · rename_i hw
      exact .inl ⟨undef, s.H, _, by unfold loudD; simp only [hw], hrd _ _, hq⟩
    · rename_i hw
      split at hq
      · rename_i v H' hr
        exact .inl ⟨v, H', _, by unfold loudD; simp only [hw, hf _ hr], hrd _ _, hq⟩
      · rename_i H' hr
        exact .inl ⟨undef, H', _, by unfold loudD; simp only [hw, hf _ hr], hrd _ _, hq⟩
      · rename_i k args H1 hr
        split at hq
        · rename_i v H' hc
          exact .inl ⟨v, H', _, by unfold loudD; simp only [hw, hf _ hr, hc], hrd _ _, hq⟩
        · rename_i v H' hc
          cases hq
          exact .inr ⟨v, H', by unfold loudD; simp only [hw, hf _ hr, hc], rfl⟩
        · cases hq
      · rename_i v H' hr
        cases hq
        exact .inr ⟨v, H', by unfold loudD; simp only [hw, hf _ hr], rfl⟩
      · cases hq

theorem outEnv_all (hu : uniqD n ops = true) {c : Env} {vals : Tr Value} : ∀ (l : List Nat) (env : Tr Value),
    (∀ i ∈ l, ∃ o, ops[i]? = some o ∧ ∃ v, vals.get i = some v ∧ ∀ t, o.dst = some t → c.get t = some v) →
    ∃ env', outEnv n ops vals l env = some env' ∧ ∀ t, (t < n ∧ env'.get t = c.get t) ∨ (env'.get t = env.get t ∧ ∀ i ∈ l, ∀ o, ops[i]? = some o → o.dst ≠ some t) := by
  intro l
  induction l with
  | nil => intro env _; exact ⟨env, rfl, fun t => .inr ⟨rfl, fun i hi => (by cases hi)⟩⟩
  | cons i l ih =>
    intro env h
    obtain ⟨o, ho, v, hv, hc⟩ := h i (by simp)
    have hput : ∃ env1, putE n env o.dst v = some env1 ∧ ∀ t, (o.dst = some t ∧ t < n ∧ env1.get t = c.get t) ∨ (o.dst ≠ some t ∧ env1.get t = env.get t) := by
      cases hd : o.dst with
      | none => exact ⟨env, rfl, fun t => .inr ⟨by simp, rfl⟩⟩
      | some d =>
        have hdn := (uniq_writer hu ho hd).1
        refine ⟨env.set d v, by simp only [putE, if_pos hdn], fun t => ?_⟩
        by_cases ht : t = d
        · subst ht; exact .inl ⟨rfl, hdn, by rw [Tr.get_set_self, hc t hd]⟩
        · exact .inr ⟨fun e => ht (Option.some.inj e).symm, Tr.get_set_ne _ _ ht⟩
    obtain ⟨env1, h1, h2⟩ := hput
    obtain ⟨env', h3, h4⟩ := ih env1 fun j hj => h j (by simp [hj])
    refine ⟨env', by simp only [outEnv, ho, hv, h1, h3], fun t => ?_⟩
    rcases h4 t with h5 | ⟨h5, h6⟩
    · exact .inl h5
    · rcases h2 t with ⟨_, h8, h9⟩ | ⟨h8, h9⟩
      · exact .inl ⟨h8, h5.trans h9⟩
      · refine .inr ⟨h5.trans h9, fun j hj o' ho' => ?_⟩
        rcases List.mem_cons.1 hj with rfl | hj
        · rw [ho] at ho'; cases ho'; exact h8
        · exact h6 j hj o' ho'

theorem outsQ_ok {a b : Env} {ta tb : Tr Value} (ha : EnvEq a ta) (hb : EnvEq b tb) : ∀ l, (outsQ l).x a b = true → (l.all fun o => match o.dst with
  | some d => match ta.get d, tb.get d with
    | some u, some v => veq 4 u v
    | _, _ => false
  | none => true) = true := by
  intro l
  induction l with
  | nil => intro _; rfl
  | cons o l ih =>
    intro h
    rw [List.all_cons]
    cases hd : o.dst with
    | none => simp only [outsQ, hd] at h; simp only [ih h, Bool.and_self]
    | some d =>
      simp only [outsQ, hd, Box.then_eq, Box.mk_x] at h
      have h1 : (odE (.tmp d)).x a = ta.get d := congrFun (odE_rho ha) (.tmp d)
      have h2 : (odE (.tmp d)).x b = tb.get d := congrFun (odE_rho hb) (.tmp d)
      rw [h1, h2] at h
      simp only [Bool.and_eq_true] at h ⊢
      exact ⟨h.1, ih h.2⟩

theorem drawD_ok (hn : n ≤ 256) (hu : uniqD n ops = true) {call : CallFn} {ds : List Deferred} : ∀ (f : Nat) (e : E2) (s : DSt), RD P ext ops t0 e s → Todo ops s s.pend →
    QOk ((drawD P ext n ops (ops.toList.map depMask) f s.D (s.loose.map (·.1)) s.pend).x call e ds s.H) (evDraw P ext call n ops (ops.toList.map depMask) t0 ds f s) := by
  intro f
  induction f with
  | zero => intro e s _ _ x S h; cases h
  | succ f ih =>
    intro e s0 h0 ht0 x S hx
    simp only [drawD] at hx
    obtain ⟨s, e, h1, h, ht, hx⟩ := sweepQ_ok hn hu s0.pend e { s0 with pend := [] } (h0.pend []) ⟨ht0.fresh, ht0.nodup, ht0.all⟩ hx
    simp only [evDraw, h1]
    simp only [Box.then_eq, Box.mk_x] at hx
    cases hc : (checksQ P ext ops (s.loose.map (·.1))).x e s.H with
    | false => rw [hc] at hx; cases hx
    | true =>
      rw [hc] at hx
      simp only at hx
      rw [checksQ_ok hn hu h s.loose (fun _ hp => hp) hc]
      simp only [if_true]
      have hnx : nextsD ops s = nextsQ ops s.D s.pend := rfl
      have hmem : ∀ i, i ∈ nextsQ ops s.D s.pend → i ∈ s.pend ∧ ∀ o, ops[i]? = some o → subM (depMask o) s.D = true := by
        intro i hi
        obtain ⟨h3, h4⟩ := List.mem_filter.1 hi
        refine ⟨h3, fun o ho => ?_⟩
        rw [ho] at h4; exact h4
      have hnext : ∀ i o v H', ops[i]? = some o → i ∈ s.pend → Todo ops (nextD ops (ops.toList.map depMask) s i o v H') (nextD ops (ops.toList.map depMask) s i o v H').pend := by
        intro i o v H' ho hip
        refine ⟨?_, ht.nodup.sublist List.filter_sublist, ?_⟩
        · intro j hj
          obtain ⟨hj1, hj2⟩ := List.mem_filter.1 hj
          cases hb : (s.D ||| 2 ^ i).testBit j with
          | false => exact hb
          | true =>
            rcases or_bit hb with h4 | h4
            · rw [ht.fresh j hj1] at h4; cases h4
            · subst h4; simp at hj2
        · intro j hj
          rcases ht.all j hj with h4 | h4
          · exact .inl (or_bit_of (.inl h4))
          · by_cases hji : j = i
            · exact .inl (or_bit_of (.inr hji))
            · exact .inr (List.mem_filter.2 ⟨h4, by simpa using hji⟩)
      have hloose : ∀ (o : Oper), (s.loose.map (·.1)).filter (fun p => !(closeM (ops.toList.map depMask) (depMask o) 2).testBit p) = (s.loose.filter fun p => !(closeM (ops.toList.map depMask) (depMask o) 2).testBit p.1).map (·.1) := by
        intro o
        rw [List.filter_map]; rfl
      have hgo : ∀ i o v H' e' x, ops[i]? = some o → i ∈ s.pend → RD P ext ops t0 e' (nextD ops (ops.toList.map depMask) s i o v H') →
          ((drawD P ext n ops (ops.toList.map depMask) f (s.D ||| 2 ^ i) ((s.loose.map (·.1)).filter fun p => !(closeM (ops.toList.map depMask) (depMask o) 2).testBit p) (s.pend.filter (· != i))).x call e' ds H').opt = some x →
          ∃ t', evDraw P ext call n ops (ops.toList.map depMask) t0 ds f (nextD ops (ops.toList.map depMask) s i o v H') = some (x.1, ⟨t', x.2.ds, x.2.H⟩) ∧ EnvEq x.2.env t' := by
        intro i o v H' e' x ho hip hrd hx
        rw [hloose o] at hx
        exact ih e' (nextD ops (ops.toList.map depMask) s i o v H') hrd (hnext i o v H' ho hip) x.1 x.2 hx
      have hpanic : EnvEq (delsQ ops e.i) (ops.toList.foldl (fun t o => match o.dst with | some d => t.del d | none => t) t0) := by
        refine delsQ_eq hn ops.toList _ _ (fun o ho d hd => ?_) h.ini
        obtain ⟨j, hj⟩ := List.getElem?_of_mem ho
        rw [Array.getElem?_toList] at hj
        exact (uniq_writer hu hj hd).1
      unfold tailD
      rw [hnx]
      split at hx
      · rename_i hnil
        rw [hnil]
        simp only
        cases hp : s.pend.isEmpty with
        | false => rw [hp] at hx; cases hx
        | true =>
          rw [hp] at hx
          cases hx
          have hpe : s.pend = [] := by simpa using hp
          simp only [if_true]
          have hall : ∀ i, i < ops.size → s.D.testBit i = true := by
            intro i hi
            rcases ht.all i hi with h4 | h4
            · exact h4
            · rw [hpe] at h4; cases h4
          obtain ⟨env', h5, h6⟩ := outEnv_all (c := e.c) (vals := s.vals) hu (List.range ops.size) t0 (fun i hi => by
            have hlt := List.mem_range.1 hi
            have ho := Array.getElem?_eq_getElem hlt
            exact ⟨_, ho, h.cur i _ ho (hall i hlt)⟩)
          rw [h5]
          refine ⟨env', rfl, fun t => ?_⟩
          rcases h6 t with ⟨h7, h8⟩ | ⟨h7, h8⟩
          · rw [if_pos (Nat.lt_of_lt_of_le h7 hn)]; exact h8
          · rw [h7, h.ini t]
            by_cases ht256 : t < 256
            · rw [if_pos ht256, if_pos ht256]
              refine (h.old t ht256 fun j o ho _ => ?_).symm
              exact h8 j (List.mem_range.2 (Array.getElem?_eq_some_iff.1 ho).1) o ho
            · rw [if_neg ht256, if_neg ht256]
      · rename_i i hone
        rw [hone]
        simp only
        obtain ⟨hip, hsub⟩ := hmem i (by rw [hone]; simp)
        cases ho : ops[i]? with
        | none => rw [ho] at hx; cases hx
        | some o =>
          rw [ho] at hx
          simp only [Box.then_eq] at hx ⊢
          rcases loudQ_ok (deps := ops.toList.map depMask) hn hu h ho (hsub o ho) (ht.fresh i hip) hx with ⟨v, H', e', h3, h4, h5⟩ | ⟨v, H', h3, h4⟩
          · rw [h3]
            exact hgo i o v H' e' (x, S) ho hip h4 h5
          · rw [h3]
            cases h4
            exact ⟨_, rfl, hpanic⟩
      · rename_i i j htwo
        rw [htwo]
        simp only
        obtain ⟨hip, hsubi⟩ := hmem i (by rw [htwo]; simp)
        obtain ⟨hjp, hsubj⟩ := hmem j (by rw [htwo]; simp)
        split at hx
        · rename_i oi oj hoi hoj
          rw [hoi, hoj]
          simp only [Box.then_eq, Box.mk_x] at hx ⊢
          unfold bothQ at hx
          split at hx
          · rename_i ea dsa Ha eb dsb Hb hqa hqb
            cases heq : ((outsQ ops.toList).x ea eb && beqH Ha Hb) with
            | false => rw [heq] at hx; cases hx
            | true =>
              rw [heq] at hx
              cases hx
              rcases loudQ_ok (deps := ops.toList.map depMask) (x := (.normal, ⟨ea, dsa, Ha⟩)) hn hu h hoi (hsubi oi hoi) (ht.fresh i hip) (by rw [hqa]; rfl) with ⟨vi, Hi', ei', h3, h4, h5⟩ | ⟨_, _, _, h4⟩
              · rcases loudQ_ok (deps := ops.toList.map depMask) (x := (.normal, ⟨eb, dsb, Hb⟩)) hn hu h hoj (hsubj oj hoj) (ht.fresh j hjp) (by rw [hqb]; rfl) with ⟨vj, Hj', ej', h6, h7, h8⟩ | ⟨_, _, _, h7⟩
                · obtain ⟨ta, h9, h10⟩ := hgo i oi vi Hi' ei' _ hoi hip h4 h5
                  obtain ⟨tb, h11, h12⟩ := hgo j oj vj Hj' ej' _ hoj hjp h7 h8
                  rw [h3, h6]
                  simp only [h9, h11]
                  simp only [Bool.and_eq_true] at heq
                  have : outsEq ops ta tb = true := outsQ_ok h10 h12 _ heq.1
                  rw [this, heq.2]
                  have hdsa : dsa = ds := evDraw_ds _ _ _ h9
                  subst hdsa
                  exact ⟨ta, rfl, h10⟩
                · cases h7
              · cases h4
          · cases hx
        · cases hx
      · cases hx

/-- Regions in whatever order, made ready. -/
theorem drawQ_ok (hn : n ≤ 256) (call : CallFn) : DrawQ P ext n (drawQ P ext n) call := by
  intro ops e t ds H he x s h
  unfold drawQ at h
  cases hu : uniqD n ops with
  | false => rw [hu] at h; cases h
  | true =>
    rw [hu] at h
    simp only [cond_true, Box.then_eq, Box.mk_x] at h
    simp only [if_true]
    refine drawD_ok (t0 := t) hn hu (ops.size + 1) ⟨e, e⟩ ⟨0, .e, [], List.range ops.size, H⟩ ⟨he, ?_, fun _ _ _ => rfl, fun p hp => (by cases hp)⟩ ⟨fun i _ => by simp, List.nodup_range, fun i hi => .inr (List.mem_range.2 hi)⟩ x s h
    intro j o _ hj
    simp at hj
end
end
end Go.Proofs.YtpmjpieiajdcgaaGreat
