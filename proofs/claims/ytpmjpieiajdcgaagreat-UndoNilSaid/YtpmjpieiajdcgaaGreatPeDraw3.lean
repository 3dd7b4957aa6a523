/- PE, part 18: a region in whatever order: the steps. -/
import Derived.Test.YtpmjpieiajdcgaaGreatPeDraw2
namespace Go.Proofs.YtpmjpieiajdcgaaGreat
open Go Go.RowKit
noncomputable section

section
variable {P : Program} {ext : FuncId → Option ExtK} {call : CallFn} {B n : Nat} {w0 w : World} {μ ν : Mu}
  {n0 : Nat} {μ0 : Mu} {ops : Array Oper} {env0 : Tr Value} {ds : List Deferred} {s : DSt} {todo : List Nat} {listed : Array Bool} {a : Act}

theorem env_after (hu : uniqD n ops = true) (hi : Inv0 B w0 n n0 μ0 ops env0 ds s todo listed μ a w) {i : Nat} {o : Oper} (ho : ops[i]? = some o) (hle : μ.Le ν) {vals : Tr Value} {v v' : Value}
    (hvals : ∀ j, j ≠ i → vals.get j = s.vals.get j) (hv : vals.get i = some v) (hrel : VRel ν v v') :
    (a.put o.dst v').tmps.size = n ∧ ∀ t u, slotD ops env0 vals (listed.setIfInBounds i true) t = some u → t < n ∧ VRel ν u ((a.put o.dst v').tmps.getD t undef) := by
  have hilt : i < listed.size := by have := (Array.getElem?_eq_some_iff.1 ho).1; have := hi.sz; omega
  have hput : ∀ t, o.dst ≠ some t → (a.put o.dst v').tmps.getD t undef = a.tmps.getD t undef := by
    intro t ht
    cases hd : o.dst with
    | none => rfl
    | some d =>
      have hdt : d ≠ t := fun e => ht (by rw [hd, e])
      simp only [Act.put]
      rw [Array.getD_eq_getD_getElem?, Array.getElem?_setIfInBounds, if_neg hdt, ← Array.getD_eq_getD_getElem?]
  refine ⟨by cases hd : o.dst <;> simp [Act.put, hi.tsz], fun t u hslot => ?_⟩
  unfold slotD at hslot
  cases hw : writer ops t with
  | none =>
    rw [hw] at hslot
    have hne : o.dst ≠ some t := fun e => by have := (uniq_writer hu ho e).2; rw [hw] at this; cases this
    rw [hput t hne]
    have := hi.env t u (by unfold slotD; rw [hw]; exact hslot)
    exact ⟨this.1, this.2.mono hle⟩
  | some j =>
    rw [hw] at hslot
    dsimp only at hslot
    by_cases hj : j = i
    · subst hj
      obtain ⟨o', ho', hd⟩ := writer_some hw
      rw [ho] at ho'; cases ho'
      have hbd := (uniq_writer hu ho hd).1
      have hd1 : (listed.setIfInBounds j true).getD j false = true := (did_set hilt).2 (.inl rfl)
      rw [if_pos hd1] at hslot
      rw [hv] at hslot
      cases hslot
      refine ⟨hbd, ?_⟩
      rw [hd]
      simp only [Act.put]
      rw [Array.getD_eq_getD_getElem?, Array.getElem?_setIfInBounds, if_pos rfl, if_pos (by rw [hi.tsz]; exact hbd)]
      exact hrel
    · have hne : o.dst ≠ some t := fun e => by have := (uniq_writer hu ho e).2; rw [hw] at this; exact hj (Option.some.inj this)
      rw [hput t hne]
      have hdid : (listed.setIfInBounds i true).getD j false = listed.getD j false := getD_set_ne false (fun e => hj e.symm)
      rw [hdid, hvals j hj] at hslot
      have := hi.env t u (by unfold slotD; rw [hw]; exact hslot)
      exact ⟨this.1, this.2.mono hle⟩

theorem pair_ids : ∀ {l : List (Nat × Nat)} {p q : Nat × Nat}, (l.Pairwise fun p q => p.1 ≠ q.1 ∧ (p.2 ≠ 0 → q.2 ≠ 0 → p.2 ≠ q.2) ∧ ∀ o, ops[q.1]? = some o → (depMask o).testBit p.1 = false) →
    p ∈ l → q ∈ l → p.1 ≠ q.1 → p.2 ≠ 0 → q.2 ≠ 0 → p.2 ≠ q.2 := by
  intro l
  induction l with
  | nil => intro p q _ hp; cases hp
  | cons x l ih =>
    intro p q h hp hq hne h1 h2
    obtain ⟨hx, hl⟩ := List.pairwise_cons.1 h
    rcases List.mem_cons.1 hp with rfl | hp'
    · rcases List.mem_cons.1 hq with rfl | hq'
      · exact absurd rfl hne
      · exact (hx q hq').2.1 h1 h2
    · rcases List.mem_cons.1 hq with rfl | hq'
      · exact fun e => (hx p hp').2.1 h2 h1 e.symm
      · exact ih hl hp' hq' hne h1 h2

/-- An operation that turns nothing, at its turn. -/
theorem quiet_step (hf : Fit P ext) (hu : uniqD n ops = true) (hi : Inv0 B w0 n n0 μ0 ops env0 ds s [] listed μ a w) (hstill : ∀ p ∈ s.loose, stillD P ext ops env0 s p = true) {i : Nat} {o : Oper} (ho : ops[i]? = some o)
    (hnd : ¬ Did listed i) (hdep : ∀ j, (depMask o).testBit j = true → Did listed j) (hD : s.D.testBit i = true) {Q : Exit → Act → World → Prop} {K : Act → World → Prop}
    (hK : ∀ ν a' w', Inv0 B w0 n n0 μ0 ops env0 ds s [] (listed.setIfInBounds i true) ν a' w' → K a' w') : wpOp P ops Q i K a w := by
  have hilt : i < ops.size := (Array.getElem?_eq_some_iff.1 ho).1
  have hilt' : i < listed.size := by rw [hi.sz]; exact hilt
  obtain ⟨id, hp⟩ := (hi.rest i hD).resolve_left hnd
  obtain ⟨_, _, hidle, hid0, o', ho', hE, _, _⟩ := hi.lt _ hp
  rw [ho] at ho'; cases ho'
  obtain ⟨hρ, hbd⟩ := hi.rho ho hnd hdep
  have hst := hstill _ hp
  unfold stillD at hst
  simp only [ho] at hst
  -- the invariant behind it
  have hnext : ∀ (ν : Mu) (v v' : Value) (w' : World), s.vals.get i = some v → μ.Le ν → VRel ν v v' → Sim B w0 ν s.H w' → Mu.Ext n0 μ0 ν → (∀ p ∈ s.loose, p.1 ≠ i → ¬ Did listed p.1 → p.2 ≠ 0 → ν (p.2 - 1) = none) →
      Inv0 B w0 n n0 μ0 ops env0 ds s [] (listed.setIfInBounds i true) ν (a.put o.dst v') w' := by
    intro ν v v' w' hv hle hrel hsim hext hgh
    obtain ⟨e1, e2⟩ := env_after hu hi ho hle (fun j _ => rfl) hv hrel
    refine { sz := by rw [Array.size_setIfInBounds]; exact hi.sz, sub := ?_, rest := ?_, down := ?_, tsz := e1, env := e2, ds := by rw [Act.put_defers_eq]; exact hi.ds.mono hle, sim := hsim, ext := hext, num := hi.num, lt := hi.lt, ghost := ?_, pair := hi.pair, pend := hi.pend, fresh := hi.fresh, nodup := hi.nodup }
    · intro j hj
      rcases (did_set hilt').1 hj with rfl | hj
      · exact hD
      · exact hi.sub j hj
    · intro j hj
      rcases hi.rest j hj with h1 | h1
      · exact .inl ((did_set hilt').2 (.inr h1))
      · exact .inr h1
    · intro j oj hoj hj k hk
      rcases (did_set hilt').1 hj with rfl | hj
      · rw [ho] at hoj; cases hoj
        exact (did_set hilt').2 (.inr (hdep k hk))
      · exact (did_set hilt').2 (.inr (hi.down j oj hoj hj k hk))
    · intro p hp' hnp h0
      have hne : p.1 ≠ i := fun e => hnp ((did_set hilt').2 (.inl e))
      exact hgh p hp' hne (fun hd => hnp ((did_set hilt').2 (.inr hd))) h0
  have hgh0 : ∀ p ∈ s.loose, p.1 ≠ i → ¬ Did listed p.1 → p.2 ≠ 0 → μ (p.2 - 1) = none := fun p hp' _ hnp h0 => hi.ghost p hp' hnp h0
  unfold wpOp
  rw [ho]
  simp only
  cases hvi : s.vals.get i with
  | none => simp [hvi] at hst
  | some v =>
    rw [hvi] at hst
    dsimp only at hst
    have hw : ∀ b, wantedA ops (rhoD ops env0 s.vals i (depMask o)) o = some b → Region.wanted o (yielded ops a.tmps) = b := fun b h =>
      wanted_sound hρ h fun _ _ d _ _ ⟨u, hu⟩ => by rw [hi.tsz]; exact hbd d u hu
    split at hst
    · cases hst
    · rename_i hwant
      rw [hw _ hwant]
      simp only [Bool.false_eq_true, if_false]
      have := veq_eq 4 _ _ hst
      subst this
      exact hK μ _ w (hnext μ _ _ w hvi (.refl μ) (.ofUndef μ) hi.sim hi.ext hgh0)
    · rename_i hwant
      rw [hw _ hwant]
      simp only [if_true]
      left
      unfold Oper.wp
      split at hst
      · rename_i hnew
        split at hst
        · rename_i r q hr hq
          simp only [Bool.and_eq_true, bne_iff_ne, ne_eq, beq_iff_eq] at hst
          obtain ⟨⟨⟨⟨⟨hid, hval⟩, hc⟩, hel⟩, hz⟩, hcnt⟩ := hst
          have hval := veq_eq 4 _ _ hval
          have hc := lveq_eq hc
          obtain ⟨c', v', hrun, hrel, hvrel⟩ := newRowA_sound (P := P) (w := w) hρ hr
          have hno := hi.ghost _ hp hnd hid
          have hbind := hi.sim.bind hno hq hcnt (c' := c') (by rw [hc, hrel.1, List.take_length]; exact hrel) (by rw [hc]; have := hrel.1; simp at this; omega) (0, 0) (.inl rfl)
          rw [hrun, Oper.upon_value]
          have hle := μ.le_put ⟨w.heap.size, 0, c'.size, q.z⟩ hno
          refine hK _ _ _ (hnext _ v v' _ hvi hle ?_ ?_ ?_ ?_)
          · rw [← hval]
            exact hvrel _ _ (by rw [← hz]; exact Mu.put_self _ _ _)
          · rw [hel] at hbind; exact hbind
          · intro j hj
            rw [Mu.put_ne _ _ (by have := hid0 hid; omega)]
            exact hi.ext j hj
          · intro p hp' hne hnp h0
            have h1 := pair_ids hi.pair hp' hp hne h0 hid
            rw [Mu.put_ne _ _ (by simp only at h1 hid; omega)]
            exact hi.ghost p hp' hnp h0
        · cases hst
      · rename_i hnew
        split at hst
        · rename_i u H' hop
          simp only [Bool.and_eq_true, beq_iff_eq] at hst
          have hH := aop_quiet hE (by simpa using hnew) hop hst.1
          subst hH
          have hval := veq_eq 4 _ _ hst.2
          subst hval
          obtain ⟨ν, hν, v', w', hrun, hv, hsim⟩ := aop_sound hf hi.sim hρ hop
          have hνμ := hi.sim.same_mu hsim hν rfl
          subst hνμ
          rw [hrun, Oper.upon_value]
          exact hK _ _ _ (hnext _ u v' w' hvi (.refl _) hv hsim hi.ext hgh0)
        · cases hst

/-- An operation that turns memory, at its turn. -/
theorem loud_step (hf : Fit P ext) (hcall : CallOk P call) (hu : uniqD n ops = true) (hi : Inv0 B w0 n n0 μ0 ops env0 ds s [] listed μ a w) {i : Nat} {o : Oper} (ho : ops[i]? = some o)
    (hnd : ¬ Did listed i) (hdep : ∀ j, (depMask o).testBit j = true → Did listed j) (hpend : i ∈ s.pend) {res : CR} {H : Hp} (hl : loudD P ext call ops env0 s i o = some (res, H)) {Q : Exit → Act → World → Prop} {K : Act → World → Prop}
    (hK : ∀ v, res = .ret v → ∀ ν a' w', Inv0 B w0 n n0 μ0 ops env0 ds { nextD ops (ops.toList.map depMask) s i o v H with pend := [] } (nextD ops (ops.toList.map depMask) s i o v H).pend (listed.setIfInBounds i true) ν a' w' → K a' w')
    (hQ : ∀ v, res = .pan v → ∀ ν v' w', μ.Le ν → Mu.Ext n0 μ0 ν → n0 ≤ H.n → Sim B w0 ν H w' → VRel ν v v' → Q (.panic [{ v := v', recovered := false }]) a w') : wpOp P ops Q i K a w := by
  have hilt : i < ops.size := (Array.getElem?_eq_some_iff.1 ho).1
  have hilt' : i < listed.size := by rw [hi.sz]; exact hilt
  obtain ⟨hρ, hbd⟩ := hi.rho ho hnd hdep
  obtain ⟨_, hDi⟩ := hi.fresh i (.inl hpend)
  have hnext : ∀ (v v' : Value) (ν : Mu) (w' : World), Mu.Ext s.H.n μ ν → s.H.n ≤ H.n → Sim B w0 ν H w' → VRel ν v v' →
      Inv0 B w0 n n0 μ0 ops env0 ds { nextD ops (ops.toList.map depMask) s i o v H with pend := [] } (nextD ops (ops.toList.map depMask) s i o v H).pend (listed.setIfInBounds i true) ν (a.put o.dst v') w' := by
    intro v v' ν w' hν hmono hsim hrel
    have hle := hν.le hi.sim
    obtain ⟨e1, e2⟩ := env_after hu hi ho hle (vals := s.vals.set i v) (fun j hj => Tr.get_set_ne _ _ hj) (Tr.get_set_self _ _ _) hrel
    have hbits : ∀ j, (s.D ||| 2 ^ i).testBit j = true ↔ s.D.testBit j = true ∨ j = i := fun j => orBit s.D i j
    have hclose := closeM_did (ops := ops) hi.down 2 (depMask o) hdep
    have hmem : ∀ p, p ∈ (s.loose.filter fun p => !(closeM (ops.toList.map depMask) (depMask o) 2).testBit p.1) ↔ p ∈ s.loose ∧ (closeM (ops.toList.map depMask) (depMask o) 2).testBit p.1 = false := by
      intro p; simp [List.mem_filter]
    refine { sz := by rw [Array.size_setIfInBounds]; exact hi.sz, sub := ?_, rest := ?_, down := ?_, tsz := e1, env := e2, ds := by rw [Act.put_defers_eq]; exact hi.ds.mono hle, sim := hsim, ext := hi.ext.trans hν hi.num, num := Nat.le_trans hi.num hmono, lt := ?_, ghost := ?_, pair := hi.pair.filter _, pend := ?_, fresh := ?_, nodup := ?_ }
    · intro j hj
      rcases (did_set hilt').1 hj with rfl | hj
      · exact (hbits _).2 (.inr rfl)
      · exact (hbits j).2 (.inl (hi.sub j hj))
    · intro j hj
      rcases (hbits j).1 hj with hj | rfl
      · rcases hi.rest j hj with h1 | ⟨id, h1⟩
        · exact .inl ((did_set hilt').2 (.inr h1))
        · cases hb : (closeM (ops.toList.map depMask) (depMask o) 2).testBit j with
          | true => exact .inl ((did_set hilt').2 (.inr (hclose j hb)))
          | false => exact .inr ⟨id, (hmem _).2 ⟨h1, hb⟩⟩
      · exact .inl ((did_set hilt').2 (.inl rfl))
    · intro j oj hoj hj k hk
      rcases (did_set hilt').1 hj with rfl | hj
      · rw [ho] at hoj; cases hoj
        exact (did_set hilt').2 (.inr (hdep k hk))
      · exact (did_set hilt').2 (.inr (hi.down j oj hoj hj k hk))
    · intro p hp
      obtain ⟨h1, h2, h3, h4, o', h5, h6, h7, h8⟩ := hi.lt p ((hmem p).1 hp).1
      exact ⟨h1, (hbits _).2 (.inl h2), Nat.le_trans h3 hmono, h4, o', h5, h6, fun j hj => (hbits j).2 (.inl (h7 j hj)), h8⟩
    · intro p hp hnp h0
      obtain ⟨hp, _⟩ := (hmem p).1 hp
      obtain ⟨_, _, h3, _⟩ := hi.lt p hp
      rw [hν _ (by omega)]
      exact hi.ghost p hp (fun hd => hnp ((did_set hilt').2 (.inr hd))) h0
    · intro j hj
      rcases hi.pend j hj with h1 | h1 | h1
      · exact .inl ((hbits j).2 (.inl h1))
      · by_cases hji : j = i
        · subst hji; exact .inl ((hbits _).2 (.inr rfl))
        · exact .inr (.inr (by simp [nextD, h1, hji]))
      · cases h1
    · intro j hj
      have hj' : j ∈ s.pend ∧ j ≠ i := by
        rcases hj with h1 | h1
        · cases h1
        · simpa [nextD, List.mem_filter] using h1
      obtain ⟨h1, h2⟩ := hi.fresh j (.inl hj'.1)
      refine ⟨h1, ?_⟩
      show (s.D ||| 2 ^ i).testBit j = false
      cases hb : (s.D ||| 2 ^ i).testBit j with
      | false => rfl
      | true =>
        rcases (hbits j).1 hb with h3 | h3
        · rw [h2] at h3; cases h3
        · exact absurd h3 hj'.2
    · have := hi.nodup
      simp only [List.append_nil] at this
      show (s.pend.filter (· != i)).Nodup
      exact List.Pairwise.filter _ this
  unfold wpOp
  rw [ho]
  simp only
  have hw : ∀ b, wantedA ops (rhoD ops env0 s.vals i (depMask o)) o = some b → Region.wanted o (yielded ops a.tmps) = b := fun b h =>
    wanted_sound hρ h fun _ _ d _ _ ⟨u, hu⟩ => by rw [hi.tsz]; exact hbd d u hu
  unfold loudD at hl
  dsimp only at hl
  split at hl
  · cases hl
  · rename_i hwant
    rw [hw _ hwant]
    simp only [Bool.false_eq_true, if_false]
    simp only [Option.some.injEq, Prod.mk.injEq] at hl
    obtain ⟨rfl, rfl⟩ := hl
    exact hK _ rfl μ _ w (hnext _ _ μ w (.refl _ _) (Nat.le_refl _) hi.sim (.ofUndef μ))
  · rename_i hwant
    rw [hw _ hwant]
    simp only [if_true]
    left
    unfold Oper.wp
    split at hl
    · rename_i v H' hop
      simp only [Option.some.injEq, Prod.mk.injEq] at hl
      obtain ⟨rfl, rfl⟩ := hl
      obtain ⟨ν, hν, v', w', hrun, hv, hsim⟩ := aop_sound hf hi.sim hρ hop
      rw [hrun, Oper.upon_value]
      exact hK _ rfl _ _ _ (hnext _ _ _ _ hν (aop_mono hop) hsim hv)
    · rename_i H' hop
      simp only [Option.some.injEq, Prod.mk.injEq] at hl
      obtain ⟨rfl, rfl⟩ := hl
      obtain ⟨ν, hν, w', hrun, hsim⟩ := aop_sound hf hi.sim hρ hop
      rw [hrun, Oper.upon_skip]
      exact hK _ rfl _ _ _ (hnext _ _ _ _ hν (aop_mono hop) hsim (.ofUndef ν))
    · rename_i f args H' hop
      have hm : s.H.n ≤ H'.n := aop_mono hop
      obtain ⟨ν, hν, args', w', hrun, hargs, hsim⟩ := aop_sound hf hi.sim hρ hop
      rw [hrun, Oper.upon_enter]
      refine (hcall f args H' res H hl B w0 ν w' args' hsim hargs).mono ?_
      rintro e w'' ⟨ν2, hν2, hn2, hsim2, hres⟩
      cases res with
      | ret v =>
        obtain ⟨v', rfl, hv⟩ := hres
        exact hK v rfl _ _ _ (hnext v v' ν2 w'' (hν.trans hν2 hm) (Nat.le_trans hm hn2) hsim2 hv)
      | pan v =>
        obtain ⟨v', rfl, hv⟩ := hres
        exact hQ v rfl ν2 v' w'' ((hν.le hi.sim).trans (hν2.le hsim)) (hi.ext.trans (hν.trans hν2 hm) hi.num) (Nat.le_trans hi.num (Nat.le_trans hm hn2)) hsim2 hv
    · rename_i v H' hop
      simp only [Option.some.injEq, Prod.mk.injEq] at hl
      obtain ⟨rfl, rfl⟩ := hl
      obtain ⟨ν, hν, v', w', hrun, hv, hsim⟩ := aop_sound hf hi.sim hρ hop
      rw [hrun, Oper.upon_panic]
      exact hQ v rfl ν v' w' (hν.le hi.sim) (hi.ext.trans hν hi.num) (Nat.le_trans hi.num (aop_mono hop)) hsim hv
    · cases hl

theorem outEnv_get : ∀ (l : List Nat) (env env' : Tr Value) (vals : Tr Value), outEnv n ops vals l env = some env' → ∀ t u, env'.get t = some u →
    (∃ j o, j ∈ l ∧ ops[j]? = some o ∧ o.dst = some t ∧ vals.get j = some u) ∨ ((∀ j o, j ∈ l → ops[j]? = some o → o.dst ≠ some t) ∧ env.get t = some u) := by
  intro l
  induction l with
  | nil => intro env env' vals h t u hu; simp only [outEnv, Option.some.injEq] at h; subst h; exact .inr ⟨fun j o hj => (by cases hj), hu⟩
  | cons i l ih =>
    intro env env' vals h t u hu
    simp only [outEnv] at h
    split at h
    · rename_i o ho
      split at h
      · rename_i v hv
        split at h
        · rename_i env1 h1
          rcases ih env1 env' vals h t u hu with ⟨j, o', hj, h2⟩ | ⟨h2, h3⟩
          · exact .inl ⟨j, o', by simp [hj], h2⟩
          · unfold putE at h1
            split at h1
            · rename_i hd
              simp only [Option.some.injEq] at h1
              subst h1
              refine .inr ⟨fun j o' hj ho' => ?_, h3⟩
              rcases List.mem_cons.1 hj with rfl | hj
              · rw [ho] at ho'; cases ho'; rw [hd]; simp
              · exact h2 j o' hj ho'
            · rename_i d hd
              split at h1
              · simp only [Option.some.injEq] at h1
                subst h1
                rw [Tr.get_set] at h3
                split at h3
                · rename_i e
                  simp only [Option.some.injEq] at h3
                  exact .inl ⟨i, o, by simp, ho, by rw [hd, e], by rw [hv, h3]⟩
                · rename_i e
                  refine .inr ⟨fun j o' hj ho' => ?_, h3⟩
                  rcases List.mem_cons.1 hj with rfl | hj
                  · rw [ho] at ho'; cases ho'; rw [hd]; simpa using fun e' => e e'.symm
                  · exact h2 j o' hj ho'
              · cases h1
        · cases h
      · cases h
    · cases h

theorem get_del (t : Tr Value) : ∀ (k j : Nat) (u : Value), (t.del k).get j = some u → j ≠ k ∧ t.get j = some u := by
  induction t with
  | e => intro k j u h; simp [Tr.del] at h
  | n l v r ihl ihr =>
    intro k j u h
    simp only [Tr.del, beq_iff_eq] at h
    by_cases hk : k = 0
    · subst hk
      simp only [if_true, Tr.get_n, beq_iff_eq] at h ⊢
      by_cases hj : j = 0
      · subst hj; simp at h
      · rw [if_neg hj] at h ⊢; exact ⟨hj, h⟩
    · rw [if_neg hk] at h
      by_cases h1 : k % 2 = 1
      · rw [if_pos h1] at h
        simp only [Tr.get_n, beq_iff_eq] at h ⊢
        by_cases hj : j = 0
        · subst hj; simp only [if_true] at h ⊢; exact ⟨fun e => hk e.symm, h⟩
        · rw [if_neg hj] at h ⊢
          by_cases hj1 : j % 2 = 1
          · rw [if_pos hj1] at h ⊢
            obtain ⟨h2, h3⟩ := ihl _ _ _ h
            exact ⟨fun e => h2 (by rw [e]), h3⟩
          · rw [if_neg hj1] at h ⊢
            exact ⟨fun e => hj1 (by rw [e]; exact h1), h⟩
      · rw [if_neg h1] at h
        simp only [Tr.get_n, beq_iff_eq] at h ⊢
        by_cases hj : j = 0
        · subst hj; simp only [if_true] at h ⊢; exact ⟨fun e => hk e.symm, h⟩
        · rw [if_neg hj] at h ⊢
          by_cases hj1 : j % 2 = 1
          · rw [if_pos hj1] at h ⊢
            exact ⟨fun e => h1 (by rw [← e]; exact hj1), h⟩
          · rw [if_neg hj1] at h ⊢
            obtain ⟨h2, h3⟩ := ihr _ _ _ h
            exact ⟨fun e => h2 (by rw [e]), h3⟩
theorem get_dels : ∀ (l : List Oper) (t : Tr Value) (j : Nat) (u : Value), (l.foldl (fun t o => match o.dst with | some d => t.del d | none => t) t).get j = some u → (∀ o ∈ l, o.dst ≠ some j) ∧ t.get j = some u := by
  intro l
  induction l with
  | nil => intro t j u h; exact ⟨by simp, h⟩
  | cons o l ih =>
    intro t j u h
    rw [List.foldl_cons] at h
    obtain ⟨h1, h2⟩ := ih _ _ _ h
    cases hd : o.dst with
    | none =>
      rw [hd] at h2
      exact ⟨fun o' ho' => by rcases List.mem_cons.1 ho' with rfl | ho'; rw [hd]; simp; exact h1 o' ho', h2⟩
    | some d =>
      rw [hd] at h2
      obtain ⟨h3, h4⟩ := get_del t d j u h2
      exact ⟨fun o' ho' => by rcases List.mem_cons.1 ho' with rfl | ho'; rw [hd]; simpa using fun e => h3 e.symm; exact h1 o' ho', h4⟩

/-- All is done: what the frame holds. -/
theorem done_env (hu : uniqD n ops = true) (hi : Inv0 B w0 n n0 μ0 ops env0 ds s [] listed μ a w) (hall : ∀ j, j < ops.size → Did listed j) {env : Tr Value} (he : outEnv n ops s.vals (List.range ops.size) env0 = some env) :
    EnvRel μ n env a.tmps := by
  refine ⟨hi.tsz, fun t u hu' => ?_⟩
  refine hi.env t u ?_
  unfold slotD
  rcases outEnv_get _ _ _ _ he t u hu' with ⟨j, o, hj, ho, hd, hv⟩ | ⟨h1, h2⟩
  · have hw := (uniq_writer hu ho hd).2
    rw [hw]
    dsimp only
    rw [if_pos (show listed.getD j false = true from hall j (List.mem_range.1 hj))]
    exact hv
  · cases hw : writer ops t with
    | none => exact h2
    | some j =>
      obtain ⟨o, ho, hd⟩ := writer_some hw
      exact absurd hd (h1 j o (List.mem_range.2 (Array.getElem?_eq_some_iff.1 ho).1) ho)

/-- Nothing is ready: all is done. -/
theorem all_done (hi : Inv0 B w0 n n0 μ0 ops env0 ds s [] listed μ a w) (hr : Region.ready .any ops listed = []) : ∀ j, s.D.testBit j = true → Did listed j := by
  -- the eldest that is not done would be ready
  have key : ∀ (l : List (Nat × Nat)), (∀ p ∈ l, p ∈ s.loose) → (l.Pairwise fun p q => p.1 ≠ q.1 ∧ (p.2 ≠ 0 → q.2 ≠ 0 → p.2 ≠ q.2) ∧ ∀ o, ops[q.1]? = some o → (depMask o).testBit p.1 = false) →
      (∀ p ∈ s.loose, p ∈ l ∨ (∀ q ∈ l, ∀ o, ops[q.1]? = some o → (depMask o).testBit p.1 = false) ∨ Did listed p.1) → ∀ p ∈ l, Did listed p.1 := by
    intro l
    induction l with
    | nil => intro _ _ _ p hp; cases hp
    | cons x l ih =>
      intro hsub hpair hcov p hp
      obtain ⟨hx, hl⟩ := List.pairwise_cons.1 hpair
      have hrest := ih (fun q hq => hsub q (by simp [hq])) hl (fun q hq => by
        rcases hcov q hq with h1 | h1 | h1
        · rcases List.mem_cons.1 h1 with rfl | h1
          · exact .inr (.inl fun q' hq' o ho => (hx q' hq').2.2 o ho)
          · exact .inl h1
        · exact .inr (.inl fun q' hq' o ho => h1 q' (by simp [hq']) o ho)
        · exact .inr (.inr h1))
      rcases List.mem_cons.1 hp with rfl | hp
      · by_cases hd : Did listed p.1
        · exact hd
        · exfalso
          obtain ⟨h1, h2, _, _, o, h5, _, h7, h8⟩ := hi.lt p (hsub p (by simp))
          have : p.1 ∈ Region.ready .any ops listed := by
            refine (ready_spec hi.sz _).2 ⟨h1, hd, o, h5, fun j hj => ?_⟩
            rcases hi.rest j (h7 j hj) with h9 | ⟨id, h9⟩
            · exact h9
            · rcases hcov _ h9 with h10 | h10 | h10
              · rcases List.mem_cons.1 h10 with h11 | h11
                · have h12 : j = p.1 := by rw [← h11]
                  rw [h12, h8] at hj; cases hj
                · exact hrest _ h11
              · have := h10 p (by simp) o h5
                rw [hj] at this; cases this
              · exact h10
          rw [hr] at this; cases this
      · exact hrest p hp
  intro j hj
  rcases hi.rest j hj with h1 | ⟨id, h1⟩
  · exact h1
  · exact key s.loose (fun _ h => h) hi.pair (fun p hp => .inl hp) _ h1

theorem evDraw_ds : ∀ (f : Nat) (s : DSt) (r : Ex × St), evDraw P ext call n ops (ops.toList.map depMask) env0 ds f s = some r → r.2.ds = ds := by
  intro f
  induction f with
  | zero => intro s r h; cases h
  | succ f ih =>
    intro s r h
    simp only [evDraw] at h
    split at h
    · cases h
    · rename_i s1 _
      split at h
      · unfold tailD at h
        split at h
        · split at h
          · split at h
            · simp only [Option.some.injEq] at h; subst h; rfl
            · cases h
          · cases h
        · split at h
          · cases h
          · split at h
            · exact ih _ _ h
            · simp only [Option.some.injEq] at h; subst h; rfl
            · cases h
        · split at h
          · split at h
            · split at h
              · split at h
                · simp only [Option.some.injEq] at h; subst h; rfl
                · cases h
              · cases h
            · cases h
          · cases h
        · cases h
      · cases h

theorem outEnv_keep : ∀ (l : List Nat) (env env' : Tr Value) (vals : Tr Value), outEnv n ops vals l env = some env' → ∀ t, (∀ o ∈ ops.toList, o.dst ≠ some t) → env'.get t = env.get t := by
  intro l
  induction l with
  | nil => intro env env' vals h t _; simp only [outEnv, Option.some.injEq] at h; subst h; rfl
  | cons i l ih =>
    intro env env' vals h t ht
    simp only [outEnv] at h
    split at h
    · rename_i o ho
      split at h
      · rename_i v hv
        split at h
        · rename_i env1 he
          rw [ih _ _ _ h t ht]
          have hne := ht o (by rw [← Array.getElem?_toList] at ho; exact List.mem_of_getElem? ho)
          unfold putE at he
          split at he
          · simp only [Option.some.injEq] at he; subst he; rfl
          · rename_i d hd
            split at he
            · simp only [Option.some.injEq] at he
              subst he
              rw [Tr.get_set_ne]
              intro e; exact hne (by rw [hd, e])
            · cases he
        · cases h
      · cases h
    · cases h
theorem evDraw_keep : ∀ (f : Nat) (s : DSt) (s' : St), evDraw P ext call n ops (ops.toList.map depMask) env0 ds f s = some (.normal, s') → ∀ t, (∀ o ∈ ops.toList, o.dst ≠ some t) → s'.env.get t = env0.get t := by
  intro f
  induction f with
  | zero => intro s s' h; cases h
  | succ f ih =>
    intro s s' h t ht
    simp only [evDraw] at h
    split at h
    · cases h
    · rename_i s1 _
      split at h
      · unfold tailD at h
        split at h
        · split at h
          · split at h
            · rename_i env he
              simp only [Option.some.injEq, Prod.mk.injEq, true_and] at h
              subst h
              exact outEnv_keep _ _ _ _ he t ht
            · cases h
          · cases h
        · split at h
          · cases h
          · split at h
            · exact ih _ _ h t ht
            · simp at h
            · cases h
        · split at h
          · split at h
            · split at h
              · split at h
                · rename_i ha _ _
                  simp only [Option.some.injEq, Prod.mk.injEq, true_and] at h
                  subst h
                  exact ih _ _ ha t ht
                · cases h
              · cases h
            · cases h
          · cases h
        · cases h
      · cases h
theorem outsEq_spec {a b : Tr Value} (h : outsEq ops a b = true) {t : Nat} {u : Value} (ht : ∃ o ∈ ops.toList, o.dst = some t) (hu : a.get t = some u) : b.get t = some u := by
  obtain ⟨o, ho, hd⟩ := ht
  have := List.all_eq_true.1 h o ho
  rw [hd] at this
  dsimp only at this
  rw [hu] at this
  cases hb : b.get t with
  | none => rw [hb] at this; cases this
  | some v => rw [hb] at this; rw [veq_eq 4 _ _ this]

/-- Nothing is ready: the end. -/
theorem tail_finish (hu : uniqD n ops = true) {go : DSt → Option (Ex × St)} {r : Ex × St} (h : tailD P ext call n ops (ops.toList.map depMask) env0 ds go s = some r) (hi : Inv0 B w0 n n0 μ0 ops env0 ds s [] listed μ a w)
    (hr : Region.ready .any ops listed = []) : Ends B w0 n μ0 n0 r .normal a w := by
  have hdone := all_done hi hr
  have hnone : nextsD ops s = [] := by
    unfold nextsD
    rw [List.filter_eq_nil_iff]
    intro i hip
    obtain ⟨hlt, hD⟩ := hi.fresh i (.inl hip)
    rw [Array.getElem?_eq_getElem hlt]
    dsimp only
    intro hsub
    have : i ∈ Region.ready .any ops listed := (ready_spec hi.sz _).2 ⟨hlt, (fun hd => by have := hi.sub i hd; rw [hD] at this; cases this), _, Array.getElem?_eq_getElem hlt, fun j hj => hdone j (subM_bit hsub hj)⟩
    rw [hr] at this; cases this
  unfold tailD at h
  rw [hnone] at h
  dsimp only at h
  split at h
  · rename_i hp
    have hp : s.pend = [] := by simpa using hp
    split at h
    · rename_i env henv
      simp only [Option.some.injEq] at h
      subst h
      have hall : ∀ j, j < ops.size → Did listed j := by
        intro j hj
        rcases hi.pend j hj with h1 | h1 | h1
        · exact hdone j h1
        · rw [hp] at h1; cases h1
        · cases h1
      exact ⟨μ, hi.ext, hi.num, ⟨done_env hu hi hall henv, hi.ds, hi.sim⟩, trivial⟩
    · cases h
  · cases h

theorem oper_wp_mono {o : Oper} {a : Act} {w : World} {K K' : Act → World → Prop} {Q Q' : Exit → Act → World → Prop} (h : ∀ a w, K a w → K' a w) (hq : ∀ e a w, Q e a w → Q' e a w)
    (hh : o.wp P a w K Q) : o.wp P a w K' Q' := by
  unfold Oper.wp at *
  generalize (execOp a.eval o).run P w = r at *
  cases r with
  | ok n w' =>
    cases n <;> simp only [Oper.upon] at hh ⊢ <;>
      first
        | exact h _ _ hh
        | exact Calls.mono hh (fun e w'' he => by cases e <;> first | exact h _ _ he | exact hq _ _ _ he | exact (let ⟨a, w, h⟩ := he; ⟨a, w, hq _ _ _ h⟩))
        | exact Rows.mono hh (fun _ _ he => h _ _ he)
  | halt x w' => cases x <;> simp only [Oper.upon] at hh ⊢ <;> first | exact hq _ _ _ hh | exact hh
theorem wpAny_mono {ops : Array Oper} {Q Q' : Exit → Act → World → Prop} (hq : ∀ e a w, Q e a w → Q' e a w) : ∀ {fuel : Nat} {listed : Array Bool} {a : Act} {w : World}, wpAny P .any ops Q fuel listed a w → wpAny P .any ops Q' fuel listed a w := by
  intro fuel
  induction fuel with
  | zero => intro listed a w h; exact ⟨h.1, hq _ _ _ h.2⟩
  | succ fuel ih =>
    intro listed a w h
    refine ⟨fun hr => hq _ _ _ (h.1 hr), fun i hi => ?_⟩
    have h1 := h.2 i hi
    unfold wpOp at *
    split
    · rename_i ho; simp only [ho] at h1; exact ih h1
    · rename_i o ho
      simp only [ho] at h1
      split
      · rename_i hw
        simp only [hw, if_true] at h1
        exact h1.imp (oper_wp_mono (fun _ _ => ih) hq) (fun h2 => ⟨h2.1, let ⟨a, w, h⟩ := h2.2; ⟨a, w, hq _ _ _ h⟩⟩)
      · rename_i hw; simp only [hw] at h1; exact ih h1

/-- What is left, by whatever order, if what is left behind the next loud operation is known. -/
theorem tail_fuel (hf : Fit P ext) (hcall : CallOk P call) (hu : uniqD n ops = true) {go : DSt → Option (Ex × St)}
    (hgo : ∀ (fuel : Nat) (s1 : DSt) (r : Ex × St) (listed : Array Bool) (μ : Mu) (a : Act) (w : World), go s1 = some r → Inv0 B w0 n n0 μ0 ops env0 ds { s1 with pend := [] } s1.pend listed μ a w → toDo ops.size listed ≤ fuel →
      wpAny P .any ops (Ends B w0 n μ0 n0 r) fuel listed a w) (hds : ∀ s1 r, go s1 = some r → r.2.ds = ds) (hkp : ∀ s1 s', go s1 = some (.normal, s') → ∀ t, (∀ o ∈ ops.toList, o.dst ≠ some t) → s'.env.get t = env0.get t) :
    ∀ (fuel : Nat) (s : DSt) (r : Ex × St) (listed : Array Bool) (μ : Mu) (a : Act) (w : World), tailD P ext call n ops (ops.toList.map depMask) env0 ds go s = some r →
    Inv0 B w0 n n0 μ0 ops env0 ds s [] listed μ a w → (∀ p ∈ s.loose, stillD P ext ops env0 s p = true) → toDo ops.size listed ≤ fuel →
    wpAny P .any ops (Ends B w0 n μ0 n0 r) fuel listed a w := by
  intro fuel
  induction fuel with
  | zero =>
    intro s r listed μ a w h hi hst hf0
    have hall := toDo_zero (Nat.le_zero.1 hf0)
    have hr : Region.ready .any ops listed = [] := by
      rw [List.eq_nil_iff_forall_not_mem]
      intro i hi'
      obtain ⟨h1, h2, _⟩ := (ready_spec hi.sz i).1 hi'
      exact h2 (hall i h1)
    exact ⟨hr, tail_finish hu h hi hr⟩
  | succ fuel ih =>
    intro s r listed μ a w h hi hst hfu
    refine ⟨fun hr => tail_finish hu h hi hr, fun i hir => ?_⟩
    obtain ⟨hlt, hnd, o, ho, hdep⟩ := (ready_spec hi.sz i).1 hir
    have htd : toDo ops.size (listed.setIfInBounds i true) ≤ fuel := by
      have := toDo_set hi.sz hlt hnd; omega
    by_cases hD : s.D.testBit i = true
    · exact quiet_step hf hu hi hst ho hnd hdep hD fun ν a' w' hi' => ih s r _ ν a' w' h hi' hst htd
    · have hpend : i ∈ s.pend := by
        rcases hi.pend i hlt with h1 | h1 | h1
        · exact absurd h1 hD
        · exact h1
        · cases h1
      have hin : i ∈ nextsD ops s := by
        unfold nextsD
        rw [List.mem_filter]
        refine ⟨hpend, ?_⟩
        rw [ho]
        exact subM_of fun j hj => hi.sub j (hdep j hj)
      unfold tailD at h
      split at h
      · rename_i hn; rw [hn] at hin; cases hin
      · rename_i i' hn
        rw [hn, List.mem_singleton] at hin
        subst hin
        rw [ho] at h
        dsimp only at h
        split at h
        · rename_i v H hl
          refine loud_step hf hcall hu hi ho hnd hdep hpend hl ?_ ?_
          · intro v' hv' ν a' w' hi'
            cases hv'
            exact hgo fuel _ r _ ν a' w' h hi' htd
          · intro v' hv'; cases hv'
        · rename_i v H hl
          simp only [Option.some.injEq] at h
          subst h
          refine loud_step hf hcall hu hi ho hnd hdep hpend hl ?_ ?_
          · intro v' hv'; cases hv'
          · intro v' hv' ν u' w' hle hext hn hsim hrel
            cases hv'
            refine ⟨ν, hext, hn, ⟨⟨hi.tsz, fun t u ht => ?_⟩, hi.ds.mono hle, hsim⟩, u', rfl, hrel⟩
            obtain ⟨h1, h2⟩ := get_dels _ _ _ _ ht
            have hw : writer ops t = none := by
              cases hw : writer ops t with
              | none => rfl
              | some j =>
                obtain ⟨o', ho', hd'⟩ := writer_some hw
                exact absurd hd' (h1 o' (by rw [← Array.getElem?_toList] at ho'; exact List.mem_of_getElem? ho'))
            have := hi.env t u (by unfold slotD; rw [hw]; exact h2)
            exact ⟨this.1, this.2.mono hle⟩
        · cases h
      · rename_i i1 j1 hn
        rw [hn] at hin
        split at h
        · rename_i oi oj hoi hoj
          split at h
          · rename_i vi Hi vj Hj hli hlj
            split at h
            · rename_i sa sb hga hgb
              split at h
              · rename_i heq
                simp only [Bool.and_eq_true] at heq
                have he1 : ∀ t u, sa.env.get t = some u → sb.env.get t = some u := by
                  intro t u hu
                  by_cases ht : ∃ o ∈ ops.toList, o.dst = some t
                  · exact outsEq_spec heq.1 ht hu
                  · have ht : ∀ o ∈ ops.toList, o.dst ≠ some t := fun o ho hd => ht ⟨o, ho, hd⟩
                    rw [hkp _ _ hga t ht] at hu
                    rw [hkp _ _ hgb t ht]; exact hu
                have he2 := beqH_eq _ _ heq.2
                simp only [Option.some.injEq] at h
                subst h
                have ha : (Ex.normal, (⟨sa.env, ds, sa.H⟩ : St)) = (Ex.normal, sa) := by
                  have := hds _ _ hga
                  simp only at this
                  rw [← this]
                have hb : ∀ e a w, Ends B w0 n μ0 n0 (.normal, sb) e a w → Ends B w0 n μ0 n0 (.normal, ⟨sa.env, ds, sa.H⟩) e a w := by
                  have hd := hds _ _ hgb
                  simp only at hd
                  rintro e a w ⟨ν, h1, h2, h3, h4⟩
                  refine ⟨ν, h1, he2 ▸ h2, ⟨⟨h3.env.1, fun t u ht => h3.env.2 t u (he1 t u ht)⟩, ?_, ?_⟩, h4⟩
                  · rw [← hd]; exact h3.ds
                  · rw [he2]; exact h3.sim
                simp only [List.mem_cons, List.not_mem_nil, or_false] at hin
                rcases hin with rfl | rfl
                · rw [ho] at hoi; cases hoi
                  refine loud_step hf hcall hu hi ho hnd hdep hpend hli ?_ ?_
                  · intro v' hv' ν a' w' hi'
                    cases hv'
                    rw [ha]
                    exact hgo fuel _ _ _ ν a' w' hga hi' htd
                  · intro v' hv'; cases hv'
                · rw [ho] at hoj; cases hoj
                  refine loud_step hf hcall hu hi ho hnd hdep hpend hlj ?_ ?_
                  · intro v' hv' ν a' w' hi'
                    cases hv'
                    exact wpAny_mono hb (hgo fuel _ _ _ ν a' w' hgb hi' htd)
                  · intro v' hv'; cases hv'
              · cases h
            · cases h
          · cases h
        · cases h
      · cases h

theorem go_sound (hf : Fit P ext) (hcall : CallOk P call) (hu : uniqD n ops = true) : ∀ (f : Nat) (fuel : Nat) (s1 : DSt) (r : Ex × St) (listed : Array Bool) (μ : Mu) (a : Act) (w : World),
    evDraw P ext call n ops (ops.toList.map depMask) env0 ds f s1 = some r → Inv0 B w0 n n0 μ0 ops env0 ds { s1 with pend := [] } s1.pend listed μ a w → toDo ops.size listed ≤ fuel →
    wpAny P .any ops (Ends B w0 n μ0 n0 r) fuel listed a w := by
  intro f
  induction f with
  | zero => intro fuel s1 r listed μ a w h; cases h
  | succ f ih =>
    intro fuel s1 r listed μ a w h hi htd
    simp only [evDraw] at h
    split at h
    · cases h
    · rename_i s hs
      split at h
      · rename_i hall
        exact tail_fuel hf hcall hu ih (fun s1 r => evDraw_ds f s1 r) (fun s1 s' => evDraw_keep f s1 s') fuel s r listed μ a w h (sweep_inv _ _ _ hs hi) (fun p hp => List.all_eq_true.1 hall p hp) htd
      · cases h

theorem drawOk (hf : Fit P ext) (hcall : CallOk P call) : DrawOk P ext call := by
  intro n id ops env ds H r h B w0 μ a w hs
  split at h
  · rename_i hu
    refine wp_region_any hf.mixed ?_
    refine go_sound hf hcall hu _ _ _ r _ μ a _ h ?_ ?_
    · have hnd : ∀ j, ¬ Did (Array.replicate ops.size false) j := by
        intro j hj
        unfold Did at hj
        rw [Array.getD_eq_getD_getElem?] at hj
        by_cases hlt : j < ops.size
        · simp [hlt] at hj
        · simp [Array.getElem?_eq_none (show (Array.replicate ops.size false).size ≤ j by simpa using hlt)] at hj
      refine { sz := by simp, sub := fun j hj => absurd hj (hnd j), rest := fun j hj => by simp at hj, down := fun j _ _ hj => absurd hj (hnd j), tsz := hs.env.1, env := ?_, ds := hs.ds, sim := hs.sim.drawn _, ext := .refl _ _, num := Nat.le_refl _, lt := fun p hp => (by cases hp), ghost := fun p hp => (by cases hp), pair := .nil, pend := fun j hj => .inr (.inr (List.mem_range.2 hj)), fresh := ?_, nodup := ?_ }
      · intro t v hv
        unfold slotD at hv
        cases hw : writer ops t with
        | none => rw [hw] at hv; exact hs.env.2 t v hv
        | some j =>
          rw [hw] at hv
          dsimp only at hv
          rw [if_neg (show ¬ (Array.replicate ops.size false).getD j false = true from hnd j)] at hv
          exact hs.env.2 t v hv
      · intro j hj
        rcases hj with h1 | h1
        · cases h1
        · exact ⟨List.mem_range.1 h1, by simp⟩
      · simpa using List.nodup_range
    · unfold toDo
      exact Nat.le_trans (List.length_filter_le _ _) (by simp)
  · cases h

/-- Whole calls, without more ado. -/
theorem evFn_ok (hf : Fit P ext) (K d : Nat) : CallOk P (evFn P ext K d) := evFn_sound hf K (fun _ hc => drawOk hf hc) d
end

end
end Go.Proofs.YtpmjpieiajdcgaaGreat
