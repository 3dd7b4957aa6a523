/- PE, part 17: the region's invariant. -/
import Derived.Test.YtpmjpieiajdcgaaGreatPeDraw
namespace Go.Proofs.YtpmjpieiajdcgaaGreat
open Go Go.RowKit
noncomputable section

section
variable {P : Program} {ext : FuncId → Option ExtK} {call : CallFn} {B n : Nat} {w0 w : World} {μ ν : Mu} {H : Hp} {ρ : Rho} {ρ' : Operand → Value} {o : Oper} {r : AR}

/-- A new row: what the machine does. -/
theorem newRowA_sound {q : NewRow} (hρ : RhoRel μ ρ ρ') (he : newRowA P ρ o = some q) :
    ∃ c' v', (execOp ρ' o).run P w = .ok (.value v') (w.alloc (.cells c' q.el)) ∧ LRel μ q.c c'.toList ∧
      ∀ (ν : Mu) (i : Nat), ν i = some ⟨w.heap.size, 0, c'.size, q.z⟩ → VRel ν (q.val i) v' := by
  unfold newRowA at he
  split at he
  · rename_i el ho
    split at he
    · rename_i i hi
      split at he
      · rename_i z hz
        split at he
        · rename_i hf
          simp only [Option.some.injEq] at he
          subst he
          refine ⟨z.cells, .pointer (some ⟨w.heap.size, 0, none⟩), by simp [execOp, ho, Instr.alloc, run_zero hi hz, newVar, run_newRow], LRel.of_flat hf, fun ν i h => ?_⟩
          exact .ptr (x := ⟨w.heap.size, 0, z.cells.size, 0⟩) h
        · cases he
      · cases he
    · cases he
  · rename_i el x ho
    split at he
    · rename_i v hv
      simp only [Option.some.injEq] at he
      subst he
      refine ⟨(ρ' x).cells, .pointer (some ⟨w.heap.size, 0, none⟩), by simp [execOp, ho, Instr.box, newVar, run_newRow], (hρ _ _ hv).cells, fun ν i h => ?_⟩
      exact .ptr (x := ⟨w.heap.size, 0, (ρ' x).cells.size, 0⟩) h
    · cases he
  · rename_i t m ps ho
    split at he
    · rename_i l el hl hu
      split at he
      · rename_i i hi
        split at he
        · cases he
        · rename_i hbig
          split at he
          · rename_i zc hz
            split at he
            · rename_i hf
              split at he
              · rename_i cs hfi
                simp only [Option.some.injEq] at he
                subst he
                have hp := partsA_rel hρ _ hl
                have hmap : (ps.map fun (p : Nat × Operand) => (p.1, ρ' p.2)).toList = ps.toList.map fun p => (p.1, ρ' p.2) := by simp
                rw [← hmap] at hp
                generalize hps' : (ps.map fun (p : Nat × Operand) => (p.1, ρ' p.2)) = ps' at hp
                have hex : execOp ρ' o = (do pure (.value (← Instr.buildSlice t m ps'))) := by simp only [execOp, ho, ← hps']
                obtain ⟨out, hout, hrel⟩ := fill_rel (fun j => some (j * i.size, i.size)) l ps'.toList zc zc hp (LRel.of_flat hf) hfi
                refine ⟨out, .slice (some ⟨w.heap.size, 0, none⟩) m m, ?_, hrel, fun ν j h => ?_⟩
                · rw [hex]
                  simp only [Sem.run_bind, Instr.buildSlice, run_und hu, Result.andThen_ok, run_sz hi, if_neg hbig]
                  unfold zerosA at hz
                  split at hz
                  · rename_i h0
                    simp only [Option.some.injEq] at hz
                    simp only [h0, if_true, Sem.run_pure]
                    rw [h0] at hz
                    simp only [hz, hout, Sem.run_bind, run_newRow, Result.andThen_ok, Sem.run_pure]
                  · rename_i h0
                    split at hz
                    · rename_i z hzz
                      simp only [Option.some.injEq] at hz
                      simp only [if_neg h0, Sem.run_bind, run_zero hi hzz, Sem.run_pure, Result.andThen_ok, hz, hout, run_newRow]
                    · cases hz
                · exact .slx (x := ⟨w.heap.size, 0, out.size, i.size⟩) h
              · cases he
            · cases he
          · cases he
      · cases he
    · cases he
  · cases he

/-- An operation that is no loud one and makes no row leaves memory as it is. -/
theorem aop_quiet {v : Value} {H' : Hp} (hE : isE o = false) (hN : isNew o = false) (h : aop P ext ρ o H = some (.val v H')) (hn : H'.n = H.n) : H' = H := by
  have hmv : ∀ {u : Option Value}, moveA u H = some (.val v H') → H' = H := fun h => moveA_mono h
  have hfl : flatOp P ρ o H = some (.val v H') → H' = H := fun h => flatOp_mono h
  unfold aop at h
  split at h
  · exact hmv h
  · exact hmv h
  · unfold pickA at h
    split at h
    · exact hmv h
    · exact hmv h
    · cases h
  · rename_i ho; simp [isNew, ho] at hN
  · rename_i ho; simp [isNew, ho] at hN
  · unfold buildA at h
    (repeat' (split at h)) <;> first | (cases h; done) | exact hmv h
  · rename_i ho; simp [isNew, ho] at hN
  · unfold loadA at h
    (repeat' (split at h)) <;> first | (cases h; done) | (simp only [Option.some.injEq, AR.val.injEq] at h; exact h.2.symm)
  · rename_i ho; simp [isE, ho] at hE
  · unfold nilCheckA at h
    (repeat' (split at h)) <;> first | (cases h; done) | (simp only [Option.some.injEq, AR.val.injEq] at h; exact h.2.symm)
  · rcases orA_cases h with h | h
    · exact hfl h
    · unfold eqA at h
      (repeat' (split at h)) <;> first | (cases h; done) | (simp only [Option.some.injEq, AR.val.injEq] at h; exact h.2.symm)
  · exact hfl h
  · rcases orA_cases h with h | h
    · unfold convA at h
      (repeat' (split at h)) <;> first | (cases h; done) | (simp only [Option.some.injEq, AR.val.injEq] at h; first | exact h.2.symm | (obtain ⟨_, rfl⟩ := h; simp only [Hp.fresh] at hn; omega))
    · exact hfl h
  · unfold ifaceA at h
    (repeat' (split at h)) <;> first | (cases h; done) | (simp only [Option.some.injEq, AR.val.injEq] at h; exact h.2.symm)
  · unfold funcA at h
    (repeat' (split at h)) <;> first | (cases h; done) | (simp only [Option.some.injEq, AR.val.injEq] at h; exact h.2.symm)
  · rename_i ho; simp [isE, ho] at hE
  · rcases orA_cases h with h | h
    · unfold sliceA at h
      (repeat' (split at h)) <;> first | (cases h; done) | (simp only [Option.some.injEq, AR.val.injEq] at h; exact h.2.symm)
    · exact hfl h
  · unfold fieldAddrA at h
    (repeat' (split at h)) <;> first | (cases h; done) | (simp only [Option.some.injEq, AR.val.injEq] at h; exact h.2.symm)
  · unfold fieldA at h
    (repeat' (split at h)) <;> first | (cases h; done) | exact hmv h
  · unfold indexAddrA at h
    (repeat' (split at h)) <;> first | (cases h; done) | (simp only [Option.some.injEq, AR.val.injEq] at h; exact h.2.symm)
  · rcases orA_cases h with h | h
    · unfold indexA at h
      (repeat' (split at h)) <;> first | (cases h; done) | exact hmv h
    · exact hfl h
  · rename_i ho; simp [isE, ho] at hE
  · rename_i ho; simp [isE, ho] at hE
  · unfold assertA at h
    (repeat' (split at h)) <;> first | (cases h; done) | (simp only [Option.some.injEq, AR.val.injEq] at h; exact h.2.symm)
  · unfold extractA at h
    (repeat' (split at h)) <;> first | (cases h; done) | exact hmv h
  · rename_i c ho
    unfold callA at h
    split at h
    · split at h
      · rename_i b hb
        have hb' : b = .len ∨ b = .cap ∨ b = .min ∨ b = .max ∨ b = .unsafeSliceData := by
          simp only [isE, ho, hb] at hE
          cases b <;> simp at hE <;> simp
        unfold builtinA at h
        rcases hb' with rfl | rfl | rfl | rfl | rfl <;> simp only at h
        · rcases orA_cases h with h | h
          · unfold lenA at h
            (repeat' (split at h)) <;> first | (cases h; done) | (simp only [Option.some.injEq, AR.val.injEq] at h; exact h.2.symm)
          · exact hfl h
        · rcases orA_cases h with h | h
          · unfold capA at h
            (repeat' (split at h)) <;> first | (cases h; done) | (simp only [Option.some.injEq, AR.val.injEq] at h; exact h.2.symm)
          · exact hfl h
        · exact hfl h
        · exact hfl h
        · rcases orA_cases h with h | h
          · unfold unsafeDataA at h
            (repeat' (split at h)) <;> first | (cases h; done) | (simp only [Option.some.injEq, AR.val.injEq] at h; exact h.2.symm)
          · exact hfl h
      · rename_i hb; simp [isE, ho, hb] at hE
      · cases h
    · cases h
  · rename_i ho; simp [isE, ho] at hE
  · rename_i ho; simp [isE, ho] at hE
  · cases h

theorem Sim.same_mu {B : Nat} {w0 w w' : World} {μ ν : Mu} {H H' : Hp} (h : Sim B w0 μ H w) (h' : Sim B w0 ν H' w') (hν : Mu.Ext H.n μ ν) (hn : H'.n = H.n) : ν = μ := by
  funext i
  by_cases hi : i < H.n
  · exact hν i hi
  · cases h1 : ν i with
    | some x => have := h'.fin _ _ h1; omega
    | none => cases h2 : μ i with
      | none => rfl
      | some x => have := h.fin _ _ h2; omega

/-- Which operation writes a slot. -/
def writer (ops : Array Oper) (t : Tmp) : Option Nat := ops.toList.findIdx? (fun o => o.dst == some t)
theorem writer_some {ops : Array Oper} {t : Tmp} {j : Nat} (h : writer ops t = some j) : ∃ o, ops[j]? = some o ∧ o.dst = some t := by
  unfold writer at h
  obtain ⟨hj, h1, _⟩ := List.findIdx?_eq_some_iff_getElem.1 h
  refine ⟨ops.toList[j], ?_, by simpa using h1⟩
  rw [← Array.getElem?_toList, List.getElem?_eq_getElem hj]
theorem uniq_writer {ops : Array Oper} (h : uniqD n ops = true) {j : Nat} {o : Oper} {t : Tmp} (ho : ops[j]? = some o) (hd : o.dst = some t) : t < n ∧ writer ops t = some j := by
  have hj : j < ops.size := (Array.getElem?_eq_some_iff.1 ho).1
  have := List.all_eq_true.1 h j (List.mem_range.2 hj)
  rw [ho] at this
  simp only [Option.bind_some, hd, beq_iff_eq, Bool.and_eq_true, decide_eq_true_eq] at this
  exact this

/-- What a slot holds, by what is done. -/
def slotD (ops : Array Oper) (env0 vals : Tr Value) (listed : Array Bool) (t : Tmp) : Option Value :=
  match writer ops t with
  | some j => if listed.getD j false = true then vals.get j else env0.get t
  | none => env0.get t

structure Inv0 (B : Nat) (w0 : World) (n : Nat) (n0 : Nat) (μ0 : Mu) (ops : Array Oper) (env0 : Tr Value) (ds : List Deferred) (s : DSt) (todo : List Nat) (listed : Array Bool) (μ : Mu) (a : Act) (w : World) : Prop where
  sz : listed.size = ops.size
  sub : ∀ j, Did listed j → s.D.testBit j = true
  rest : ∀ j, s.D.testBit j = true → Did listed j ∨ ∃ id, (j, id) ∈ s.loose
  down : ∀ j o, ops[j]? = some o → Did listed j → ∀ i, (depMask o).testBit i = true → Did listed i
  tsz : a.tmps.size = n
  env : ∀ t v, slotD ops env0 s.vals listed t = some v → t < n ∧ VRel μ v (a.tmps.getD t undef)
  ds : DsRel μ ds a.defers
  sim : Sim B w0 μ s.H w
  ext : Mu.Ext n0 μ0 μ
  num : n0 ≤ s.H.n
  lt : ∀ p ∈ s.loose, p.1 < ops.size ∧ s.D.testBit p.1 = true ∧ p.2 ≤ s.H.n ∧ (p.2 ≠ 0 → n0 < p.2) ∧ ∃ o, ops[p.1]? = some o ∧ isE o = false ∧ (∀ i, (depMask o).testBit i = true → s.D.testBit i = true) ∧ (depMask o).testBit p.1 = false
  ghost : ∀ p ∈ s.loose, ¬ Did listed p.1 → p.2 ≠ 0 → μ (p.2 - 1) = none
  pair : s.loose.Pairwise fun p q => p.1 ≠ q.1 ∧ (p.2 ≠ 0 → q.2 ≠ 0 → p.2 ≠ q.2) ∧ ∀ o, ops[q.1]? = some o → (depMask o).testBit p.1 = false
  pend : ∀ j, j < ops.size → s.D.testBit j = true ∨ j ∈ s.pend ∨ j ∈ todo
  fresh : ∀ j, j ∈ s.pend ∨ j ∈ todo → j < ops.size ∧ s.D.testBit j = false
  nodup : (s.pend ++ todo).Nodup

variable {n0 : Nat} {μ0 : Mu} {ops : Array Oper} {env0 : Tr Value} {ds : List Deferred} {s : DSt} {todo : List Nat} {listed : Array Bool} {a : Act}

/-- The operands of an operation whose turn it may be. -/
theorem Inv0.rho (h : Inv0 B w0 n n0 μ0 ops env0 ds s todo listed μ a w) {i : Nat} {o : Oper} (ho : ops[i]? = some o) (hi : ¬ Did listed i) (hdep : ∀ j, (depMask o).testBit j = true → Did listed j) :
    RhoRel μ (rhoD ops env0 s.vals i (depMask o)) a.eval ∧ ∀ d v, rhoD ops env0 s.vals i (depMask o) (.tmp d) = some v → d < n := by
  have key : ∀ t v, rhoD ops env0 s.vals i (depMask o) (.tmp t) = some v → slotD ops env0 s.vals listed t = some v := by
    intro t v hv
    simp only [rhoD] at hv
    unfold slotD
    show (match writer ops t with | some j => _ | none => _) = _
    have hw : ops.toList.findIdx? (fun o => o.dst == some t) = writer ops t := rfl
    rw [hw] at hv
    cases hwt : writer ops t with
    | none => rw [hwt] at hv; exact hv
    | some j =>
      rw [hwt] at hv
      dsimp only at hv ⊢
      by_cases hb : (depMask o).testBit j = true
      · rw [if_pos hb] at hv
        rw [if_pos (show listed.getD j false = true from hdep j hb)]
        exact hv
      · rw [if_neg hb] at hv
        have hsplit : ∀ (c : Bool) (x : Option Value), (if c = true then x else none) = some v → c = true ∧ x = some v := by
          intro c x h
          cases c with
          | true => exact ⟨rfl, by simpa using h⟩
          | false => simp at h
        obtain ⟨hc, hv⟩ := hsplit _ _ hv
        simp only [Bool.or_eq_true, beq_iff_eq] at hc
        have hnd : ¬ Did listed j := by
          rcases hc with rfl | hc
          · exact hi
          · intro hd
            split at hc
            · rename_i oj hoj
              exact hi (h.down j oj hoj hd i hc)
            · cases hc
        rw [if_neg (show ¬ listed.getD j false = true from hnd)]
        exact hv
  refine ⟨?_, fun d v hv => (h.env d v (key d v hv)).1⟩
  intro x v hx
  cases x with
  | tmp t => exact (h.env t v (key t v hx)).2
  | const u =>
    simp only [rhoD, rhoE] at hx
    split at hx
    · rename_i hf
      simp only [Option.some.injEq] at hx
      subst hx
      exact .of_flatD 3 hf
    · cases hx
  | func f => simp only [rhoD, rhoE, Option.some.injEq] at hx; subst hx; exact .func rfl (fun _ => by simpa using VRel.ofUndef μ) rfl (fun _ => by simpa using VRel.ofUndef μ)
  | global g => simp [rhoD, rhoE] at hx

theorem slotD_not {i : Nat} {v : Value} (hi : ¬ Did listed i) (t : Tmp) : slotD ops env0 (s.vals.set i v) listed t = slotD ops env0 s.vals listed t := by
  unfold slotD
  cases hw : writer ops t with
  | none => rfl
  | some j =>
    dsimp only
    by_cases hj : listed.getD j false = true
    · rw [if_pos hj, if_pos hj, Tr.get_set_ne]
      rintro rfl
      exact hi hj
    · rw [if_neg hj, if_neg hj]

/-- A sweep keeps the invariant. -/
theorem sweep_inv : ∀ (todo : List Nat) (s s' : DSt), sweep P ext ops env0 todo s = some s' → Inv0 B w0 n n0 μ0 ops env0 ds s todo listed μ a w → Inv0 B w0 n n0 μ0 ops env0 ds s' [] listed μ a w := by
  intro todo
  induction todo with
  | nil => intro s s' h hi; simp only [sweep, Option.some.injEq] at h; subst h; exact hi
  | cons i l ih =>
    intro s s' h hi
    simp only [sweep] at h
    obtain ⟨hlt, hD⟩ := hi.fresh i (.inr (by simp))
    have hnd : ¬ Did listed i := fun hd => by have := hi.sub i hd; rw [hD] at this; cases this
    have hnod := hi.nodup
    split at h
    · cases h
    · rename_i o ho
      split at h
      · rename_i hc
        simp only [Bool.and_eq_true, Bool.not_eq_true'] at hc
        obtain ⟨hE, hsub⟩ := hc
        split at h
        · rename_i v id H hq
          refine ih _ _ h ?_
          -- the new memory, the new row
          have hH : Sim B w0 μ H w ∧ s.H.n ≤ H.n ∧ id ≤ H.n ∧ (id ≠ 0 → s.H.n < id ∧ μ (id - 1) = none) := by
            unfold quietD at hq
            dsimp only at hq
            split at hq
            · cases hq
            · simp only [Option.some.injEq, Prod.mk.injEq] at hq
              obtain ⟨rfl, rfl, rfl⟩ := hq
              exact ⟨hi.sim, Nat.le_refl _, Nat.zero_le _, fun e => absurd rfl e⟩
            · split at hq
              · split at hq
                · simp only [Option.some.injEq, Prod.mk.injEq] at hq
                  obtain ⟨rfl, rfl, rfl⟩ := hq
                  refine ⟨hi.sim.ghost _ _ _, fresh_mono _ _ _ _, Nat.le_refl _, fun _ => ⟨Nat.lt_succ_self _, ?_⟩⟩
                  show μ (s.H.n + 1 - 1) = none
                  rw [Nat.add_sub_cancel]; exact hi.sim.unknown
                · cases hq
              · split at hq
                · split at hq
                  · simp only [Option.some.injEq, Prod.mk.injEq] at hq
                    obtain ⟨rfl, rfl, rfl⟩ := hq
                    exact ⟨hi.sim, Nat.le_refl _, Nat.zero_le _, fun e => absurd rfl e⟩
                  · cases hq
                · cases hq
          obtain ⟨hsim, hmono, hid, hghost⟩ := hH
          have hbits : ∀ j, (s.D ||| 2 ^ i).testBit j = true ↔ s.D.testBit j = true ∨ j = i := fun j => orBit s.D i j
          refine { sz := hi.sz, sub := fun j hj => (hbits j).2 (.inl (hi.sub j hj)), rest := ?_, down := hi.down, tsz := hi.tsz, env := ?_, ds := hi.ds, sim := hsim, ext := hi.ext, num := Nat.le_trans hi.num hmono, lt := ?_, ghost := ?_, pair := ?_, pend := ?_, fresh := ?_, nodup := ?_ }
          · intro j hj
            rcases (hbits j).1 hj with hj | rfl
            · rcases hi.rest j hj with h1 | ⟨id', h1⟩
              · exact .inl h1
              · exact .inr ⟨id', by simp [h1]⟩
            · exact .inr ⟨id, by simp⟩
          · intro t u hu
            dsimp only at hu
            rw [slotD_not hnd] at hu
            exact hi.env t u hu
          · intro p hp
            rcases List.mem_cons.1 hp with rfl | hp
            · refine ⟨hlt, (hbits i).2 (.inr rfl), hid, fun e => Nat.lt_of_le_of_lt hi.num (hghost e).1, o, ho, hE, fun j hj => (hbits j).2 (.inl (subM_bit hsub hj)), ?_⟩
              cases hb : (depMask o).testBit i with
              | false => rfl
              | true => have := subM_bit hsub hb; rw [hD] at this; cases this
            · obtain ⟨h1, h2, h3, h4, o', h5, h6, h7, h8⟩ := hi.lt p hp
              exact ⟨h1, (hbits _).2 (.inl h2), Nat.le_trans h3 hmono, h4, o', h5, h6, fun j hj => (hbits j).2 (.inl (h7 j hj)), h8⟩
          · intro p hp hnp h0
            rcases List.mem_cons.1 hp with rfl | hp
            · exact (hghost h0).2
            · exact hi.ghost p hp hnp h0
          · refine List.Pairwise.cons ?_ hi.pair
            intro q hq'
            obtain ⟨h1, h2, h3, h4, o', h5, h6, h7, h8⟩ := hi.lt q hq'
            refine ⟨fun e => ?_, fun e1 e2 => ?_, fun o2 ho2 => ?_⟩
            · rw [← e, hD] at h2; cases h2
            · have := (hghost e1).1; omega
            · rw [h5] at ho2; cases ho2
              cases hb : (depMask o').testBit i with
              | false => rfl
              | true => have := h7 i hb; rw [hD] at this; cases this
          · intro j hj
            rcases hi.pend j hj with h1 | h1 | h1
            · exact .inl ((hbits j).2 (.inl h1))
            · exact .inr (.inl h1)
            · rcases List.mem_cons.1 h1 with rfl | h1
              · exact .inl ((hbits _).2 (.inr rfl))
              · exact .inr (.inr h1)
          · intro j hj
            have hj' : j ∈ s.pend ∨ j ∈ i :: l := by rcases hj with h1 | h1; exact .inl h1; exact .inr (by simp [h1])
            obtain ⟨h1, h2⟩ := hi.fresh j hj'
            refine ⟨h1, ?_⟩
            cases hb : (s.D ||| 2 ^ i).testBit j with
            | false => rfl
            | true =>
              rcases (hbits j).1 hb with h3 | rfl
              · rw [h2] at h3; cases h3
              · exfalso
                rw [List.nodup_append] at hnod
                rcases hj with h3 | h3
                · exact hnod.2.2 j h3 j (by simp) rfl
                · exact (List.nodup_cons.1 hnod.2.1).1 h3
          · rw [List.nodup_append] at hnod ⊢
            refine ⟨hnod.1, (List.nodup_cons.1 hnod.2.1).2, fun x hx y hy => hnod.2.2 x hx y (by simp [hy])⟩
        · cases h
      · refine ih _ _ h ?_
        refine { sz := hi.sz, sub := hi.sub, rest := hi.rest, down := hi.down, tsz := hi.tsz, env := hi.env, ds := hi.ds, sim := hi.sim, ext := hi.ext, num := hi.num, lt := hi.lt, ghost := hi.ghost, pair := hi.pair, pend := ?_, fresh := ?_, nodup := ?_ }
        · intro j hj
          rcases hi.pend j hj with h1 | h1 | h1
          · exact .inl h1
          · exact .inr (.inl (by simp [h1]))
          · rcases List.mem_cons.1 h1 with rfl | h1
            · exact .inr (.inl (by simp))
            · exact .inr (.inr h1)
        · intro j hj
          refine hi.fresh j ?_
          rcases hj with h1 | h1
          · simp only [List.mem_append, List.mem_singleton] at h1
            rcases h1 with h1 | rfl
            · exact .inl h1
            · exact .inr (by simp)
          · exact .inr (by simp [h1])
        · simpa [List.append_assoc] using hnod
end

end
end Go.Proofs.YtpmjpieiajdcgaaGreat
