/- PE, part 16: a region in whatever order: what one order gives, every order gives. -/
import Derived.Test.YtpmjpieiajdcgaaGreatPeSound3
namespace Go.Proofs.YtpmjpieiajdcgaaGreat
open Go Go.RowKit
noncomputable section

/-! ## Equal by sight -/

theorem list_zip_eq {f : Value → Value → Bool} (hf : ∀ a b, f a b = true → a = b) : ∀ (l m : List Value), (l.length == m.length && (l.zip m).all fun p => f p.1 p.2) = true → l = m := by
  intro l
  induction l with
  | nil => intro m h; cases m with
    | nil => rfl
    | cons => simp at h
  | cons a l ih =>
    intro m h
    cases m with
    | nil => simp at h
    | cons b m =>
      simp only [List.length_cons, List.zip_cons_cons, List.all_cons, Bool.and_eq_true, beq_iff_eq, Nat.add_right_cancel_iff] at h
      rw [hf _ _ h.2.1, ih m (by simp only [Bool.and_eq_true, beq_iff_eq]; exact ⟨h.1, h.2.2⟩)]
theorem array_zip_eq {f : Value → Value → Bool} (hf : ∀ a b, f a b = true → a = b) (l m : Array Value) (h : (l.toList.length == m.toList.length && (l.toList.zip m.toList).all fun p => f p.1 p.2) = true) : l = m :=
  Array.ext' (list_zip_eq hf _ _ h)
theorem bytes_eq {a b : ByteArray} (h : (a.data.toList == b.data.toList) = true) : a = b := by
  apply ByteArray.ext
  apply Array.ext'
  simpa using h

theorem veq_eq : ∀ (n : Nat) (a b : Value), veq n a b = true → a = b := by
  intro n
  induction n with
  | zero =>
    intro a b h
    cases a <;> cases b <;> simp only [veq, Bool.and_eq_true, beq_iff_eq, Bool.false_eq_true] at h <;>
      first
        | rfl
        | exact h.elim
        | (rw [h])
        | (obtain ⟨h1, h2⟩ := h; rw [h1, h2])
        | (obtain ⟨⟨h1, h2⟩, h3⟩ := h; rw [h1, h2, h3])
        | (exact congrArg Value.string (bytes_eq (by simpa using h)))
  | succ n ih =>
    intro a b h
    cases a <;> cases b <;> simp only [veq] at h <;>
      first
        | rfl
        | (cases h; done)
        | (rw [array_zip_eq ih _ _ h])
        | (simp only [Bool.and_eq_true, beq_iff_eq] at h; first
            | (rw [h])
            | (obtain ⟨h1, h2⟩ := h; rw [h1, ih _ _ h2])
            | (obtain ⟨h1, h2⟩ := h; rw [h1, h2])
            | (obtain ⟨⟨h1, h2⟩, h3⟩ := h; rw [h1, h2, h3])
            | (obtain ⟨⟨h1, h2⟩, h3⟩ := h; have h4 := array_zip_eq ih _ _ (Bool.and_eq_true_iff.2 ⟨beq_iff_eq.2 h2.1, h2.2⟩); have h5 := array_zip_eq ih _ _ (Bool.and_eq_true_iff.2 ⟨beq_iff_eq.2 h3.1, h3.2⟩); rw [h1, h4, h5])
            | (exact congrArg Value.string (bytes_eq (by simpa using h))))
theorem lveq_eq {a b : List Value} (h : lveq a b = true) : a = b := list_zip_eq (veq_eq 4) a b h

theorem treq_eq {α : Type} {f : α → α → Bool} (hf : ∀ x y, f x y = true → x = y) : ∀ (a b : Tr α), treq f a b = true → a = b := by
  intro a
  induction a with
  | e => intro b h; cases b with
    | e => rfl
    | n => simp [treq] at h
  | n l v r ihl ihr =>
    intro b h
    cases b with
    | e => simp [treq] at h
    | n l' v' r' =>
      simp only [treq, Bool.and_eq_true] at h
      rw [ihl _ h.1.2, ihr _ h.2]
      congr 1
      have h1 := h.1.1
      cases v <;> cases v' <;> simp only at h1
      · rfl
      · cases h1
      · cases h1
      · rw [hf _ _ h1]
theorem beqB_eq (a b : Blk) (h : beqB a b = true) : a = b := by
  cases a <;> cases b <;> simp only [beqB, Bool.and_eq_true, beq_iff_eq, Bool.false_eq_true] at h
  · obtain ⟨⟨⟨h1, h2⟩, h3⟩, h4⟩ := h
    rw [h1, h2, h3, lveq_eq h4]
  · obtain ⟨h1, h2⟩ := h
    rw [h1]
    exact congrArg (Blk.iter · _) (bytes_eq (by simpa using h2))
theorem beqC_eq (a b : Cls) (h : beqC a b = true) : a = b := by
  cases a; cases b
  simp only [beqC, Bool.and_eq_true, beq_iff_eq] at h
  obtain ⟨⟨⟨h1, h2⟩, h3⟩, h4⟩ := h
  simp_all
theorem beqH_eq (a b : Hp) (h : beqH a b = true) : a = b := by
  obtain ⟨ab, an, ak⟩ := a
  obtain ⟨bb, bn, bk⟩ := b
  simp only [beqH, Bool.and_eq_true, beq_iff_eq] at h
  obtain ⟨⟨h1, h2⟩, h3⟩ := h
  rw [h1, treq_eq beqC_eq _ _ h2, treq_eq beqB_eq _ _ h3]

/-! ## What is ahead of what -/

theorem depMask_bit (o : Oper) (j : Nat) : (depMask o).testBit j = true ↔ ∃ e ∈ o.after.toList, Region.binds .any e = true ∧ e.on = j := by
  have key : ∀ (l : List Edge) (m : Nat), (l.foldl (fun m e => if Region.binds .any e then m ||| 2 ^ e.on else m) m).testBit j = true ↔ m.testBit j = true ∨ ∃ e ∈ l, Region.binds .any e = true ∧ e.on = j := by
    intro l
    induction l with
    | nil => intro m; simp
    | cons e l ih =>
      intro m
      rw [List.foldl_cons, ih]
      by_cases hb : Region.binds .any e = true
      · rw [if_pos hb, Nat.testBit_or, Nat.testBit_two_pow]
        simp only [Bool.or_eq_true, decide_eq_true_eq, List.mem_cons, exists_eq_or_imp]
        constructor
        · rintro ((h | h) | h)
          · exact .inl h
          · exact .inr (.inl ⟨hb, h⟩)
          · exact .inr (.inr h)
        · rintro (h | ⟨_, h⟩ | h)
          · exact .inl (.inl h)
          · exact .inl (.inr h)
          · exact .inr h
      · rw [if_neg hb]
        simp only [List.mem_cons, exists_eq_or_imp]
        constructor
        · rintro (h | h)
          · exact .inl h
          · exact .inr (.inr h)
        · rintro (h | ⟨h, _⟩ | h)
          · exact .inl h
          · exact absurd h hb
          · exact .inr h
  unfold depMask
  rw [key]
  simp
theorem subM_bit {a b j : Nat} (h : subM a b = true) (ha : a.testBit j = true) : b.testBit j = true := by
  simp only [subM, beq_iff_eq] at h
  rw [← h, Nat.testBit_and] at ha
  simp only [Bool.and_eq_true] at ha
  exact ha.2
theorem subM_of {a b : Nat} (h : ∀ j, a.testBit j = true → b.testBit j = true) : subM a b = true := by
  simp only [subM, beq_iff_eq]
  apply Nat.eq_of_testBit_eq
  intro j
  rw [Nat.testBit_and]
  cases ha : a.testBit j with
  | false => rfl
  | true => rw [h j ha]; rfl
theorem orBit (D i j : Nat) : (D ||| 2 ^ i).testBit j = true ↔ D.testBit j = true ∨ j = i := by
  rw [Nat.testBit_or, Nat.testBit_two_pow]
  simp only [Bool.or_eq_true, decide_eq_true_eq]
  constructor
  · rintro (h | h)
    · exact .inl h
    · exact .inr h.symm
  · rintro (h | h)
    · exact .inl h
    · exact .inr h.symm

/-- Done by the machine. -/
def Did (listed : Array Bool) (j : Nat) : Prop := listed.getD j false = true

theorem ready_spec {ops : Array Oper} {listed : Array Bool} (hsz : listed.size = ops.size) (i : Nat) : i ∈ Region.ready .any ops listed ↔ i < ops.size ∧ ¬ Did listed i ∧ ∃ o, ops[i]? = some o ∧ ∀ j, (depMask o).testBit j = true → Did listed j := by
  unfold Region.ready
  simp only [List.mem_filter, List.mem_range, Bool.and_eq_true, Bool.not_eq_true']
  constructor
  · rintro ⟨h1, h2, h3⟩
    obtain ⟨o, ho⟩ : ∃ o, ops[i]? = some o := ⟨_, Array.getElem?_eq_getElem h1⟩
    refine ⟨h1, ?_, o, ho, fun j hj => ?_⟩
    · unfold Did
      have hi : i < listed.size := by omega
      rw [Array.getD_eq_getD_getElem?, Array.getElem?_eq_getElem hi] at h2 ⊢
      simp only [Option.getD_some] at h2 ⊢
      rw [h2]; decide
    · rw [ho] at h3
      simp only [Option.map_some, Option.getD_some] at h3
      obtain ⟨e, he, hb, rfl⟩ := (depMask_bit o j).1 hj
      have := (Array.all_eq_true'.1 h3) e (Array.mem_toList_iff.1 he)
      simp only [hb, Bool.not_true, Bool.false_or] at this
      exact this
  · rintro ⟨h1, h2, o, ho, h3⟩
    refine ⟨h1, ?_, ?_⟩
    · unfold Did at h2
      have hi : i < listed.size := by omega
      rw [Array.getD_eq_getD_getElem?, Array.getElem?_eq_getElem hi] at h2 ⊢
      simp only [Option.getD_some] at h2 ⊢
      simpa using h2
    · rw [ho]
      simp only [Option.map_some, Option.getD_some]
      refine Array.all_eq_true'.2 fun e he => ?_
      by_cases hb : Region.binds .any e = true
      · have := h3 e.on ((depMask_bit o e.on).2 ⟨e, Array.mem_toList_iff.2 he, hb, rfl⟩)
        simp only [hb, Bool.not_true, Bool.false_or]
        exact this
      · simp [hb]

theorem did_set {listed : Array Bool} {i j : Nat} (hi : i < listed.size) : Did (listed.setIfInBounds i true) j ↔ j = i ∨ Did listed j := by
  unfold Did
  rw [Array.getD_eq_getD_getElem?, Array.getElem?_setIfInBounds, Array.getD_eq_getD_getElem?]
  by_cases h : i = j
  · subst h; simp [hi]
  · rw [if_neg h]
    constructor
    · intro h'; exact .inr h'
    · rintro (rfl | h')
      · exact absurd rfl h
      · exact h'

/-- How many are to be done. -/
def toDo (N : Nat) (listed : Array Bool) : Nat := ((List.range N).filter fun j => !listed.getD j false).length
theorem toDo_set {N : Nat} {listed : Array Bool} {i : Nat} (hsz : listed.size = N) (hi : i < N) (hn : ¬ Did listed i) : toDo N (listed.setIfInBounds i true) < toDo N listed := by
  unfold toDo
  have hsub : ((List.range N).filter fun j => !(listed.setIfInBounds i true).getD j false) = ((List.range N).filter fun j => !listed.getD j false).filter fun j => decide (j ≠ i) := by
    rw [List.filter_filter]
    apply List.filter_congr
    intro j _
    have := did_set (listed := listed) (i := i) (j := j) (by omega)
    unfold Did at this
    cases h1 : (listed.setIfInBounds i true).getD j false <;> cases h2 : listed.getD j false <;> by_cases hj : j = i <;> simp_all
  rw [hsub]
  apply List.length_filter_lt_length_iff_exists.2
  refine ⟨i, ?_, by simp⟩
  unfold Did at hn
  simp only [List.mem_filter, List.mem_range]
  exact ⟨hi, by simpa using hn⟩
theorem toDo_zero {N : Nat} {listed : Array Bool} (h : toDo N listed = 0) : ∀ j, j < N → Did listed j := by
  intro j hj
  unfold toDo at h
  have h := List.eq_nil_of_length_eq_zero h
  have := (List.filter_eq_nil_iff.1 h) j (List.mem_range.2 hj)
  unfold Did
  simpa using this

theorem closeM_did {ops : Array Oper} {listed : Array Bool} (hdown : ∀ j o, ops[j]? = some o → Did listed j → ∀ i, (depMask o).testBit i = true → Did listed i) :
    ∀ (k m : Nat), (∀ j, m.testBit j = true → Did listed j) → ∀ j, (closeM (ops.toList.map depMask) m k).testBit j = true → Did listed j := by
  intro k
  induction k with
  | zero => intro m h; exact h
  | succ k ih =>
    intro m h
    simp only [closeM]
    refine ih _ ?_
    have key : ∀ (l : List (Nat × Nat)), (∀ p ∈ l, ∃ o, ops[p.2]? = some o ∧ p.1 = depMask o) → ∀ (m : Nat), (∀ j, m.testBit j = true → Did listed j) →
        ∀ j, (l.foldr (fun (p : Nat × Nat) (a : Nat) => if a.testBit p.2 then a ||| p.1 else a) m).testBit j = true → Did listed j := by
      intro l
      induction l with
      | nil => intro _ m h; exact h
      | cons p l ihl =>
        intro hl m h j hj
        rw [List.foldr_cons] at hj
        have h := ihl (fun q hq => hl q (by simp [hq])) m h
        split at hj
        · rename_i hb
          rw [Nat.testBit_or] at hj
          simp only [Bool.or_eq_true] at hj
          rcases hj with hj | hj
          · exact h j hj
          · obtain ⟨o, ho, hp⟩ := hl p (by simp)
            rw [hp] at hj
            exact hdown p.2 o ho (h p.2 hb) j hj
        · exact h j hj
    refine key _ ?_ m h
    intro p hp
    obtain ⟨x, i⟩ := p
    have := List.mem_zipIdx_iff_getElem?.1 hp
    simp only at this
    rw [List.getElem?_map] at this
    cases ho : ops.toList[i]? with
    | none => rw [ho] at this; cases this
    | some o =>
      rw [ho] at this
      simp only [Option.map_some, Option.some.injEq] at this
      exact ⟨o, by rw [← Array.getElem?_toList]; exact ho, this.symm⟩

end
end Go.Proofs.YtpmjpieiajdcgaaGreat
