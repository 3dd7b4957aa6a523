/- PE, part 1: a memory of plain lists with numbered rows, and what it tells of the machine's memory. -/
import Derived.Recover
import Derived.Orders
import Derived.Below
import Derived.KernelRfl
namespace Go.Proofs.YtpmjpieiajdcgaaGreat
open Go Go.RowKit

/-! ## A table with numbers as keys -/

inductive Tr (α : Type) where
  | e : Tr α
  | n (l : Tr α) (v : Option α) (r : Tr α) : Tr α

theorem nbeq (a b : Nat) : Nat.beq a b = (a == b) := by rw [Bool.eq_iff_iff, Nat.beq_eq]; simp

namespace Tr
variable {α : Type}
noncomputable def get (t : Tr α) : Nat → Option α :=
  Tr.rec (motive := fun _ => Nat → Option α) (fun _ => none)
    (fun _ v _ gl gr k => Bool.rec (motive := fun _ => Option α) (Bool.rec (motive := fun _ => Option α) (gr (Nat.sub (Nat.div k 2) 1)) (gl (Nat.div k 2)) (Nat.beq (Nat.mod k 2) 1)) v (Nat.beq k 0)) t
theorem get_n (l : Tr α) (v : Option α) (r : Tr α) (k : Nat) : (Tr.n l v r).get k = if k == 0 then v else if k % 2 == 1 then l.get (k / 2) else r.get (k / 2 - 1) := by
  show Bool.rec (motive := fun _ => Option α) (Bool.rec (motive := fun _ => Option α) (r.get (k / 2 - 1)) (l.get (k / 2)) (Nat.beq (k % 2) 1)) v (Nat.beq k 0) = _
  have h0 := nbeq k 0
  have h1 := nbeq (k % 2) 1
  rw [h0, h1]
  cases (k == 0) <;> cases (k % 2 == 1) <;> rfl
noncomputable def setF (x : α) (f : Nat) : Tr α → Nat → Tr α :=
  Nat.rec (motive := fun _ => Tr α → Nat → Tr α) (fun t _ => t)
    (fun _ ih t k => Tr.rec (motive := fun _ => Tr α)
      (Bool.rec (motive := fun _ => Tr α) (Bool.rec (motive := fun _ => Tr α) (.n .e none (ih .e (Nat.sub (Nat.div k 2) 1))) (.n (ih .e (Nat.div k 2)) none .e) (Nat.beq (Nat.mod k 2) 1)) (.n .e (some x) .e) (Nat.beq k 0))
      (fun l v r _ _ => Bool.rec (motive := fun _ => Tr α) (Bool.rec (motive := fun _ => Tr α) (.n l v (ih r (Nat.sub (Nat.div k 2) 1))) (.n (ih l (Nat.div k 2)) v r) (Nat.beq (Nat.mod k 2) 1)) (.n l (some x) r) (Nat.beq k 0)) t) f
theorem setF_z (x : α) (t : Tr α) (k : Nat) : setF x 0 t k = t := rfl
theorem setF_e (x : α) (f k : Nat) : setF x (f + 1) .e k = if k == 0 then .n .e (some x) .e
    else if k % 2 == 1 then .n (setF x f .e (k / 2)) none .e else .n .e none (setF x f .e (k / 2 - 1)) := by
  show Bool.rec (motive := fun _ => Tr α) (Bool.rec (motive := fun _ => Tr α) (.n .e none (setF x f .e (k / 2 - 1))) (.n (setF x f .e (k / 2)) none .e) (Nat.beq (k % 2) 1)) (.n .e (some x) .e) (Nat.beq k 0) = _
  have h0 := nbeq k 0
  have h1 := nbeq (k % 2) 1
  rw [h0, h1]
  cases (k == 0) <;> cases (k % 2 == 1) <;> rfl
theorem setF_n (x : α) (f k : Nat) (l : Tr α) (v : Option α) (r : Tr α) : setF x (f + 1) (.n l v r) k = if k == 0 then .n l (some x) r
    else if k % 2 == 1 then .n (setF x f l (k / 2)) v r else .n l v (setF x f r (k / 2 - 1)) := by
  show Bool.rec (motive := fun _ => Tr α) (Bool.rec (motive := fun _ => Tr α) (.n l v (setF x f r (k / 2 - 1))) (.n (setF x f l (k / 2)) v r) (Nat.beq (k % 2) 1)) (.n l (some x) r) (Nat.beq k 0) = _
  have h0 := nbeq k 0
  have h1 := nbeq (k % 2) 1
  rw [h0, h1]
  cases (k == 0) <;> cases (k % 2 == 1) <;> rfl
noncomputable def set (t : Tr α) (k : Nat) (x : α) : Tr α := setF x (k + 1) t k

@[simp] theorem get_e (k : Nat) : (Tr.e : Tr α).get k = none := rfl

theorem get_setF (x : α) : ∀ (f : Nat) (t : Tr α) (k j : Nat), k < f → (setF x f t k).get j = if j = k then some x else t.get j := by
  intro f
  induction f with
  | zero => intro t k j h; omega
  | succ f ih =>
    intro t k j h
    cases t with
    | e =>
      simp only [setF_e, beq_iff_eq]
      by_cases h0 : k = 0
      · subst h0
        simp only [if_true, get_n, get_e, beq_iff_eq]
        split <;> simp_all
      · rw [if_neg h0]
        by_cases h1 : k % 2 = 1
        · rw [if_pos h1]
          simp only [get_n, beq_iff_eq]
          rw [ih _ _ _ (by omega)]
          simp only [get_e]
          repeat' split
          all_goals first | rfl | omega
        · rw [if_neg h1]
          simp only [get_n, beq_iff_eq]
          rw [ih _ _ _ (by omega)]
          simp only [get_e]
          repeat' split
          all_goals first | rfl | omega
    | n l v r =>
      simp only [setF_n, beq_iff_eq]
      by_cases h0 : k = 0
      · subst h0
        simp only [if_true, get_n, beq_iff_eq]
        split <;> simp_all
      · rw [if_neg h0]
        by_cases h1 : k % 2 = 1
        · rw [if_pos h1]
          simp only [get_n, beq_iff_eq]
          rw [ih _ _ _ (by omega)]
          repeat' split
          all_goals first | rfl | omega
        · rw [if_neg h1]
          simp only [get_n, beq_iff_eq]
          rw [ih _ _ _ (by omega)]
          repeat' split
          all_goals first | rfl | omega
theorem get_set (t : Tr α) (k j : Nat) (x : α) : (t.set k x).get j = if j = k then some x else t.get j := get_setF x (k + 1) t k j (by omega)
@[simp] theorem get_set_self (t : Tr α) (k : Nat) (x : α) : (t.set k x).get k = some x := by simp [get_set]
theorem get_set_ne (t : Tr α) {k j : Nat} (x : α) (h : j ≠ k) : (t.set k x).get j = t.get j := by simp [get_set, h]
end Tr

/-! ## Values here and there: rows have numbers of their own; a slice's capacity here is a least one. -/

/-- Where a row lies in the machine: its block, its first cell there, how many cells the block has, how many cells an element has. -/
structure Loc where
  b : Nat
  s : Nat
  R : Nat
  z : Nat
abbrev Mu := Nat → Option Loc

def isFlat : Value → Bool
  | .bool _ | .int _ _ | .float _ _ | .complex _ _ _ | .string _ | .nilFunc | .nilIface => true
  | .pointer none | .slice none _ _ | .map none | .chan none => true
  | .tuple vs => vs.isEmpty
  | _ => false

inductive VRel (μ : Mu) : Value → Value → Prop
  | flat {v : Value} (h : isFlat v = true) : VRel μ v v
  | ptr {i o : Nat} {x : Loc} (h : μ i = some x) : VRel μ (.pointer (some ⟨i, o, none⟩)) (.pointer (some ⟨x.b, o + x.s, none⟩))
  | sl {i o n c c' : Nat} {x : Loc} (h : μ i = some x) (hc : c ≤ c') (hR : o + x.s + c' * x.z ≤ x.R) : VRel μ (.slice (some ⟨i, o, none⟩) n c) (.slice (some ⟨x.b, o + x.s, none⟩) n c')
  | slx {i o n c : Nat} {x : Loc} (h : μ i = some x) : VRel μ (.slice (some ⟨i, o, some 0⟩) n c) (.slice (some ⟨x.b, o + x.s, none⟩) n c)
  | sle {i o c' : Nat} {p : Addr} {x : Loc} (h : μ i = some x) (hp : c' = 0 ∨ (p = ⟨x.b, o + x.s, none⟩ ∧ o + x.s + c' * x.z ≤ x.R)) : VRel μ (.slice (some ⟨i, o, some 1⟩) 0 0) (.slice (some p) 0 c')
  | map {r : Nat} {x : Loc} (h : μ r = some x) (hs : x.s = 0) : VRel μ (.map (some r)) (.map (some x.b))
  | func {fn : Fn} {f f' c c' : Array Value} (h1 : f.toList.length = f'.toList.length) (h2 : ∀ i, VRel μ (f.toList.getD i undef) (f'.toList.getD i undef))
      (h3 : c.toList.length = c'.toList.length) (h4 : ∀ i, VRel μ (c.toList.getD i undef) (c'.toList.getD i undef)) : VRel μ (.func fn f c) (.func fn f' c')
  | iface {t : TypeId} {v v' : Value} (h : VRel μ v v') : VRel μ (.iface t v) (.iface t v')
  | agg {c c' : Array Value} (h1 : c.toList.length = c'.toList.length) (h2 : ∀ i, VRel μ (c.toList.getD i undef) (c'.toList.getD i undef)) : VRel μ (.agg c) (.agg c')
  | tup {c c' : Array Value} (h1 : c.toList.length = c'.toList.length) (h2 : ∀ i, VRel μ (c.toList.getD i undef) (c'.toList.getD i undef)) : VRel μ (.tuple c) (.tuple c')

theorem VRel.ofUndef (μ : Mu) : VRel μ undef undef := .flat rfl

/-- Rows of values. -/
def LRel (μ : Mu) (l l' : List Value) : Prop := l.length = l'.length ∧ ∀ i, VRel μ (l.getD i undef) (l'.getD i undef)

/-- More rows are known. -/
def Mu.Le (μ ν : Mu) : Prop := ∀ i x, μ i = some x → ν i = some x
theorem Mu.Le.refl (μ : Mu) : μ.Le μ := fun _ _ h => h
theorem Mu.Le.trans {a b c : Mu} (h : a.Le b) (k : b.Le c) : a.Le c := fun i x e => k i x (h i x e)

theorem VRel.mono {μ ν : Mu} (h : μ.Le ν) {v v' : Value} (r : VRel μ v v') : VRel ν v v' := by
  induction r with
  | flat h1 => exact .flat h1
  | ptr h1 => exact .ptr (h _ _ h1)
  | sl h1 hc hR => exact .sl (h _ _ h1) hc hR
  | slx h1 => exact .slx (h _ _ h1)
  | sle h1 hp => exact .sle (h _ _ h1) hp
  | map h1 hs => exact .map (h _ _ h1) hs
  | func h1 _ h3 _ ih1 ih2 => exact .func h1 ih1 h3 ih2
  | iface _ ih => exact .iface ih
  | agg h1 _ ih => exact .agg h1 ih
  | tup h1 _ ih => exact .tup h1 ih

theorem LRel.mono {μ ν : Mu} (h : μ.Le ν) {l l' : List Value} (r : LRel μ l l') : LRel ν l l' := ⟨r.1, fun i => (r.2 i).mono h⟩
theorem LRel.nil (μ : Mu) : LRel μ [] [] := ⟨rfl, fun _ => .ofUndef μ⟩
theorem LRel.cons {μ : Mu} {v v' : Value} {l l' : List Value} (h : VRel μ v v') (r : LRel μ l l') : LRel μ (v :: l) (v' :: l') :=
  ⟨by simp [r.1], fun i => by cases i with | zero => simpa using h | succ i => simpa using r.2 i⟩
theorem LRel.cons_inv {μ : Mu} {v : Value} {l m : List Value} (r : LRel μ (v :: l) m) : ∃ v' l', m = v' :: l' ∧ VRel μ v v' ∧ LRel μ l l' := by
  cases m with
  | nil => have := r.1; simp at this
  | cons v' l' => exact ⟨v', l', rfl, by simpa using r.2 0, by have := r.1; simpa using this, fun i => by simpa using r.2 (i + 1)⟩
theorem LRel.nil_inv {μ : Mu} {m : List Value} (r : LRel μ [] m) : m = [] := by
  cases m with
  | nil => rfl
  | cons => have := r.1; simp at this
theorem getD_eq_getElem? (l : List Value) (i : Nat) : l.getD i undef = (l[i]?).getD undef := by simp [List.getD]
theorem LRel.get? {μ : Mu} {l l' : List Value} (r : LRel μ l l') {i : Nat} {v : Value} (h : l[i]? = some v) : ∃ v', l'[i]? = some v' ∧ VRel μ v v' := by
  obtain ⟨hi, hv⟩ := List.getElem?_eq_some_iff.1 h
  have hi' : i < l'.length := r.1 ▸ hi
  refine ⟨l'[i], by simp, ?_⟩
  have := r.2 i
  simpa [List.getD, hi, hi', hv] using this
theorem LRel.append {μ : Mu} {a a' b b' : List Value} (h : LRel μ a a') (k : LRel μ b b') : LRel μ (a ++ b) (a' ++ b') := by
  induction a generalizing a' with
  | nil => rw [h.nil_inv]; simpa using k
  | cons v l ih =>
    obtain ⟨v', l', rfl, hv, hl⟩ := h.cons_inv
    exact (ih hl).cons hv
theorem LRel.take {μ : Mu} {a a' : List Value} (h : LRel μ a a') (n : Nat) : LRel μ (a.take n) (a'.take n) := by
  induction a generalizing a' n with
  | nil => rw [h.nil_inv]; simpa using LRel.nil μ
  | cons v l ih =>
    obtain ⟨v', l', rfl, hv, hl⟩ := h.cons_inv
    cases n with
    | zero => simpa using LRel.nil μ
    | succ n => simpa using (ih hl n).cons hv
theorem LRel.drop {μ : Mu} {a a' : List Value} (h : LRel μ a a') (n : Nat) : LRel μ (a.drop n) (a'.drop n) := by
  induction n generalizing a a' with
  | zero => simpa using h
  | succ n ih =>
    cases a with
    | nil => rw [h.nil_inv]; simpa using LRel.nil μ
    | cons v l =>
      obtain ⟨v', l', rfl, hv, hl⟩ := h.cons_inv
      simpa using ih hl
theorem LRel.set {μ : Mu} {a a' : List Value} (h : LRel μ a a') (n : Nat) {v v' : Value} (hv : VRel μ v v') : LRel μ (a.set n v) (a'.set n v') := by
  induction a generalizing a' n with
  | nil => rw [h.nil_inv]; simpa using LRel.nil μ
  | cons x l ih =>
    obtain ⟨x', l', rfl, hx, hl⟩ := h.cons_inv
    cases n with
    | zero => simpa using hl.cons hv
    | succ n => simpa using (ih hl n).cons hx
/-- Values without addresses: the same here and there. -/
def flatD : Nat → Value → Bool
  | n + 1, .agg cs => cs.toList.all (flatD n)
  | n + 1, .tuple cs => cs.toList.all (flatD n)
  | n + 1, .iface _ v => flatD n v
  | _, v => isFlat v
theorem LRel.flat {μ : Mu} {f : Value → Bool} (hf : ∀ v v', f v = true → VRel μ v v' → v' = v) : ∀ {l l' : List Value}, LRel μ l l' → l.all f = true → l' = l := by
  intro l
  induction l with
  | nil => intro l' r _; exact r.nil_inv
  | cons x l ih =>
    intro l' r h
    obtain ⟨x', l'', rfl, hx, hl⟩ := r.cons_inv
    simp only [List.all_cons, Bool.and_eq_true] at h
    rw [hf _ _ h.1 hx, ih hl h.2]
theorem VRel.isFlat_eq {μ : Mu} {v v' : Value} (h : isFlat v = true) (r : VRel μ v v') : v' = v := by
  cases r with
  | flat _ => rfl
  | tup h1 h2 =>
    rename_i c c'
    simp only [isFlat] at h
    obtain ⟨l⟩ := c; obtain ⟨l'⟩ := c'
    have : l = [] := by simpa using h
    subst this
    have : l' = [] := List.eq_nil_of_length_eq_zero (by simpa using h1.symm)
    subst this; rfl
  | _ => simp [isFlat] at h
theorem VRel.flatD_eq {μ : Mu} : ∀ (n : Nat) {v v' : Value}, flatD n v = true → VRel μ v v' → v' = v := by
  intro n
  induction n with
  | zero => intro v v' h r; exact r.isFlat_eq (by cases v <;> simpa [flatD] using h)
  | succ n ih =>
    intro v v' h r
    cases r with
    | flat _ => rfl
    | agg h1 h2 =>
      rename_i c c'
      obtain ⟨l⟩ := c; obtain ⟨l'⟩ := c'
      have := LRel.flat (μ := μ) (f := flatD n) (fun v v' hv r => ih hv r) (l := l) (l' := l') ⟨h1, h2⟩ (by simpa [flatD] using h)
      rw [this]
    | tup h1 h2 =>
      rename_i c c'
      obtain ⟨l⟩ := c; obtain ⟨l'⟩ := c'
      have := LRel.flat (μ := μ) (f := flatD n) (fun v v' hv r => ih hv r) (l := l) (l' := l') ⟨h1, h2⟩ (by simpa [flatD] using h)
      rw [this]
    | iface hv => rw [ih (by simpa [flatD] using h) hv]
    | _ => simp [flatD, isFlat] at h

end Go.Proofs.YtpmjpieiajdcgaaGreat
