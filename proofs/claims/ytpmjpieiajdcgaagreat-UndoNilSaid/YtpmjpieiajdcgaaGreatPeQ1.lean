/- PE, part 19: registers, for the kernel's evaluation. -/
import Derived.Test.YtpmjpieiajdcgaaGreatPeEval
namespace Go.Proofs.YtpmjpieiajdcgaaGreat
open Go Go.RowKit
noncomputable section

/-- What is reckoned once. -/
inductive Box (α : Type) where
  | mk (x : α)
def Box.x {α : Type} : Box α → α
  | .mk x => x

/-- Sixteen registers. -/
inductive R16 (α : Type) where
  | mk (a0 a1 a2 a3 a4 a5 a6 a7 a8 a9 aa ab ac ad ae af : α)

namespace R16
variable {α : Type}

/-- Reads one. -/
def sel : Nat → Box (R16 α → α)
  | 0 => .mk fun e => R16.rec (motive := fun _ => α) (fun a0 _ _ _ _ _ _ _ _ _ _ _ _ _ _ _ => a0) e
  | 1 => .mk fun e => R16.rec (motive := fun _ => α) (fun _ a1 _ _ _ _ _ _ _ _ _ _ _ _ _ _ => a1) e
  | 2 => .mk fun e => R16.rec (motive := fun _ => α) (fun _ _ a2 _ _ _ _ _ _ _ _ _ _ _ _ _ => a2) e
  | 3 => .mk fun e => R16.rec (motive := fun _ => α) (fun _ _ _ a3 _ _ _ _ _ _ _ _ _ _ _ _ => a3) e
  | 4 => .mk fun e => R16.rec (motive := fun _ => α) (fun _ _ _ _ a4 _ _ _ _ _ _ _ _ _ _ _ => a4) e
  | 5 => .mk fun e => R16.rec (motive := fun _ => α) (fun _ _ _ _ _ a5 _ _ _ _ _ _ _ _ _ _ => a5) e
  | 6 => .mk fun e => R16.rec (motive := fun _ => α) (fun _ _ _ _ _ _ a6 _ _ _ _ _ _ _ _ _ => a6) e
  | 7 => .mk fun e => R16.rec (motive := fun _ => α) (fun _ _ _ _ _ _ _ a7 _ _ _ _ _ _ _ _ => a7) e
  | 8 => .mk fun e => R16.rec (motive := fun _ => α) (fun _ _ _ _ _ _ _ _ a8 _ _ _ _ _ _ _ => a8) e
  | 9 => .mk fun e => R16.rec (motive := fun _ => α) (fun _ _ _ _ _ _ _ _ _ a9 _ _ _ _ _ _ => a9) e
  | 10 => .mk fun e => R16.rec (motive := fun _ => α) (fun _ _ _ _ _ _ _ _ _ _ aa _ _ _ _ _ => aa) e
  | 11 => .mk fun e => R16.rec (motive := fun _ => α) (fun _ _ _ _ _ _ _ _ _ _ _ ab _ _ _ _ => ab) e
  | 12 => .mk fun e => R16.rec (motive := fun _ => α) (fun _ _ _ _ _ _ _ _ _ _ _ _ ac _ _ _ => ac) e
  | 13 => .mk fun e => R16.rec (motive := fun _ => α) (fun _ _ _ _ _ _ _ _ _ _ _ _ _ ad _ _ => ad) e
  | 14 => .mk fun e => R16.rec (motive := fun _ => α) (fun _ _ _ _ _ _ _ _ _ _ _ _ _ _ ae _ => ae) e
  | _ => .mk fun e => R16.rec (motive := fun _ => α) (fun _ _ _ _ _ _ _ _ _ _ _ _ _ _ _ af => af) e
/-- Turns one. -/
def upd : Nat → Box ((α → α) → R16 α → R16 α)
  | 0 => .mk fun f e => R16.rec (motive := fun _ => R16 α) (fun a0 a1 a2 a3 a4 a5 a6 a7 a8 a9 aa ab ac ad ae af => .mk (f a0) a1 a2 a3 a4 a5 a6 a7 a8 a9 aa ab ac ad ae af) e
  | 1 => .mk fun f e => R16.rec (motive := fun _ => R16 α) (fun a0 a1 a2 a3 a4 a5 a6 a7 a8 a9 aa ab ac ad ae af => .mk a0 (f a1) a2 a3 a4 a5 a6 a7 a8 a9 aa ab ac ad ae af) e
  | 2 => .mk fun f e => R16.rec (motive := fun _ => R16 α) (fun a0 a1 a2 a3 a4 a5 a6 a7 a8 a9 aa ab ac ad ae af => .mk a0 a1 (f a2) a3 a4 a5 a6 a7 a8 a9 aa ab ac ad ae af) e
  | 3 => .mk fun f e => R16.rec (motive := fun _ => R16 α) (fun a0 a1 a2 a3 a4 a5 a6 a7 a8 a9 aa ab ac ad ae af => .mk a0 a1 a2 (f a3) a4 a5 a6 a7 a8 a9 aa ab ac ad ae af) e
  | 4 => .mk fun f e => R16.rec (motive := fun _ => R16 α) (fun a0 a1 a2 a3 a4 a5 a6 a7 a8 a9 aa ab ac ad ae af => .mk a0 a1 a2 a3 (f a4) a5 a6 a7 a8 a9 aa ab ac ad ae af) e
  | 5 => .mk fun f e => R16.rec (motive := fun _ => R16 α) (fun a0 a1 a2 a3 a4 a5 a6 a7 a8 a9 aa ab ac ad ae af => .mk a0 a1 a2 a3 a4 (f a5) a6 a7 a8 a9 aa ab ac ad ae af) e
  | 6 => .mk fun f e => R16.rec (motive := fun _ => R16 α) (fun a0 a1 a2 a3 a4 a5 a6 a7 a8 a9 aa ab ac ad ae af => .mk a0 a1 a2 a3 a4 a5 (f a6) a7 a8 a9 aa ab ac ad ae af) e
  | 7 => .mk fun f e => R16.rec (motive := fun _ => R16 α) (fun a0 a1 a2 a3 a4 a5 a6 a7 a8 a9 aa ab ac ad ae af => .mk a0 a1 a2 a3 a4 a5 a6 (f a7) a8 a9 aa ab ac ad ae af) e
  | 8 => .mk fun f e => R16.rec (motive := fun _ => R16 α) (fun a0 a1 a2 a3 a4 a5 a6 a7 a8 a9 aa ab ac ad ae af => .mk a0 a1 a2 a3 a4 a5 a6 a7 (f a8) a9 aa ab ac ad ae af) e
  | 9 => .mk fun f e => R16.rec (motive := fun _ => R16 α) (fun a0 a1 a2 a3 a4 a5 a6 a7 a8 a9 aa ab ac ad ae af => .mk a0 a1 a2 a3 a4 a5 a6 a7 a8 (f a9) aa ab ac ad ae af) e
  | 10 => .mk fun f e => R16.rec (motive := fun _ => R16 α) (fun a0 a1 a2 a3 a4 a5 a6 a7 a8 a9 aa ab ac ad ae af => .mk a0 a1 a2 a3 a4 a5 a6 a7 a8 a9 (f aa) ab ac ad ae af) e
  | 11 => .mk fun f e => R16.rec (motive := fun _ => R16 α) (fun a0 a1 a2 a3 a4 a5 a6 a7 a8 a9 aa ab ac ad ae af => .mk a0 a1 a2 a3 a4 a5 a6 a7 a8 a9 aa (f ab) ac ad ae af) e
  | 12 => .mk fun f e => R16.rec (motive := fun _ => R16 α) (fun a0 a1 a2 a3 a4 a5 a6 a7 a8 a9 aa ab ac ad ae af => .mk a0 a1 a2 a3 a4 a5 a6 a7 a8 a9 aa ab (f ac) ad ae af) e
  | 13 => .mk fun f e => R16.rec (motive := fun _ => R16 α) (fun a0 a1 a2 a3 a4 a5 a6 a7 a8 a9 aa ab ac ad ae af => .mk a0 a1 a2 a3 a4 a5 a6 a7 a8 a9 aa ab ac (f ad) ae af) e
  | 14 => .mk fun f e => R16.rec (motive := fun _ => R16 α) (fun a0 a1 a2 a3 a4 a5 a6 a7 a8 a9 aa ab ac ad ae af => .mk a0 a1 a2 a3 a4 a5 a6 a7 a8 a9 aa ab ac ad (f ae) af) e
  | _ => .mk fun f e => R16.rec (motive := fun _ => R16 α) (fun a0 a1 a2 a3 a4 a5 a6 a7 a8 a9 aa ab ac ad ae af => .mk a0 a1 a2 a3 a4 a5 a6 a7 a8 a9 aa ab ac ad ae (f af)) e

theorem sel_upd (i j : Nat) (hi : i < 16) (hj : j < 16) (f : α → α) (e : R16 α) : (sel j).x ((upd i).x f e) = if j = i then f ((sel i).x e) else (sel j).x e := by
  obtain ⟨a0, a1, a2, a3, a4, a5, a6, a7, a8, a9, aa, ab, ac, ad, ae, af⟩ := e
  have hi' : i = 0 ∨ i = 1 ∨ i = 2 ∨ i = 3 ∨ i = 4 ∨ i = 5 ∨ i = 6 ∨ i = 7 ∨ i = 8 ∨ i = 9 ∨ i = 10 ∨ i = 11 ∨ i = 12 ∨ i = 13 ∨ i = 14 ∨ i = 15 := by omega
  have hj' : j = 0 ∨ j = 1 ∨ j = 2 ∨ j = 3 ∨ j = 4 ∨ j = 5 ∨ j = 6 ∨ j = 7 ∨ j = 8 ∨ j = 9 ∨ j = 10 ∨ j = 11 ∨ j = 12 ∨ j = 13 ∨ j = 14 ∨ j = 15 := by omega
  rcases hi' with rfl | rfl | rfl | rfl | rfl | rfl | rfl | rfl | rfl | rfl | rfl | rfl | rfl | rfl | rfl | rfl <;> rcases hj' with rfl | rfl | rfl | rfl | rfl | rfl | rfl | rfl | rfl | rfl | rfl | rfl | rfl | rfl | rfl | rfl <;> rfl

def all (x : α) : R16 α := .mk x x x x x x x x x x x x x x x x
theorem sel_all (x : α) (j : Nat) (hj : j < 16) : (sel j).x (all x) = x := by
  have hj' : j = 0 ∨ j = 1 ∨ j = 2 ∨ j = 3 ∨ j = 4 ∨ j = 5 ∨ j = 6 ∨ j = 7 ∨ j = 8 ∨ j = 9 ∨ j = 10 ∨ j = 11 ∨ j = 12 ∨ j = 13 ∨ j = 14 ∨ j = 15 := by omega
  rcases hj' with rfl | rfl | rfl | rfl | rfl | rfl | rfl | rfl | rfl | rfl | rfl | rfl | rfl | rfl | rfl | rfl <;> rfl
end R16

/-- The registers of a call. -/
abbrev Env := R16 (R16 (Option Value))

/-- Reads a slot. -/
def getT (t : Nat) : Box (Env → Option Value) :=
  Box.rec (motive := fun _ => Box (Env → Option Value)) (fun g => Box.rec (motive := fun _ => Box (Env → Option Value)) (fun h => .mk fun e => h (g e)) (R16.sel (Nat.mod t 16))) (R16.sel (Nat.div t 16))
/-- Writes a slot. -/
def setT (t : Nat) : Box (Env → Value → Env) :=
  Box.rec (motive := fun _ => Box (Env → Value → Env)) (fun g => Box.rec (motive := fun _ => Box (Env → Value → Env)) (fun h => .mk fun e v => g (h fun _ => some v) e) (R16.upd (Nat.mod t 16))) (R16.upd (Nat.div t 16))
def Env.get (e : Env) (t : Nat) : Option Value := (R16.sel (t % 16)).x ((R16.sel (t / 16)).x e)
def Env.set (e : Env) (t : Nat) (v : Value) : Env := (R16.upd (t / 16)).x ((R16.upd (t % 16)).x fun _ => some v) e
def Env.none : Env := R16.all (R16.all .none)

theorem getT_x (t : Nat) (e : Env) : (getT t).x e = e.get t := by
  show (Box.rec (motive := fun _ => Box (Env → Option Value)) (fun g => Box.rec (motive := fun _ => Box (Env → Option Value)) (fun h => .mk fun e => h (g e)) (R16.sel (t % 16))) (R16.sel (t / 16)) : Box (Env → Option Value)).x e = (R16.sel (t % 16)).x ((R16.sel (t / 16)).x e)
  cases R16.sel (α := R16 (Option Value)) (t / 16); cases R16.sel (α := Option Value) (t % 16); rfl
theorem setT_x (t : Nat) (e : Env) (v : Value) : (setT t).x e v = e.set t v := by
  show (Box.rec (motive := fun _ => Box (Env → Value → Env)) (fun g => Box.rec (motive := fun _ => Box (Env → Value → Env)) (fun h => .mk fun e v => g (h fun _ => some v) e) (R16.upd (t % 16))) (R16.upd (t / 16)) : Box (Env → Value → Env)).x e v = (R16.upd (t / 16)).x ((R16.upd (t % 16)).x fun _ => some v) e
  cases R16.upd (α := R16 (Option Value)) (t / 16); cases R16.upd (α := Option Value) (t % 16); rfl
theorem Env.get_set (e : Env) {t u : Nat} (v : Value) (ht : t < 256) (hu : u < 256) : (e.set t v).get u = if u = t then some v else e.get u := by
  unfold Env.get Env.set
  rw [R16.sel_upd _ _ (by omega) (by omega)]
  by_cases h : u / 16 = t / 16
  · rw [if_pos h, R16.sel_upd _ _ (by omega) (by omega)]
    by_cases h2 : u % 16 = t % 16
    · rw [if_pos h2, if_pos (by omega)]
    · rw [if_neg h2, if_neg (by omega), h]
  · rw [if_neg h, if_neg (by omega)]
theorem Env.get_none {t : Nat} (ht : t < 256) : Env.none.get t = .none := by
  unfold Env.get Env.none
  rw [R16.sel_all _ _ (by omega), R16.sel_all _ _ (by omega)]

/-- The registers hold what the table holds. -/
def EnvEq (e : Env) (t : Tr Value) : Prop := ∀ i, t.get i = if i < 256 then e.get i else .none
theorem EnvEq.none : EnvEq Env.none .e := fun i => by
  split
  · rename_i hi; rw [Env.get_none hi]; rfl
  · rfl
theorem EnvEq.set {e : Env} {t : Tr Value} (h : EnvEq e t) {k : Nat} (hk : k < 256) (v : Value) : EnvEq (e.set k v) (t.set k v) := by
  intro i
  rw [Tr.get_set]
  by_cases hi : i < 256
  · rw [if_pos hi, Env.get_set e v hk hi]
    split
    · rfl
    · rw [h i, if_pos hi]
  · rw [if_neg hi, if_neg (by omega), h i, if_neg hi]
end
end Go.Proofs.YtpmjpieiajdcgaaGreat
