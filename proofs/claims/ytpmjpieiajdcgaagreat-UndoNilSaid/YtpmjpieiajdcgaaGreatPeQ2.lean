/- PE, part 20: operations made ready, for the kernel's evaluation. -/
import Derived.Test.YtpmjpieiajdcgaaGreatPeQ1
namespace Go.Proofs.YtpmjpieiajdcgaaGreat
open Go Go.RowKit
noncomputable section

def Box.then {α β : Type} (b : Box α) (k : α → β) : β := Box.rec (motive := fun _ => β) k b
theorem Box.then_eq {α β : Type} (b : Box α) (k : α → β) : b.then k = k b.x := by cases b; rfl

/-- An operation, made ready: a value that asks no memory; one that reads it; the rest. -/
inductive DOp (E : Type) where
  | pure (f : E → Option Value)
  | read (f : E → Hp → Option Value)
  | mem (f : E → Hp → Option AR)

abbrev Od (E : Type) := Operand → Box (E → Option Value)
def Od.rho {E : Type} (od : Od E) (e : E) : Rho := fun x => (od x).x e

def DOp.Ok {E : Type} (P : Program) (ext : FuncId → Option ExtK) (od : Od E) (o : Oper) : DOp E → Prop
  | .pure f => ∀ e v, f e = some v → ∀ H, aop P ext (od.rho e) o H = some (.val v H)
  | .read f => ∀ e H v, f e H = some v → aop P ext (od.rho e) o H = some (.val v H)
  | .mem f => ∀ e H r, f e H = some r → aop P ext (od.rho e) o H = some r

/-! ## Values taken apart -/

def onBool {α : Type} (v : Option Value) (no : α) (f : Bool → α) : α := match v with | some (.bool b) => f b | _ => no
def onNat {α : Type} (v : Option Value) (no : α) (f : IntKind → Nat → α) : α := match v with | some (.int k (.ofNat a)) => f k a | _ => no
def onPtr {α : Type} (v : Option Value) (no : α) (f : Nat → Nat → α) : α := match v with | some (.pointer (some ⟨i, o, none⟩)) => f i o | _ => no
def onTup {α : Type} (v : Option Value) (no : α) (f : List Value → α) : α := match v with | some (.tuple ⟨l⟩) => f l | _ => no

theorem onBool_eq {α : Type} {v : Option Value} {f : Bool → Option α} {a : α} (h : onBool v none f = some a) : ∃ b, v = some (.bool b) ∧ f b = some a := by
  unfold onBool at h; split at h
  · exact ⟨_, rfl, h⟩
  · cases h
theorem onPtr_eq {α : Type} {v : Option Value} {f : Nat → Nat → Option α} {a : α} (h : onPtr v none f = some a) : ∃ i o, v = some (.pointer (some ⟨i, o, none⟩)) ∧ f i o = some a := by
  unfold onPtr at h; split at h
  · exact ⟨_, _, rfl, h⟩
  · cases h
theorem onTup_eq {α : Type} {v : Option Value} {f : List Value → Option α} {a : α} (h : onTup v none f = some a) : ∃ l, v = some (.tuple ⟨l⟩) ∧ f l = some a := by
  unfold onTup at h; split at h
  · exact ⟨_, rfl, h⟩
  · cases h
theorem onNat_cases {α : Type} (v : Option Value) (no : α) (f : IntKind → Nat → α) : onNat v no f = no ∨ ∃ k a, v = some (.int k (.ofNat a)) ∧ onNat v no f = f k a := by
  unfold onNat; split
  · exact .inr ⟨_, _, rfl, rfl⟩
  · exact .inl rfl

def nth {α : Type} (l : List α) : Nat → Option α :=
  List.rec (motive := fun _ => Nat → Option α) (fun _ => none) (fun a _ ih k => Nat.rec (motive := fun _ => Option α) (some a) (fun k _ => ih k) k) l
theorem nth_eq {α : Type} (l : List α) : ∀ k, nth l k = l[k]? := by
  induction l with
  | nil => intro k; rfl
  | cons a l ih => intro k; cases k with
    | zero => rfl
    | succ k => exact ih k

/-! ## Operations on values without addresses -/

def flatV (P : Program) (ρ : Rho) (o : Oper) : Option Value :=
  match flatOp P ρ o ⟨.e, 0, .e⟩ with
  | some (.val v _) => some v
  | _ => none
theorem flatV_eq {P : Program} {ρ : Rho} {o : Oper} {v : Value} (h : flatV P ρ o = some v) (H : Hp) : flatOp P ρ o H = some (.val v H) := by
  unfold flatV at h
  split at h
  · rename_i u H' hu
    cases h
    unfold flatOp at hu ⊢
    split at hu
    · rename_i h1
      rw [if_pos h1]
      split at hu
      · rename_i u hv
        split at hu
        · rename_i h2
          cases hu
          simp only [h2, if_true]
        · cases hu
      · cases hu
    · cases hu
  · cases h

def sameK (a b : IntKind) : Bool := Nat.beq a.ctorIdx b.ctorIdx
theorem sameK_eq {a b : IntKind} (h : sameK a b = true) : a = b := by
  cases a <;> cases b <;> first | rfl | (simp [sameK, IntKind.ctorIdx] at h)

/-- Two whole numbers. -/
def natBin (op : BinOp) : Box (IntKind → Nat → Nat → Option Value) :=
  match op with
  | .lss => .mk fun _ a b => some (.bool (Nat.blt a b))
  | .gtr => .mk fun _ a b => some (.bool (Nat.blt b a))
  | .leq => .mk fun _ a b => some (.bool (Nat.ble a b))
  | .geq => .mk fun _ a b => some (.bool (Nat.ble b a))
  | .eql => .mk fun _ a b => some (.bool (Nat.beq a b))
  | .neq => .mk fun _ a b => some (.bool (Bool.not (Nat.beq a b)))
  | .add => .mk fun k a b => bif sameK k .i64 && Nat.blt (Nat.add a b) 1073741824 then some (.int .i64 (.ofNat (Nat.add a b))) else none
  | .sub => .mk fun k a b => bif sameK k .i64 && (Nat.ble b a && Nat.blt a 1073741824) then some (.int .i64 (.ofNat (Nat.sub a b))) else none
  | _ => .mk fun _ _ _ => none
theorem nblt (a b : Nat) : Nat.blt a b = decide (a < b) := by rw [Bool.eq_iff_iff]; simp [Nat.blt, Nat.lt_iff_add_one_le]
theorem nble (a b : Nat) : Nat.ble a b = decide (a ≤ b) := by rw [Bool.eq_iff_iff]; simp
theorem wrap_i64 (n : Nat) (h : n < 2147483648) : IntKind.i64.wrap (n : Int) = n := by
  unfold IntKind.wrap
  simp only [IntKind.bits, IntKind.signed]
  have : ((n : Int) % 2 ^ 64) = n := Int.emod_eq_of_lt (by omega) (by omega)
  simp only [this]
  rw [if_neg (by simp; omega)]
theorem natBin_run {P : Program} {op : BinOp} {k : IntKind} {a b : Nat} {t : TypeId} {v : Value} (h : (natBin op).x k a b = some v) :
    pureRun P (binOp op t (.int k (.ofNat a)) (.int k (.ofNat b))) = some v ∧ flatD 3 v = true := by
  cases op <;> simp only [natBin, Box.x] at h <;> try cases h
  case add =>
    cases hc : (sameK k .i64 && Nat.blt (Nat.add a b) 1073741824) with
    | false => rw [hc] at h; cases h
    | true =>
      rw [hc] at h; cases h
      simp only [Bool.and_eq_true] at hc
      cases sameK_eq hc.1
      have h2 : a + b < 1073741824 := by have := hc.2; rw [nblt] at this; simpa using this
      refine ⟨?_, rfl⟩
      have h3 := wrap_i64 (a + b) (by omega)
      simp only [binOp, ne_eq, not_true, if_false, Op.intArith]
      show some (Value.int .i64 (IntKind.i64.wrap ((a : Int) + (b : Int)))) = _
      rw [show (a : Int) + (b : Int) = ((a + b : Nat) : Int) from rfl, h3]; rfl
  case sub =>
    cases hc : (sameK k .i64 && (Nat.ble b a && Nat.blt a 1073741824)) with
    | false => rw [hc] at h; cases h
    | true =>
      rw [hc] at h; cases h
      simp only [Bool.and_eq_true] at hc
      cases sameK_eq hc.1
      have h2 : a < 1073741824 := by have := hc.2.2; rw [nblt] at this; simpa using this
      have h1 : b ≤ a := by simpa using hc.2.1
      refine ⟨?_, rfl⟩
      have h3 := wrap_i64 (a - b) (by omega)
      simp only [binOp, ne_eq, not_true, if_false, Op.intArith]
      show some (Value.int .i64 (IntKind.i64.wrap ((a : Int) - (b : Int)))) = _
      rw [show (a : Int) - (b : Int) = ((a - b : Nat) : Int) by omega, h3]; rfl
  all_goals
    refine ⟨?_, rfl⟩
    simp only [binOp, ne_eq, not_true, if_false, Op.intCmp, nblt, nble, nbeq]
    show some (Value.bool _) = _
    congr 2
    rw [Bool.eq_iff_iff]
    simp
    try omega

theorem natBin_flat {P : Program} {ρ : Rho} {o : Oper} {op : BinOp} {t yt : TypeId} {x y : Operand} {k : IntKind} {a b : Nat} {v : Value} (ho : o.op = .binOp op t x y yt)
    (hx : ρ x = some (.int k (.ofNat a))) (hy : ρ y = some (.int k (.ofNat b))) (h : (natBin op).x k a b = some v) (H : Hp) : flatOp P ρ o H = some (.val v H) := by
  obtain ⟨h1, h2⟩ := natBin_run (P := P) (t := t) h
  have hop : o.op.operands = #[x, y] := by rw [ho]; rfl
  have hex : execOp (fun x => (ρ x).getD undef) o = (do pure (.value (← (do eqGuard op t x y (.int k (.ofNat a)) (.int k (.ofNat b)); binOp op t (.int k (.ofNat a)) (.int k (.ofNat b)))))) := by
    simp only [execOp, ho, hx, hy, Option.getD_some]
  have hg : eqGuard op t x y (.int k (.ofNat a)) (.int k (.ofNat b)) = pure () := by cases op <;> rfl
  have h5 : pureRun P ((do pure (.value (← (do eqGuard op t x y (.int k (.ofNat a)) (.int k (.ofNat b)); binOp op t (.int k (.ofNat a)) (.int k (.ofNat b))))) : Sem Next)) = some (.value v) := by
    rw [pureRun_bind, pureRun_bind, hg]
    show ((some ()).bind fun _ => pureRun P (binOp op t (.int k (.ofNat a)) (.int k (.ofNat b)))).bind _ = _
    rw [Option.bind_some, h1]; rfl
  unfold flatOp
  split
  · rw [hex, h5]
    simp only [h2, if_true]
  · rename_i hn
    exact absurd (by rw [hop]; simp [hx, hy, flatD, isFlat]) hn

/-! ## Memory -/

def Hp.cell (H : Hp) (i off : Nat) : Option Value := match H.row i with | some r => nth r.c off | none => none
theorem Hp.cell_loads {H : Hp} {i off : Nat} {u : Value} (h : H.cell i off = some u) : H.loads i off 1 = some [u] := by
  unfold Hp.cell at h
  split at h
  · rename_i r hr
    rw [nth_eq] at h
    obtain ⟨h1, h2⟩ := List.getElem?_eq_some_iff.1 h
    unfold Hp.loads
    rw [hr]
    simp only
    rw [if_pos (by omega)]
    congr 1
    rw [List.drop_eq_getElem_cons h1, h2]; rfl
  · cases h

/-! ## Each operation -/

section
variable {E : Type} (P : Program) (ext : FuncId → Option ExtK) (od : Od E)

def binV (o : Oper) (op : BinOp) (x y : Operand) : E → Option Value :=
  (od x).then fun gx => (od y).then fun gy => (natBin op).then fun f =>
    fun e => onNat (gx e) (flatV P (od.rho e) o) fun k a => onNat (gy e) (flatV P (od.rho e) o) fun j b => Bool.rec (motive := fun _ => Option Value) (flatV P (od.rho e) o) (Option.rec (motive := fun _ => Option Value) (flatV P (od.rho e) o) some (f k a b)) (sameK k j)
def decArgs : List Operand → Box (E → Option (List Value))
  | [] => .mk fun _ => some []
  | x :: l => (od x).then fun g => (decArgs l).then fun r => .mk fun e => Option.rec (motive := fun _ => Option (List Value)) none (fun v => Option.rec (motive := fun _ => Option (List Value)) none (fun vs => some (v :: vs)) (r e)) (g e)
theorem decArgs_x (e : E) : ∀ l, (decArgs od l).x e = argsA (od.rho e) l := by
  intro l
  induction l with
  | nil => rfl
  | cons x l ih =>
    simp only [decArgs, Box.then_eq, argsA]
    show Option.rec (motive := fun _ => Option (List Value)) none (fun v => Option.rec (motive := fun _ => Option (List Value)) none (fun vs => some (v :: vs)) ((decArgs od l).x e)) (od.rho e x) = _
    rw [ih]
    cases od.rho e x with
    | none => rfl
    | some v => cases argsA (od.rho e) l <;> rfl

def otherOp (o : Oper) : DOp E := .mem fun e H => aop P ext (od.rho e) o H
theorem otherOp_ok (o : Oper) : (otherOp P ext od o).Ok P ext od o := fun _ _ _ h => h

def loadOp (t : TypeId) (a : Operand) : DOp E :=
  (od a).then fun g => match P.underlying t with
    | some d => Bool.rec (motive := fun _ => DOp E) (.read fun e H => onPtr (g e) none fun i o => H.cell i o)
      (match P.info? t with
        | some ti => .read fun e H => onPtr (g e) none fun i o => Option.rec (motive := fun _ => Option Value) none (fun l => some (.agg l.toArray)) (H.loads i o ti.size)
        | none => .read fun _ _ => none) (isAggT d)
    | none => .read fun _ _ => none
def fieldAddrOp (s : TypeId) (x : Operand) (f : Nat) : DOp E :=
  (od x).then fun g => match P.underlying s with
    | some (.struct fields) => match fields.toList[f]? with
      | some fl => match P.info? fl.type with
        | some ti => Bool.rec (motive := fun _ => DOp E) (.pure fun e => onPtr (g e) none fun i o => some (.pointer (some ⟨i, Nat.add o fl.offset, none⟩))) (.pure fun _ => none) (ti.size == 0)
        | none => .pure fun _ => none
      | none => .pure fun _ => none
    | _ => .pure fun _ => none
def onSlice {α : Type} (v : Option Value) (no : α) (f : Nat → Nat → Option Nat → Nat → α) : α := match v with | some (.slice (some ⟨i, o, sp⟩) n _) => f i o sp n | _ => no
def indexAddrOp (t : TypeId) (x ix : Operand) : DOp E :=
  (od x).then fun g => (od ix).then fun gi => match P.underlying t with
    | some (.array len el) => match P.info? el with
      | some ti => .pure fun e => onNat (gi e) none fun _ n => onPtr (g e) none fun i o => Bool.rec (motive := fun _ => Option Value) none (some (.pointer (some ⟨i, Nat.add o (Nat.mul n ti.size), none⟩))) (Nat.blt n len)
      | none => .pure fun _ => none
    | some (.slice el) => match P.info? el with
      | some ti => .pure fun e => onNat (gi e) none fun _ n => onSlice (g e) none fun i o sp len => Bool.rec (motive := fun _ => Option Value) none (Bool.rec (motive := fun _ => Option Value) (some (.pointer (some ⟨i, Nat.add o (Nat.mul n ti.size), none⟩))) none (sp == some 1)) (Nat.blt n len)
      | none => .pure fun _ => none
    | _ => .pure fun _ => none
def nilV (v : Option Value) : Option Value :=
  match v with
  | some (.pointer (some a)) => some (.pointer (some a))
  | some (.func (.func f) a b) => some (.func (.func f) a b)
  | some (.iface t v) => some (.iface t v)
  | _ => none
def lenOp (o : Oper) (t : TypeId) (x : Operand) : DOp E :=
  (od x).then fun g => match P.underlying t with
    | some (.slice _) => .pure fun e => match g e with
      | some (.slice (some _) n _) => some (.int .i64 (.ofNat n))
      | some _ => flatV P (od.rho e) o
      | none => none
    | _ => otherOp P ext od o
def callOp (o : Oper) (c : Call) : DOp E :=
  match c.callee with
  | .value (.func k) => match P.funcs[k]? with
    | some fn => match fn.body with
      | some _ => (decArgs od c.args.toList).then fun g => .mem fun e H => Option.rec (motive := fun _ => Option AR) none (fun l => some (.enter k l.toArray H)) (g e)
      | none => otherOp P ext od o
    | none => otherOp P ext od o
  | .builtin .len => match c.args.toList, c.argTypes.toList with
    | [x], t :: _ => lenOp P ext od o t x
    | _, _ => otherOp P ext od o
  | _ => otherOp P ext od o
def ifaceOp (o : Oper) (t : TypeId) (x : Operand) : DOp E :=
  match P.underlying t with
  | some (.interface _) => otherOp P ext od o
  | some _ => (od x).then fun g => .pure fun e => Option.rec (motive := fun _ => Option Value) none (fun v => some (.iface t v)) (g e)
  | none => otherOp P ext od o
def binOpD (o : Oper) (op : BinOp) (t : TypeId) (x y : Operand) : DOp E :=
  match P.underlying t with
  | some (.int _) => .pure (binV P od o op x y)
  | _ => otherOp P ext od o
def decOp (o : Oper) : DOp E :=
  match o.op with
  | .move x | .assign x => (od x).then fun g => .pure g
  | .pick c a b => (od c).then fun gc => (od a).then fun ga => (od b).then fun gb => .pure fun e => onBool (gc e) none fun c => Bool.rec (motive := fun _ => Option Value) (gb e) (ga e) c
  | .load t a => loadOp P od t a
  | .store t a x => (od a).then fun ga => (od x).then fun gx => .mem fun e H => storeA P t (ga e) (gx e) H
  | .nilCheck x => (od x).then fun g => .pure fun e => nilV (g e)
  | .binOp op t x y _ => binOpD P ext od o op t x y
  | .unOp _ _ _ => .pure fun e => flatV P (od.rho e) o
  | .makeInterface t x => ifaceOp P ext od o t x
  | .fieldAddr s x f => fieldAddrOp P od s x f
  | .indexAddr t x ix => indexAddrOp P od t x ix
  | .extract x i => (od x).then fun g => .pure fun e => onTup (g e) none fun l => nth l i
  | .call c => callOp P ext od o c
  | _ => otherOp P ext od o

variable {P ext od} {o : Oper}
theorem moveA_some {v : Option Value} {u : Value} (h : v = some u) (H : Hp) : moveA v H = some (.val u H) := by rw [h]; rfl
theorem orA_left {a : Option AR} {r : AR} (h : a = some r) (b : Option AR) : orA a b = some r := by rw [h]; rfl

theorem loadOp_ok {t : TypeId} {a : Operand} (ho : o.op = .load t a) : (loadOp P od t a).Ok P ext od o := by
  have e0 : ∀ e H, aop P ext (od.rho e) o H = loadA P t (od.rho e a) H := fun e H => by rw [aop, ho]
  unfold loadOp
  rw [Box.then_eq]
  split
  · rename_i d hd
    cases hag : isAggT d with
    | false =>
      intro e H v h
      rw [e0]
      obtain ⟨i, off, hv, h⟩ := onPtr_eq (v := (od a).x e) h
      show loadA P t ((od a).x e) H = _
      unfold loadA
      rw [hv]
      simp only [hd, hag, Hp.cell_loads h]
      rfl
    | true =>
      cases hti : P.info? t with
      | none => intro e H v h; cases h
      | some ti =>
        intro e H v h
        rw [e0]
        obtain ⟨i, off, hv, h⟩ := onPtr_eq (v := (od a).x e) h
        show loadA P t ((od a).x e) H = _
        unfold loadA
        rw [hv]
        simp only [hd, hag, hti]
        cases hl : H.loads i off ti.size with
        | none => rw [hl] at h; cases h
        | some l => rw [hl] at h; cases h; rfl
  · intro e H v h; cases h
theorem fieldAddrOp_ok {s : TypeId} {x : Operand} {f : Nat} (ho : o.op = .fieldAddr s x f) : (fieldAddrOp P od s x f).Ok P ext od o := by
  have e0 : ∀ e H, aop P ext (od.rho e) o H = fieldAddrA P s (od.rho e x) f H := fun e H => by rw [aop, ho]
  unfold fieldAddrOp
  rw [Box.then_eq]
  split
  · rename_i fields hd
    split
    · rename_i fl hfl
      split
      · rename_i ti hti
        cases hz : (ti.size == 0) with
        | false =>
          intro e v h H
          rw [e0]
          obtain ⟨i, off, hv, h⟩ := onPtr_eq (v := (od x).x e) h
          cases h
          show fieldAddrA P s ((od x).x e) f H = _
          unfold fieldAddrA
          rw [hv]
          simp only [hd, hfl, hti, hz]
          rfl
        | true => intro e v h; cases h
      · intro e v h; cases h
    · intro e v h; cases h
  · intro e v h; cases h
theorem onNat_eq {α : Type} {v : Option Value} {f : IntKind → Nat → Option α} {a : α} (h : onNat v none f = some a) : ∃ k n, v = some (.int k (.ofNat n)) ∧ f k n = some a := by
  rcases onNat_cases v none f with h1 | ⟨k, n, h1, h2⟩
  · rw [h1] at h; cases h
  · exact ⟨k, n, h1, h2 ▸ h⟩
theorem onSlice_eq {α : Type} {v : Option Value} {f : Nat → Nat → Option Nat → Nat → Option α} {a : α} (h : onSlice v none f = some a) : ∃ i o sp n c, v = some (.slice (some ⟨i, o, sp⟩) n c) ∧ f i o sp n = some a := by
  unfold onSlice at h; split at h
  · exact ⟨_, _, _, _, _, rfl, h⟩
  · cases h
theorem indexAddrOp_ok {t : TypeId} {x ix : Operand} (ho : o.op = .indexAddr t x ix) : (indexAddrOp P od t x ix).Ok P ext od o := by
  have e0 : ∀ e H, aop P ext (od.rho e) o H = indexAddrA P t (od.rho e x) (od.rho e ix) H := fun e H => by rw [aop, ho]
  unfold indexAddrOp
  rw [Box.then_eq, Box.then_eq]
  split
  · rename_i len el hd
    split
    · rename_i ti hti
      intro e v h H
      rw [e0]
      obtain ⟨k, n, hn, h⟩ := onNat_eq (v := (od ix).x e) h
      obtain ⟨i, off, hv, h⟩ := onPtr_eq (v := (od x).x e) h
      show indexAddrA P t ((od x).x e) ((od ix).x e) H = _
      unfold indexAddrA
      rw [hn, hv]
      simp only [hd, hti]
      cases hb : Nat.blt n len with
      | false => rw [hb] at h; cases h
      | true =>
        rw [hb] at h; cases h
        rw [nblt] at hb
        have hb : n < len := by simpa using hb
        rw [if_pos ⟨Int.natCast_nonneg n, Int.ofNat_lt.2 hb⟩]; rfl
    · intro e v h; cases h
  · rename_i el hd
    split
    · rename_i ti hti
      intro e v h H
      rw [e0]
      obtain ⟨k, n, hn, h⟩ := onNat_eq (v := (od ix).x e) h
      obtain ⟨i, off, sp, len, c, hv, h⟩ := onSlice_eq (v := (od x).x e) h
      show indexAddrA P t ((od x).x e) ((od ix).x e) H = _
      unfold indexAddrA
      rw [hn, hv]
      simp only [hd, hti]
      cases hb : Nat.blt n len with
      | false => rw [hb] at h; cases h
      | true =>
        rw [hb] at h
        cases hs : (sp == some 1) with
        | true => rw [hs] at h; cases h
        | false =>
          rw [hs] at h; cases h
          rw [nblt] at hb
          have hb : n < len := by simpa using hb
          rw [if_neg (by simp), if_pos ⟨Int.natCast_nonneg n, Int.ofNat_lt.2 hb⟩]; rfl
    · intro e v h; cases h
  · intro e v h; cases h

theorem nilV_ok {v : Option Value} {u : Value} (h : nilV v = some u) (H : Hp) : nilCheckA v H = some (.val u H) := by
  unfold nilV at h
  unfold nilCheckA
  split at h <;> first | (cases h; done) | (cases h; rfl)
theorem binV_ok {op : BinOp} {t yt : TypeId} {x y : Operand} (ho : o.op = .binOp op t x y yt) (e : E) (v : Value) (h : binV P od o op x y e = some v) (H : Hp) : flatOp P (od.rho e) o H = some (.val v H) := by
  have hno : ∀ {a : Option Value}, a = flatV P (od.rho e) o → a = some v → flatOp P (od.rho e) o H = some (.val v H) := fun h1 h2 => flatV_eq (h1 ▸ h2) H
  unfold binV at h
  rw [Box.then_eq, Box.then_eq, Box.then_eq] at h
  rcases onNat_cases ((od x).x e) (flatV P (od.rho e) o) (fun k a => onNat ((od y).x e) (flatV P (od.rho e) o) fun j b => Bool.rec (motive := fun _ => Option Value) (flatV P (od.rho e) o) (Option.rec (motive := fun _ => Option Value) (flatV P (od.rho e) o) some ((natBin op).x k a b)) (sameK k j)) with h1 | ⟨k, a, h1, h2⟩
  · exact hno h1 h
  · rw [h2] at h
    rcases onNat_cases ((od y).x e) (flatV P (od.rho e) o) (fun j b => Bool.rec (motive := fun _ => Option Value) (flatV P (od.rho e) o) (Option.rec (motive := fun _ => Option Value) (flatV P (od.rho e) o) some ((natBin op).x k a b)) (sameK k j)) with h3 | ⟨j, b, h3, h4⟩
    · exact hno h3 h
    · rw [h4] at h
      cases hs : sameK k j with
      | false => rw [hs] at h; exact flatV_eq h H
      | true =>
        cases sameK_eq hs
        rw [hs] at h
        cases hn : (natBin op).x k a b with
        | none => rw [hn] at h; exact flatV_eq h H
        | some u =>
          rw [hn] at h
          cases h
          exact natBin_flat ho h1 h3 hn H
theorem lenA_none {tys : Array TypeId} {u : Value} (hu : ∀ a n c, u ≠ .slice (some a) n c) (H : Hp) : lenA P tys [u] H = none := by
  unfold lenA
  split
  · rename_i h2; cases h2; exact absurd rfl (hu _ _ _)
  · rfl
theorem lenOp_ok {c : Call} {t : TypeId} {ts : List TypeId} {x : Operand} (ho : o.op = .call c) (hc : c.callee = .builtin .len) (ha : c.args.toList = [x]) (ht : c.argTypes.toList = t :: ts) : (lenOp P ext od o t x).Ok P ext od o := by
  have e0 : ∀ e H u, od.rho e x = some u → aop P ext (od.rho e) o H = orA (lenA P c.argTypes [u] H) (flatOp P (od.rho e) o H) := by
    intro e H u hu
    rw [aop, ho]
    simp only [callA, ha, argsA, hu, hc, builtinA]
  unfold lenOp
  rw [Box.then_eq]
  split
  · rename_i el hd
    intro e v h H
    simp only at h
    split at h
    · rename_i a n cp hx
      cases h
      rw [e0 e H _ hx]
      refine orA_left ?_ _
      unfold lenA
      simp only [ht, hd]; rfl
    · rename_i u hu hx
      rw [e0 e H u hx, lenA_none (fun a n cp e' => hu a n cp e')]
      exact flatV_eq h H
    · cases h
  · exact otherOp_ok P ext od o
theorem ifaceOp_ok {t : TypeId} {x : Operand} (ho : o.op = .makeInterface t x) : (ifaceOp P ext od o t x).Ok P ext od o := by
  unfold ifaceOp
  split
  · exact otherOp_ok P ext od o
  · rename_i d hni hd
    rw [Box.then_eq]
    intro e v h H
    rw [aop, ho]
    show ifaceA P t ((od x).x e) H = _
    have h : Option.rec (motive := fun _ => Option Value) none (fun v => some (.iface t v)) ((od x).x e) = some v := h
    cases hx : (od x).x e with
    | none => rw [hx] at h; cases h
    | some u =>
      rw [hx] at h; cases h
      unfold ifaceA
      split
      · rename_i h1 h2; rw [hd] at h2; cases h2; exact absurd rfl (hni _)
      · rename_i h1 h2; cases h1; rfl
      · rename_i h1 h2; exact absurd hd (h2 _ _ rfl)
  · exact otherOp_ok P ext od o
theorem callOp_ok (hod : ∀ e k, od.rho e (.func k) = some (.func (.func k) #[] #[])) {c : Call} (ho : o.op = .call c) : (callOp P ext od o c).Ok P ext od o := by
  unfold callOp
  split
  · rename_i k hc
    split
    · rename_i fn hfn
      split
      · rename_i b hb
        rw [Box.then_eq]
        intro e H r h
        have h : Option.rec (motive := fun _ => Option AR) none (fun l => some (.enter k l.toArray H)) ((decArgs od c.args.toList).x e) = some r := h
        rw [decArgs_x] at h
        rw [aop, ho]
        simp only [callA]
        cases hl : argsA (od.rho e) c.args.toList with
        | none => rw [hl] at h; cases h
        | some l =>
          rw [hl] at h; cases h
          simp only [hc, funcCallA, hod, hfn, hb]
          simp
      · exact otherOp_ok P ext od o
    · exact otherOp_ok P ext od o
  · rename_i hc
    split
    · rename_i x t ts ha ht; exact lenOp_ok ho hc ha ht
    · exact otherOp_ok P ext od o
  · exact otherOp_ok P ext od o
theorem decOp_ok (hod : ∀ e k, od.rho e (.func k) = some (.func (.func k) #[] #[])) (o : Oper) : (decOp P ext od o).Ok P ext od o := by
  unfold decOp
  split
  · rename_i x ho
    rw [Box.then_eq]; intro e v h H; rw [aop, ho]; exact moveA_some h H
  · rename_i x ho
    rw [Box.then_eq]; intro e v h H; rw [aop, ho]; exact moveA_some h H
  · rename_i c a b ho
    rw [Box.then_eq, Box.then_eq, Box.then_eq]; intro e v h H; rw [aop, ho]
    obtain ⟨q, hq, h⟩ := onBool_eq h
    show pickA (od.rho e) c a b H = _
    unfold pickA
    rw [show od.rho e c = some (.bool q) from hq]
    cases q
    · exact moveA_some h H
    · exact moveA_some h H
  · rename_i t a ho; exact loadOp_ok ho
  · rename_i t a x ho
    rw [Box.then_eq, Box.then_eq]; intro e H r h; rw [aop, ho]; exact h
  · rename_i x ho
    rw [Box.then_eq]; intro e v h H; rw [aop, ho]; exact nilV_ok h H
  · rename_i op t x y yt ho
    unfold binOpD
    split
    · intro e v h H; rw [aop, ho]; exact orA_left (binV_ok ho e v h H) _
    · exact otherOp_ok P ext od o
  · rename_i ho; intro e v h H; rw [aop, ho]; exact flatV_eq h H
  · rename_i t x ho; exact ifaceOp_ok ho
  · rename_i s x f ho; exact fieldAddrOp_ok ho
  · rename_i t x ix ho; exact indexAddrOp_ok ho
  · rename_i x i ho
    rw [Box.then_eq]; intro e v h H; rw [aop, ho]
    obtain ⟨l, hl, h⟩ := onTup_eq h
    show extractA (od.rho e x) i H = _
    rw [show od.rho e x = some (.tuple ⟨l⟩) from hl]
    rw [nth_eq] at h
    exact moveA_some h H
  · rename_i c ho; exact callOp_ok hod ho
  · exact otherOp_ok P ext od o
end
end
end Go.Proofs.YtpmjpieiajdcgaaGreat
