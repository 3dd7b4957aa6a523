/- PE, part 23: regions in whatever order, made ready, for the kernel's evaluation. -/
import Derived.Test.YtpmjpieiajdcgaaGreatPeQ4
namespace Go.Proofs.YtpmjpieiajdcgaaGreat
open Go Go.RowKit
noncomputable section

/-- The registers now, and as the region found them. -/
structure E2 where
  c : Env
  i : Env
def curT (t : Nat) : Box (E2 → Option Value) := Bool.rec (motive := fun _ => Box (E2 → Option Value)) (.mk fun _ => none) ((getT t).then fun g => .mk fun e => g e.c) (Nat.blt t 256)
def iniT (t : Nat) : Box (E2 → Option Value) := Bool.rec (motive := fun _ => Box (E2 → Option Value)) (.mk fun _ => none) ((getT t).then fun g => .mk fun e => g e.i) (Nat.blt t 256)
theorem curT_x (t : Nat) (e : E2) : (curT t).x e = if t < 256 then e.c.get t else none := by
  unfold curT
  rw [nblt]
  by_cases h : t < 256
  · rw [decide_eq_true h, if_pos h]; simp only [Box.then_eq, Box.mk_x, getT_x]
  · rw [decide_eq_false h, if_neg h]; rfl
theorem iniT_x (t : Nat) (e : E2) : (iniT t).x e = if t < 256 then e.i.get t else none := by
  unfold iniT
  rw [nblt]
  by_cases h : t < 256
  · rw [decide_eq_true h, if_pos h]; simp only [Box.then_eq, Box.mk_x, getT_x]
  · rw [decide_eq_false h, if_neg h]; rfl

abbrev DRun := CallFn → E2 → List Deferred → Hp → QRes

section
variable (P : Program) (ext : FuncId → Option ExtK) (n : Nat) (ops : Array Oper)

/-- The operand of an operation: rhoD, made ready. -/
def odD (i dep : Nat) : Od E2
  | .tmp t => match ops.toList.findIdx? (fun o => o.dst == some t) with
    | none => iniT t
    | some j => bif dep.testBit j then curT t else bif j == i || (match ops[j]? with | some oj => (depMask oj).testBit i | none => false) then iniT t else .mk fun _ => none
  | .const v => Bool.rec (motive := fun _ => Box (E2 → Option Value)) (.mk fun _ => none) (.mk fun _ => some v) (flatD 3 v)
  | .func f => .mk fun _ => some (.func (.func f) #[] #[])
  | .global _ => .mk fun _ => none

/-- Whether an operation is wanted, made ready. -/
def wantD (od : Od E2) (o : Oper) : Box (E2 → Option Bool) :=
  match o.guard with
  | none => .mk fun _ => some true
  | some (j, want) =>
    match (ops[j]?).bind (·.dst) with
    | some d => (od (.tmp d)).then fun g => .mk fun e => match g e with
      | some (.bool b) => some (b == want)
      | some _ => some false
      | none => none
    | none => .mk fun _ => some false

/-- A value that is itself (veq holds of it). -/
def selfV (v : Value) : Bool :=
  match v with
  | .bool _ | .int _ _ | .string _ | .pointer _ | .slice _ _ _ | .map _ | .nilIface | .nilFunc => true
  | v => veq 4 v v

def putD (s : Env → Value → Env) (e : E2) (v : Value) : E2 := ⟨s e.c v, e.i⟩

/-- A quiet operation, done. -/
def quietQ (i : Nat) (o : Oper) (rest : DRun) : Box DRun :=
  match putQ n o.dst with
  | none => .mk fun _ _ _ _ => .bad
  | some s => s.then fun s => (wantD ops (odD ops i (depMask o)) o).then fun w =>
    if isNew o then .mk fun call e ds H => match w e with
      | some true => (match newRowA P ((odD ops i (depMask o)).rho e) o with
        | some r => rest call (putD s e (r.val H.n)) ds (H.fresh r.c r.el r.z)
        | none => .bad)
      | some false => rest call (putD s e undef) ds H
      | none => .bad
    else match decOp P ext (odD ops i (depMask o)) o with
      | .pure f => .mk fun call e ds H => match w e with
        | some true => (match f e with
          | some v => Bool.rec (motive := fun _ => QRes) .bad (rest call (putD s e v) ds H) (selfV v)
          | none => .bad)
        | some false => rest call (putD s e undef) ds H
        | none => .bad
      | .read f => .mk fun call e ds H => match w e with
        | some true => (match f e H with
          | some v => rest call (putD s e v) ds H
          | none => .bad)
        | some false => rest call (putD s e undef) ds H
        | none => .bad
      | .mem f => .mk fun call e ds H => match w e with
        | some true => (match f e H with
          | some (.val v H') => Bool.rec (motive := fun _ => QRes) .bad (rest call (putD s e v) ds H) (H'.n == H.n)
          | _ => .bad)
        | some false => rest call (putD s e undef) ds H
        | none => .bad

def idOf (v : Value) : Option Nat :=
  match v with
  | .pointer (some a) => some a.block
  | .slice (some a) _ _ => some a.block
  | _ => none

/-- Does an operation give what it gave? -/
def stillQ (i : Nat) (o : Oper) : Box (E2 → Hp → Bool) :=
  match o.dst with
  | none => .mk fun _ _ => false
  | some d => (curT d).then fun g => (wantD ops (odD ops i (depMask o)) o).then fun w =>
    if isNew o then .mk fun e H => match w e, g e with
      | some true, some v => (match newRowA P ((odD ops i (depMask o)).rho e) o, idOf v with
        | some r, some id => (match H.row id with
          | some q => veq 4 (r.val id) v && lveq q.c r.c && q.el == r.el && q.z == r.z && q.ci.cnt == 1
          | none => false)
        | _, _ => false)
      | some false, some v => veq 4 undef v
      | _, _ => false
    else match decOp P ext (odD ops i (depMask o)) o with
      | .pure _ => .mk fun _ _ => true
      | .read f => .mk fun e H => match w e, g e with
        | some true, some v => (match f e H with
          | some u => veq 4 u v
          | none => false)
        | some false, some v => veq 4 undef v
        | _, _ => false
      | .mem f => .mk fun e H => match w e, g e with
        | some true, some v => (match f e H with
          | some (.val u H') => H'.n == H.n && veq 4 u v
          | _ => false)
        | some false, some v => veq 4 undef v
        | _, _ => false
def checksQ : List Nat → Box (E2 → Hp → Bool)
  | [] => .mk fun _ _ => true
  | i :: l => match ops[i]? with
    | some o => (stillQ P ext ops i o).then fun f => (checksQ l).then fun g => .mk fun e H => Bool.rec (motive := fun _ => Bool) false (g e H) (f e H)
    | none => .mk fun _ _ => false

/-- The sweep. -/
def sweepQ : List Nat → Nat → List Nat → List Nat → (Nat → List Nat → List Nat → Box DRun) → Box DRun
  | [], D, lo, pe, k => k D lo pe
  | i :: l, D, lo, pe, k =>
    match ops[i]? with
    | none => .mk fun _ _ _ _ => .bad
    | some o => bif !isE o && subM (depMask o) D then (sweepQ l (D ||| 2 ^ i) (i :: lo) pe k).then fun rest => quietQ P ext n ops i o rest
      else sweepQ l D lo (pe ++ [i]) k

def delsQ (e : Env) : Env := ops.toList.foldl (fun e o => match o.dst with | some d => (R16.upd (d / 16)).x ((R16.upd (d % 16)).x fun _ => none) e | none => e) e
/-- A loud operation, done. -/
def loudQ (i : Nat) (o : Oper) (rest : DRun) : Box DRun :=
  match putQ n o.dst with
  | none => .mk fun _ _ _ _ => .bad
  | some s => s.then fun s => (wantD ops (odD ops i (depMask o)) o).then fun w => (match decOp P ext (odD ops i (depMask o)) o with
    | .pure f => .mk fun e H => match f e with | some v => some (.val v H) | none => none
    | .read f => .mk fun e H => match f e H with | some v => some (.val v H) | none => none
    | .mem f => .mk f : Box (E2 → Hp → Option AR)).then fun f => .mk fun call e ds H => match w e with
      | none => .bad
      | some false => rest call (putD s e undef) ds H
      | some true => match f e H with
        | some (.val v H) => rest call (putD s e v) ds H
        | some (.skip H) => rest call (putD s e undef) ds H
        | some (.enter k args H) => (match call k args H with
          | some (.ret v, H) => rest call (putD s e v) ds H
          | some (.pan v, H) => .panic v (delsQ ops e.i) ds H
          | none => .bad)
        | some (.pan v H) => .panic v (delsQ ops e.i) ds H
        | _ => .bad
def nextsQ (D : Nat) (pe : List Nat) : List Nat := pe.filter fun i => match ops[i]? with | some o => subM (depMask o) D | none => true

/-- Two ways: one end. -/
def outsQ : List Oper → Box (Env → Env → Bool)
  | [] => .mk fun _ _ => true
  | o :: l => match o.dst with
    | some d => (odE (.tmp d)).then fun g => (outsQ l).then fun r => .mk fun a b => (match g a, g b with
      | some u, some v => veq 4 u v
      | _, _ => false) && r a b
    | none => outsQ l
def bothQ (eq : Env → Env → Bool) (a b : QRes) : QRes :=
  match a, b with
  | .normal e ds H, .normal e' _ H' => bif eq e e' && beqH H H' then .normal e ds H else .bad
  | _, _ => .bad

def drawD (deps : List Nat) : Nat → Nat → List Nat → List Nat → Box DRun
  | 0, _, _, _ => .mk fun _ _ _ _ => .bad
  | f + 1, D, lo, pe => sweepQ P ext n ops pe D lo [] fun D lo pe =>
    (checksQ P ext ops lo).then fun chk =>
    (match nextsQ ops D pe with
      | [] => if pe.isEmpty then .mk fun _ e ds H => .normal e.c ds H else .mk fun _ _ _ _ => .bad
      | [i] => (match ops[i]? with
        | none => .mk fun _ _ _ _ => .bad
        | some o => (drawD deps f (D ||| 2 ^ i) (lo.filter fun p => !(closeM deps (depMask o) 2).testBit p) (pe.filter (· != i))).then fun rest => loudQ P ext n ops i o rest)
      | [i, j] => (match ops[i]?, ops[j]? with
        | some oi, some oj =>
          (drawD deps f (D ||| 2 ^ i) (lo.filter fun p => !(closeM deps (depMask oi) 2).testBit p) (pe.filter (· != i))).then fun ri => (loudQ P ext n ops i oi ri).then fun ri =>
          (drawD deps f (D ||| 2 ^ j) (lo.filter fun p => !(closeM deps (depMask oj) 2).testBit p) (pe.filter (· != j))).then fun rj => (loudQ P ext n ops j oj rj).then fun rj =>
          (outsQ ops.toList).then fun eq => .mk fun call e ds H => bothQ eq (ri call e ds H) (rj call e ds H)
        | _, _ => .mk fun _ _ _ _ => .bad)
      | _ => .mk fun _ _ _ _ => .bad : Box DRun).then fun rest => .mk fun call e ds H => Bool.rec (motive := fun _ => QRes) .bad (rest call e ds H) (chk e H)

def drawQ : Box QRun :=
  bif uniqD n ops then (drawD P ext n ops (ops.toList.map depMask) (ops.size + 1) 0 [] (List.range ops.size)).then fun r => .mk fun call e ds H => r call ⟨e, e⟩ ds H
  else .mk fun _ _ _ _ => .bad
end
end
end Go.Proofs.YtpmjpieiajdcgaaGreat
