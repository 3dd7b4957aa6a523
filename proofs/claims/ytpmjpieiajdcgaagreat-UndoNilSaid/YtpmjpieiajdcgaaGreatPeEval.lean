/- PE, part 12: code, calls and runs. -/
import Derived.Test.YtpmjpieiajdcgaaGreatPeOps9
namespace Go.Proofs.YtpmjpieiajdcgaaGreat
open Go Go.RowKit
noncomputable section

/-- How a piece of code ends. -/
inductive Ex where
  | normal
  | exit (id : Nat)
  | ret
  | panic (v : Value)

structure St where
  env : Tr Value
  ds : List Deferred
  H : Hp

/-- How a call ends. -/
inductive CR where
  | ret (v : Value)
  | pan (v : Value)

abbrev CallFn := FuncId → Array Value → Hp → Option (CR × Hp)

def rhoE (env : Tr Value) : Rho
  | .tmp t => env.get t
  | .const v => if flatD 3 v then some v else none
  | .func f => some (.func (.func f) #[] #[])
  | .global _ => none

def putE (n : Nat) (env : Tr Value) (dst : Option Tmp) (v : Value) : Option (Tr Value) :=
  match dst with
  | none => some env
  | some d => if d < n then some (env.set d v) else none

/-- Is the operation wanted? -/
def wantedA (ops : Array Oper) (ρ : Rho) (o : Oper) : Option Bool :=
  match o.guard with
  | none => some true
  | some (j, want) =>
    match (ops[j]?).bind (·.dst) with
    | some d => match ρ (.tmp d) with
      | some (.bool b) => some (b == want)
      | some _ => some false
      | none => none
    | none => some false

section
variable (P : Program) (ext : FuncId → Option ExtK) (call : CallFn) (n : Nat)

/-! ## A region in the order of the text -/

def evOps (ops : Array Oper) : List Oper → St → Option (Ex × St)
  | [], s => some (.normal, s)
  | o :: rest, s =>
    match wantedA ops (rhoE s.env) o with
    | none => none
    | some false => match putE n s.env o.dst undef with
      | some env => evOps ops rest { s with env }
      | none => none
    | some true =>
      match aop P ext (rhoE s.env) o s.H with
      | some (.val v H) => match putE n s.env o.dst v with
        | some env => evOps ops rest ⟨env, s.ds, H⟩
        | none => none
      | some (.skip H) => match putE n s.env o.dst undef with
        | some env => evOps ops rest ⟨env, s.ds, H⟩
        | none => none
      | some (.defer d H) => match putE n s.env o.dst undef with
        | some env => evOps ops rest ⟨env, d :: s.ds, H⟩
        | none => none
      | some (.pan v H) => some (.panic v, ⟨s.env, s.ds, H⟩)
      | some (.enter f args H) => match call f args H with
        | some (.ret v, H) => match putE n s.env o.dst v with
          | some env => evOps ops rest ⟨env, s.ds, H⟩
          | none => none
        | some (.pan v, H) => some (.panic v, ⟨s.env, s.ds, H⟩)
        | none => none
      | none => none

/-! ## A region in whatever order: see PeDraw for why one order is enough. -/

/-- Does an operation turn memory, or is it a call? -/
def isE (o : Oper) : Bool :=
  match o.op with
  | .store .. | .next .. | .range .. | .defer _ | .panic _ | .mapUpdate .. | .makeSlice .. | .makeMap .. => true
  | .call c => match c.callee with
    | .builtin .len | .builtin .cap | .builtin .min | .builtin .max | .builtin .unsafeSliceData => false
    | _ => true
  | _ => false

def depMask (o : Oper) : Nat := o.after.toList.foldl (fun m e => if Region.binds .any e then m ||| 2 ^ e.on else m) 0
/-- a ⊆ b -/
def subM (a b : Nat) : Bool := a &&& b == a
/-- All that must be done ahead of an operation. -/
def closeM (deps : List Nat) (m : Nat) : Nat → Nat
  | 0 => m
  | k + 1 => closeM deps (deps.zipIdx.foldr (fun p a => if a.testBit p.2 then a ||| p.1 else a) m) k

/-- A new row, apart from its number. -/
structure NewRow where
  c : List Value
  el : TypeId
  z : Nat
  sl : Option Nat
def NewRow.val (r : NewRow) (id : Nat) : Value :=
  match r.sl with
  | none => .pointer (some ⟨id, 0, none⟩)
  | some n => .slice (some ⟨id, 0, some 0⟩) n n
def newRowA (ρ : Rho) (o : Oper) : Option NewRow :=
  match o.op with
  | .alloc el => match P.info? el with
    | some i => match i.zero with
      | some z => if z.cells.toList.all isFlat then some ⟨z.cells.toList, el, 0, none⟩ else none
      | none => none
    | none => none
  | .box el x => match ρ x with
    | some v => some ⟨v.cells.toList, el, 0, none⟩
    | none => none
  | .buildSlice t n ps =>
    match partsA ρ ps.toList, P.underlying t with
    | some l, some (.slice el) =>
      match P.info? el with
      | some i =>
        if n * i.size > 2 ^ 24 then none
        else match zerosA i (n * i.size) with
          | some zc =>
            if zc.toList.all isFlat then
              match Instr.fill (fun j => some (j * i.size, i.size)) zc l with
              | some cs => some ⟨cs.toList, el, i.size, some n⟩
              | none => none
            else none
          | none => none
      | none => none
    | _, _ => none
  | _ => none
def isNew (o : Oper) : Bool := match o.op with | .alloc _ | .box .. | .buildSlice .. => true | _ => false

/-- Two values are one. -/
def veq : Nat → Value → Value → Bool
  | _, .bool a, .bool b => a == b
  | _, .int k a, .int j b => k == j && a == b
  | _, .string a, .string b => a.data.toList == b.data.toList
  | _, .pointer a, .pointer b => a == b
  | _, .slice a n c, .slice b m d => a == b && n == m && c == d
  | _, .map a, .map b => a == b
  | _, .nilIface, .nilIface => true
  | _, .nilFunc, .nilFunc => true
  | n + 1, .agg a, .agg b => a.toList.length == b.toList.length && (a.toList.zip b.toList).all fun p => veq n p.1 p.2
  | n + 1, .tuple a, .tuple b => a.toList.length == b.toList.length && (a.toList.zip b.toList).all fun p => veq n p.1 p.2
  | n + 1, .iface t a, .iface u b => t == u && veq n a b
  | n + 1, .func f a c, .func g b d => f == g && (a.toList.length == b.toList.length && (a.toList.zip b.toList).all fun p => veq n p.1 p.2) && (c.toList.length == d.toList.length && (c.toList.zip d.toList).all fun p => veq n p.1 p.2)
  | _, _, _ => false

def lveq (a b : List Value) : Bool := a.length == b.length && (a.zip b).all fun p => veq 4 p.1 p.2

/-- Two tables are one. -/
def treq {α : Type} (f : α → α → Bool) : Tr α → Tr α → Bool
  | .e, .e => true
  | .n l v r, .n l' v' r' => (match v, v' with | none, none => true | some a, some b => f a b | _, _ => false) && treq f l l' && treq f r r'
  | _, _ => false
def beqB : Blk → Blk → Bool
  | .cells c el z k, .cells c' el' z' k' => el == el' && z == z' && k == k' && lveq c c'
  | .iter s p, .iter s' p' => p == p' && s.data.toList == s'.data.toList
  | _, _ => false
def beqC (a b : Cls) : Bool := a.live == b.live && a.top == b.top && a.cnt == b.cnt && a.ro == b.ro
def beqH (a b : Hp) : Bool := a.n == b.n && treq beqC a.k b.k && treq beqB a.b b.b

/-- The region's state: what is done, what each operation gave, which may not have been done yet by the machine (with the new row's number), what is still to do, memory. -/
structure DSt where
  D : Nat
  vals : Tr Value
  loose : List (Nat × Nat)
  pend : List Nat
  H : Hp

/-- The operand of an operation: what the one that writes a slot gave, if it must be ahead; what the slot held, if it must be behind. -/
def rhoD (ops : Array Oper) (env0 : Tr Value) (vals : Tr Value) (i : Nat) (dep : Nat) : Rho
  | .tmp t =>
    match ops.toList.findIdx? (fun o => o.dst == some t) with
    | none => env0.get t
    | some j =>
      if dep.testBit j then vals.get j
      else if j == i || (match ops[j]? with | some oj => (depMask oj).testBit i | none => false) then env0.get t
      else none
  | x => rhoE env0 x

/-- An operation that turns nothing: what it gives; and the new row's number (0: none). -/
def quietD (ops : Array Oper) (env0 : Tr Value) (s : DSt) (i : Nat) (o : Oper) : Option (Value × Nat × Hp) :=
  let ρ := rhoD ops env0 s.vals i (depMask o)
  match wantedA ops ρ o with
  | none => none
  | some false => some (undef, 0, s.H)
  | some true =>
    if isNew o then match newRowA P ρ o with
      | some r => some (r.val s.H.n, s.H.n + 1, s.H.fresh r.c r.el r.z)
      | none => none
    else match aop P ext ρ o s.H with
      | some (.val v H) => if H.n == s.H.n then some (v, 0, s.H) else none
      | _ => none

def sweep (ops : Array Oper) (env0 : Tr Value) : List Nat → DSt → Option DSt
  | [], s => some s
  | i :: l, s =>
    match ops[i]? with
    | none => none
    | some o =>
      if !isE o && subM (depMask o) s.D then
        match quietD P ext ops env0 s i o with
        | some (v, id, H) => sweep ops env0 l { s with D := s.D ||| 2 ^ i, vals := s.vals.set i v, loose := (i, id) :: s.loose, H }
        | none => none
      else sweep ops env0 l { s with pend := s.pend ++ [i] }

/-- Is what an operation gave what it gives now? -/
def stillD (ops : Array Oper) (env0 : Tr Value) (s : DSt) (p : Nat × Nat) : Bool :=
  match ops[p.1]?, s.vals.get p.1 with
  | some o, some v =>
    let ρ := rhoD ops env0 s.vals p.1 (depMask o)
    match wantedA ops ρ o with
    | none => false
    | some false => veq 4 undef v
    | some true =>
      if isNew o then match newRowA P ρ o, s.H.row (p.2 - 1) with
        | some r, some q => p.2 != 0 && veq 4 (r.val (p.2 - 1)) v && lveq q.c r.c && q.el == r.el && q.z == r.z && q.ci.cnt == 1
        | _, _ => false
      else match aop P ext ρ o s.H with
        | some (.val u H) => H.n == s.H.n && veq 4 u v
        | _ => false
  | _, _ => false

/-- An operation that turns memory: the values, the memory; or a panic. -/
def loudD (ops : Array Oper) (env0 : Tr Value) (s : DSt) (i : Nat) (o : Oper) : Option (CR × Hp) :=
  let ρ := rhoD ops env0 s.vals i (depMask o)
  match wantedA ops ρ o with
  | none => none
  | some false => some (.ret undef, s.H)
  | some true =>
    match aop P ext ρ o s.H with
    | some (.val v H) => some (.ret v, H)
    | some (.skip H) => some (.ret undef, H)
    | some (.enter f args H) => call f args H
    | some (.pan v H) => some (.pan v, H)
    | _ => none

def outEnv (ops : Array Oper) (vals : Tr Value) : List Nat → Tr Value → Option (Tr Value)
  | [], env => some env
  | i :: l, env =>
    match ops[i]? with
    | some o => match vals.get i with
      | some v => match putE n env o.dst v with
        | some env => outEnv ops vals l env
        | none => none
      | none => none
    | none => none

def Tr.del {α : Type} : Tr α → Nat → Tr α
  | .e, _ => .e
  | .n l v r, k => if k == 0 then .n l none r else if k % 2 == 1 then .n (l.del (k / 2)) v r else .n l v (r.del (k / 2 - 1))

/-- Behind such an operation. -/
def nextD (ops : Array Oper) (deps : List Nat) (s : DSt) (i : Nat) (o : Oper) (v : Value) (H : Hp) : DSt :=
  let c := closeM deps (depMask o) 2
  ⟨s.D ||| 2 ^ i, s.vals.set i v, s.loose.filter (fun p => !c.testBit p.1), s.pend.filter (· != i), H⟩

/-- Which may be next. -/
def nextsD (ops : Array Oper) (s : DSt) : List Nat := s.pend.filter fun i => match ops[i]? with | some o => subM (depMask o) s.D | none => true

/-- The slots that are written hold the same. -/
def outsEq (ops : Array Oper) (a b : Tr Value) : Bool := ops.toList.all fun o => match o.dst with
  | some d => match a.get d, b.get d with
    | some u, some v => veq 4 u v
    | _, _ => false
  | none => true

/-- What is left, behind a sweep. -/
def tailD (ops : Array Oper) (deps : List Nat) (env0 : Tr Value) (ds : List Deferred) (go : DSt → Option (Ex × St)) (s : DSt) : Option (Ex × St) :=
  match nextsD ops s with
  | [] => if s.pend.isEmpty then match outEnv n ops s.vals (List.range ops.size) env0 with
      | some env => some (.normal, ⟨env, ds, s.H⟩)
      | none => none
    else none
  | [i] =>
    match ops[i]? with
    | none => none
    | some o =>
      match loudD P ext call ops env0 s i o with
      | some (.ret v, H) => go (nextD ops deps s i o v H)
      | some (.pan v, H) => some (.panic v, ⟨ops.toList.foldl (fun t o => match o.dst with | some d => t.del d | none => t) env0, ds, H⟩)
      | none => none
  | [i, j] =>
    match ops[i]?, ops[j]? with
    | some oi, some oj =>
      match loudD P ext call ops env0 s i oi, loudD P ext call ops env0 s j oj with
      | some (.ret vi, Hi), some (.ret vj, Hj) =>
        match go (nextD ops deps s i oi vi Hi), go (nextD ops deps s j oj vj Hj) with
        | some (.normal, a), some (.normal, b) => if outsEq ops a.env b.env && beqH a.H b.H then some (.normal, ⟨a.env, ds, a.H⟩) else none
        | _, _ => none
      | _, _ => none
    | _, _ => none
  | _ => none

def evDraw (ops : Array Oper) (deps : List Nat) (env0 : Tr Value) (ds : List Deferred) : Nat → DSt → Option (Ex × St)
  | 0, _ => none
  | f + 1, s0 =>
    match sweep P ext ops env0 s0.pend { s0 with pend := [] } with
    | none => none
    | some s => if s.loose.all (stillD P ext ops env0 s) then tailD P ext call n ops deps env0 ds (evDraw ops deps env0 ds f) s else none

/-- Each slot is written at one place, and is one. -/
def uniqD (n : Nat) (ops : Array Oper) : Bool :=
  (List.range ops.size).all fun i => match (ops[i]?).bind (·.dst) with
    | some t => t < n && ops.toList.findIdx? (fun o => o.dst == some t) == some i
    | none => true

/-! ## Code -/

def iterE (f : St → Option (Ex × St)) : Nat → St → Option (Ex × St)
  | 0, _ => none
  | k + 1, s => match f s with
    | some (.normal, s') => iterE f k s'
    | r => r

def evCode (K : Nat) : Code → St → Option (Ex × St)
  | .skip, s => some (.normal, s)
  | .ret, s => some (.ret, s)
  | .exit id, s => some (.exit id, s)
  | .seq a b, s => match evCode K a s with
    | some (.normal, s') => evCode K b s'
    | r => r
  | .cond c a b, s => match rhoE s.env c with
    | some (.bool true) => evCode K a s
    | some (.bool false) => evCode K b s
    | _ => none
  | .block id c, s => match evCode K c s with
    | some (.exit j, s') => if j = id then some (.normal, s') else some (.exit j, s')
    | r => r
  | .loop c, s => iterE (evCode K c) K s
  | .region _ ops draw, s =>
    if draw then if uniqD n ops then evDraw P ext call n ops (ops.toList.map depMask) s.env s.ds (ops.size + 1) ⟨0, .e, [], List.range ops.size, s.H⟩ else none
    else evOps P ext call n ops ops.toList s
  | _, _ => none
end

def argsEnv : List Value → Nat → Tr Value → Tr Value
  | [], _, t => t
  | v :: l, k, t => argsEnv l (k + 1) (t.set k v)

/-- The results of a function. -/
def resA (P : Program) (s : St) : ResultVar → Option Value
  | .tmp t => s.env.get t
  | .cell a t => match loadA P t (s.env.get a) s.H with
    | some (.val v _) => some v
    | _ => none
def resListA (P : Program) (s : St) : List ResultVar → Option (List Value)
  | [] => some []
  | x :: l => match resA P s x, resListA P s l with
    | some v, some vs => some (v :: vs)
    | _, _ => none
def resultsA (P : Program) (fn : Func) (s : St) : Option Value :=
  match resListA P s fn.results.toList with
  | some [v] => some v
  | some l => some (.tuple l.toArray)
  | none => none

def isRecover (o : Oper) : Bool :=
  match o.op with
  | .call c => (match c.callee with | .builtin .recover => true | _ => false) && o.guard.isNone
  | _ => false

/-- The first region of a deferred function: recover hands back what the frame below panics with. -/
def evOpsR (P : Program) (ext : FuncId → Option ExtK) (call : CallFn) (n : Nat) (ops : Array Oper) : List Oper → St → Option Value → Option (St × Option Value)
  | [], s, m => some (s, m)
  | o :: rest, s, m =>
    if isRecover o then match putE n s.env o.dst (m.getD .nilIface) with
      | some env => evOpsR P ext call n ops rest { s with env } none
      | none => none
    else match evOps P ext call n ops [o] s with
      | some (.normal, s) => evOpsR P ext call n ops rest s m
      | _ => none

/-- A deferred call, of a frame that returns (none) or panics: does it still panic? -/
def evDefer (P : Program) (ext : FuncId → Option ExtK) (call : CallFn) (K : Nat) (d : Deferred) (m : Option Value) (H : Hp) : Option (Option Value × Hp) :=
  match d.target with
  | .fn (.func k) cap =>
    match P.funcs[k]? with
    | some fn => match fn.body with
      | some (.seq (.region _ ops false) rest) =>
        if d.args.size + cap.size ≤ fn.ntmps && fn.results.isEmpty then
          match evOpsR P ext call fn.ntmps ops ops.toList ⟨argsEnv (d.args.toList ++ cap.toList) 0 .e, [], H⟩ m with
          | some (s, m') => match evCode P ext call fn.ntmps K rest s with
            | some (.normal, s) | some (.ret, s) => if s.ds.isEmpty then some (m', s.H) else none
            | _ => none
          | none => none
        else none
      | _ => none
    | none => none
  | _ => none

/-- The deferred calls of a frame, then its end. -/
def evLeave (P : Program) (ext : FuncId → Option ExtK) (call : CallFn) (K : Nat) (fn : Func) : List Deferred → Option Value → St → Option (CR × Hp)
  | [], none, s => match resultsA P fn { s with ds := [] } with
    | some v => some (.ret v, s.H)
    | none => none
  | [], some v, s => some (.pan v, s.H)
  | d :: l, m, s => match evDefer P ext call K d m s.H with
    | some (m', H) => evLeave P ext call K fn l m' { s with H }
    | none => none

def evFn (P : Program) (ext : FuncId → Option ExtK) (K : Nat) : Nat → CallFn
  | 0, _, _, _ => none
  | d + 1, f, args, H =>
    match P.funcs[f]? with
    | some fn => match fn.body with
      | some c =>
        if args.size ≤ fn.ntmps then
          match evCode P ext (evFn P ext K d) fn.ntmps K c ⟨argsEnv args.toList 0 .e, [], H⟩ with
          | some (.normal, s) | some (.ret, s) => evLeave P ext (evFn P ext K d) K fn s.ds none s
          | some (.panic v, s) => evLeave P ext (evFn P ext K d) K fn s.ds (some v) s
          | _ => none
        else none
      | none => none
    | none => none

end
end Go.Proofs.YtpmjpieiajdcgaaGreat
