/- PE, part 11: calls, deferred calls, panics; every operation. -/
import Derived.Test.YtpmjpieiajdcgaaGreatPeOps8
namespace Go.Proofs.YtpmjpieiajdcgaaGreat
open Go Go.RowKit
noncomputable section

/-- What a function without a body does: the machine's entry, on values without addresses; or it hands its one argument back. -/
inductive ExtK where
  | flat (e : Array Value → Sem Value)
  | same

/-- What must be so of the program. -/
structure Fit (P : Program) (ext : FuncId → Option ExtK) : Prop where
  num : ∀ (k : Nat) (fn : Func), P.funcs[k]? = some fn → fn.body.isSome = true → fn.name ≠ "runtime.NumGoroutine"
  ext : ∀ k x, ext k = some x → ∃ fn, P.funcs[k]? = some fn ∧ fn.body = none ∧ fn.name ≠ "runtime.NumGoroutine" ∧ Extern.findNext fn = none ∧
    (match x with | .flat e => Extern.find fn = some e | .same => Extern.find fn = some Extern.AbiNoEscape.same)
  mixed : P.follows .mixedOrders = true

section
variable {P : Program} {ext : FuncId → Option ExtK} {B : Nat} {w0 w : World} {μ : Mu} {H : Hp} {ρ : Rho} {ρ' : Operand → Value} {o : Oper} {r : AR}

def orA (a b : Option AR) : Option AR := match a with | some r => some r | none => b
theorem orA_cases {a b : Option AR} (h : orA a b = some r) : a = some r ∨ b = some r := by
  unfold orA at h
  split at h
  · left; exact h
  · right; exact h

def builtinA (P : Program) (ρ : Rho) (o : Oper) (b : Builtin) (tys : Array TypeId) (args : List Value) (H : Hp) : Option AR :=
  match b with
  | .append => appendA P tys args H
  | .len => orA (lenA P tys args H) (flatOp P ρ o H)
  | .cap => orA (capA P tys args H) (flatOp P ρ o H)
  | .copy => copyA P tys args H
  | .unsafeSliceData => orA (unsafeDataA args H) (flatOp P ρ o H)
  | .unsafeString => orA (unsafeStringA P tys args H) (flatOp P ρ o H)
  | .min | .max => flatOp P ρ o H
  | _ => none

def funcCallA (P : Program) (ext : FuncId → Option ExtK) (f : Option Value) (args : List Value) (H : Hp) : Option AR :=
  match f with
  | some (.func (.func k) first cap) =>
    let all := first.toList ++ args ++ cap.toList
    match P.funcs[k]? with
    | some fn => match fn.body with
      | some _ => some (.enter k all.toArray H)
      | none => match ext k with
        | some .same => match all with
          | [v] => some (.val v H)
          | _ => none
        | some (.flat e) => if all.all (flatD 3) then match pureRun P (e all.toArray) with
            | some v => if flatD 3 v then some (.val v H) else none
            | none => none
          else none
        | none => none
    | none => none
  | _ => none

def callA (P : Program) (ext : FuncId → Option ExtK) (ρ : Rho) (o : Oper) (c : Call) (H : Hp) : Option AR :=
  match argsA ρ c.args.toList with
  | some args => match c.callee with
    | .builtin b => builtinA P ρ o b c.argTypes args H
    | .value f => funcCallA P ext (ρ f) args H
    | .invoke _ _ => none
  | none => none

theorem vrun_to {ν : Mu} {s : Sem Value} (h : VRun B w0 ν r (s.run P w)) : ARel B w0 ν r ((do pure (.value (← s)) : Sem Next).run P w) := by
  cases r with
  | val v H =>
    obtain ⟨v', w', hr, hv, hs⟩ := h
    exact ⟨v', w', by simp only [Sem.run_bind, hr, Result.andThen_ok, Sem.run_pure], hv, hs⟩
  | _ => exact h.elim

theorem run_callFunc_body {k : Nat} {fn : Func} {c : Code} (hf : Fit P ext) (hfn : P.funcs[k]? = some fn) (hb : fn.body = some c) (args : Array Value) : (callFunc k args).run P w = .ok (.enter k args) w := by
  have hn := hf.num k fn hfn (by rw [hb]; rfl)
  simp only [callFunc, Sem.run_bind, run_program, Result.andThen_ok, hfn]
  rw [if_neg (by simpa using hn), if_neg (by rw [hb]; simp)]
  rfl
theorem run_callFunc_ext {k : Nat} {x : ExtK} (hf : Fit P ext) (hx : ext k = some x) (args : Array Value) :
    ∃ e, (match x with | .flat e' => e = e' | .same => e = Extern.AbiNoEscape.same) ∧ (callFunc k args).run P w = ((do pure (.value (← e args)) : Sem Next).run P w) := by
  obtain ⟨fn, hfn, hb, hn, hnx, hfind⟩ := hf.ext k x hx
  have key : ∀ e, Extern.find fn = some e → (callFunc k args).run P w = ((do pure (.value (← e args)) : Sem Next).run P w) := by
    intro e he
    simp only [callFunc, Sem.run_bind, run_program, Result.andThen_ok, hfn]
    rw [if_neg (by simpa using hn), if_pos (by rw [hb]; rfl)]
    simp only [Sem.run_bind, run_mark, Result.andThen_ok, hnx, he]
  cases x with
  | flat e => exact ⟨e, rfl, key e hfind⟩
  | same => exact ⟨_, rfl, key _ hfind⟩

theorem builtinA_sound {c : Call} {b : Builtin} {args : List Value} (ho : o.op = .call c) (hc : c.callee = .builtin b) (h : Sim B w0 μ H w) (hρ : RhoRel μ ρ ρ') (ha : LRel μ args (c.args.map ρ').toList)
    (he : builtinA P ρ o b c.argTypes args H = some r) : ∃ ν, Mu.Ext H.n μ ν ∧ ARel B w0 ν r ((execOp ρ' o).run P w) := by
  have hsel : ∀ cs b, o.op ≠ .select cs b := by rw [ho]; intro _ _; simp
  have hex : ∀ (f : Array TypeId → TypeId → Array Value → Sem Value), builtin b c.argTypes o.type (c.args.map fun | .const _ => true | _ => false) (c.args.map ρ') = (do pure (.value (← f c.argTypes o.type (c.args.map ρ')))) →
      execOp ρ' o = (do pure (.value (← f c.argTypes o.type (c.args.map ρ')))) := by
    intro f hf
    simp only [execOp, ho, resolve, hc]
    exact hf
  unfold builtinA at he
  split at he
  · obtain ⟨ν, hν, hr⟩ := appendA_sound (t := o.type) h ha he
    exact ⟨ν, hν, by rw [hex Builtin.append_ rfl]; exact vrun_to hr⟩
  · rcases orA_cases he with he | he
    · exact ⟨μ, .refl _ _, by rw [hex Builtin.len_ rfl]; exact vrun_to (lenA_sound h ha he)⟩
    · exact ⟨μ, .refl _ _, flatOp_sound h hρ hsel he⟩
  · rcases orA_cases he with he | he
    · exact ⟨μ, .refl _ _, by rw [hex Builtin.cap_ rfl]; exact vrun_to (capA_sound h ha he)⟩
    · exact ⟨μ, .refl _ _, flatOp_sound h hρ hsel he⟩
  · exact ⟨μ, .refl _ _, by rw [hex Builtin.copy_ rfl]; exact vrun_to (copyA_sound h ha he)⟩
  · rcases orA_cases he with he | he
    · exact ⟨μ, .refl _ _, by rw [hex Builtin.unsafeSliceData_ rfl]; exact vrun_to (unsafeDataA_sound h ha he)⟩
    · exact ⟨μ, .refl _ _, flatOp_sound h hρ hsel he⟩
  · rcases orA_cases he with he | he
    · exact ⟨μ, .refl _ _, by rw [hex Builtin.unsafeString_ rfl]; exact vrun_to (unsafeStringA_sound h ha he)⟩
    · exact ⟨μ, .refl _ _, flatOp_sound h hρ hsel he⟩
  · exact ⟨μ, .refl _ _, flatOp_sound h hρ hsel he⟩
  · exact ⟨μ, .refl _ _, flatOp_sound h hρ hsel he⟩
  · cases he

/-- A call of a function value, from the value on. -/
theorem funcCallA_sound (hf : Fit P ext) {f : Option Value} {f' : Value} {args : List Value} {args' : Array Value} (h : Sim B w0 μ H w) (hv : ∀ v, f = some v → VRel μ v f') (ha : LRel μ args args'.toList)
    (he : funcCallA P ext f args H = some r) : ARel B w0 μ r ((do let d ← Deferred.ofValue f' args'; invoke d.target d.args : Sem Next).run P w) := by
  unfold funcCallA at he
  split at he
  · rename_i k first cap
    obtain ⟨a', b', rfl, h1, h2⟩ := (hv _ rfl).func_inv
    have hall : LRel μ (first.toList ++ args ++ cap.toList) (a' ++ args' ++ b').toList := by
      rw [Array.toList_append, Array.toList_append]; exact (h1.append ha).append h2
    have hrun : (do let d ← Deferred.ofValue (.func (.func k) a' b') args'; invoke d.target d.args : Sem Next).run P w = (callFunc k (a' ++ args' ++ b')).run P w := by
      simp only [Deferred.ofValue, invoke, Sem.run_bind, Sem.run_pure, Result.andThen_ok]
    rw [hrun]
    dsimp only at he
    split at he
    · rename_i fn hfn
      split at he
      · rename_i c hb
        simp only [Option.some.injEq] at he
        subst he
        exact ⟨_, w, run_callFunc_body hf hfn hb _, hall, h⟩
      · split at he
        · rename_i hx
          obtain ⟨e, rfl, hr⟩ := run_callFunc_ext (w := w) hf hx (a' ++ args' ++ b')
          rw [hr]
          split at he
          · rename_i v hlist
            simp only [Option.some.injEq] at he
            subst he
            rw [hlist] at hall
            obtain ⟨v', hv', hrel⟩ := one_arg hall rfl
            rw [hv']
            exact ⟨v', w, rfl, hrel, h⟩
          · cases he
        · rename_i e hx
          obtain ⟨e', rfl, hr⟩ := run_callFunc_ext (w := w) hf hx (a' ++ args' ++ b')
          rw [hr]
          split at he
          · rename_i hfl
            split at he
            · rename_i v hp
              split at he
              · rename_i hfv
                simp only [Option.some.injEq] at he
                subst he
                have heq : (a' ++ args' ++ b').toList = first.toList ++ args ++ cap.toList := LRel.flat (fun v v' hv r => r.flatD_eq 3 hv) hall hfl
                have harr : (first.toList ++ args ++ cap.toList).toArray = a' ++ args' ++ b' := by rw [← heq]
                rw [harr] at hp
                exact ⟨v, w, by simp only [Sem.run_bind, pureRun_run hp, Result.andThen_ok, Sem.run_pure], .of_flatD 3 hfv, h⟩
              · cases he
            · cases he
          · cases he
        · cases he
    · cases he
  · cases he

theorem callA_sound (hf : Fit P ext) {c : Call} (ho : o.op = .call c) (h : Sim B w0 μ H w) (hρ : RhoRel μ ρ ρ') (he : callA P ext ρ o c H = some r) : ∃ ν, Mu.Ext H.n μ ν ∧ ARel B w0 ν r ((execOp ρ' o).run P w) := by
  unfold callA at he
  split at he
  · rename_i args ha
    have hrel := argsA_rel' hρ ha
    split at he
    · rename_i b hc
      exact builtinA_sound ho hc h hρ hrel he
    · rename_i f hc
      refine ⟨μ, .refl _ _, ?_⟩
      have := funcCallA_sound hf h (fun v hv => hρ _ _ hv) hrel he
      simpa only [execOp, ho, resolve, hc] using this
    · cases he
  · cases he

/-- A deferred call of a function that has a body. -/
def deferA (ρ : Rho) (c : Call) (H : Hp) : Option AR :=
  match c.callee, argsA ρ c.args.toList with
  | .value f, some args => match ρ f with
    | some (.func (.func k) first cap) => some (.defer ⟨.fn (.func k) cap, (first.toList ++ args).toArray⟩ H)
    | _ => none
  | _, _ => none
theorem deferA_sound {c : Call} (ho : o.op = .defer c) (h : Sim B w0 μ H w) (hρ : RhoRel μ ρ ρ') (he : deferA ρ c H = some r) : ARel B w0 μ r ((execOp ρ' o).run P w) := by
  unfold deferA at he
  split at he
  · rename_i f args hc ha
    have hrel := argsA_rel' hρ ha
    split at he
    · rename_i k first cap hk
      simp only [Option.some.injEq] at he
      subst he
      obtain ⟨a', b', hv, h1, h2⟩ := (hρ _ _ hk).func_inv
      refine ⟨⟨.fn (.func k) b', a' ++ c.args.map ρ'⟩, w, ?_, ⟨⟨_, _, _, rfl, rfl, h2⟩, ?_⟩, h⟩
      · simp only [execOp, ho, resolve, hc, hv, Deferred.ofValue, Sem.run_bind, Sem.run_pure, Result.andThen_ok]
      · show LRel μ (first.toList ++ args) (a' ++ c.args.map ρ').toList
        rw [Array.toList_append]
        exact h1.append hrel
    · cases he
  · cases he

def panicA (x : Option Value) (H : Hp) : Option AR :=
  match x with
  | some (.iface t v) => some (.pan (.iface t v) H)
  | _ => none
theorem panicA_sound {x : Operand} (ho : o.op = .panic x) (h : Sim B w0 μ H w) (hρ : RhoRel μ ρ ρ') (he : panicA (ρ x) H = some r) : ARel B w0 μ r ((execOp ρ' o).run P w) := by
  unfold panicA at he
  split at he
  · rename_i t v hx
    simp only [Option.some.injEq] at he
    subst he
    obtain ⟨u, hu, hr⟩ := (hρ _ _ hx).iface_inv
    exact ⟨.iface t u, w, by simp [execOp, ho, Instr.panic, hu], .iface hr, h⟩
  · cases he

def aop (P : Program) (ext : FuncId → Option ExtK) (ρ : Rho) (o : Oper) (H : Hp) : Option AR :=
  match o.op with
  | .move x | .assign x => moveA (ρ x) H
  | .pick c a b => pickA ρ c a b H
  | .alloc el => allocA P el H
  | .box el x => boxA (ρ x) el H
  | .build t ps => buildA P ρ t ps.toList H
  | .buildSlice t n ps => buildSliceA P ρ t n ps.toList H
  | .load t a => loadA P t (ρ a) H
  | .store t a x => storeA P t (ρ a) (ρ x) H
  | .nilCheck x => nilCheckA (ρ x) H
  | .binOp op t x y _ => orA (flatOp P ρ o H) (eqA P ρ op t x y H)
  | .unOp _ _ _ => flatOp P ρ o H
  | .convert s d x => orA (convA P s d (ρ x) H) (flatOp P ρ o H)
  | .makeInterface t x => ifaceA P t (ρ x) H
  | .makeFunc fn f c => funcA ρ fn f c H
  | .makeSlice t l c => makeSliceA P t (ρ l) (ρ c) H
  | .slice t x lo hi mx => orA (sliceA P t (ρ x) (lo.map ρ) (hi.map ρ) (mx.map ρ) H) (flatOp P ρ o H)
  | .fieldAddr s x f => fieldAddrA P s (ρ x) f H
  | .field t x f => fieldA P t (ρ x) f H
  | .indexAddr t x ix => indexAddrA P t (ρ x) (ρ ix) H
  | .index t x ix => orA (indexA P t (ρ x) (ρ ix) H) (flatOp P ρ o H)
  | .range t x => rangeA P t (ρ x) H
  | .next it str => nextA (ρ it) str H
  | .typeAssert x _ t ok => assertA P (ρ x) t ok H
  | .extract x i => extractA (ρ x) i H
  | .call c => callA P ext ρ o c H
  | .defer c => deferA ρ c H
  | .panic x => panicA (ρ x) H
  | _ => none

theorem aop_sound (hf : Fit P ext) (h : Sim B w0 μ H w) (hρ : RhoRel μ ρ ρ') (he : aop P ext ρ o H = some r) : ∃ ν, Mu.Ext H.n μ ν ∧ ARel B w0 ν r ((execOp ρ' o).run P w) := by
  have id : ARel B w0 μ r ((execOp ρ' o).run P w) → ∃ ν, Mu.Ext H.n μ ν ∧ ARel B w0 ν r ((execOp ρ' o).run P w) := fun h => ⟨μ, .refl _ _, h⟩
  unfold aop at he
  split at he
  · rename_i x ho
    have := moveA_sound h hρ he
    exact id (by simpa only [execOp, ho, Sem.run_pure] using this)
  · rename_i x ho
    have := moveA_sound h hρ he
    exact id (by simpa only [execOp, ho, Sem.run_pure] using this)
  · rename_i ho; exact id (pickA_sound ho h hρ he)
  · rename_i ho; exact allocA_sound ho h he
  · rename_i ho; exact boxA_sound ho h hρ he
  · rename_i ho; exact id (buildA_sound ho h hρ he)
  · rename_i ho; exact buildSliceA_sound ho h hρ he
  · rename_i ho; exact id (loadA_sound ho h hρ he)
  · rename_i ho; exact id (storeA_sound ho h hρ he)
  · rename_i ho; exact id (nilCheckA_sound ho h hρ he)
  · rename_i ho
    rcases orA_cases he with he | he
    · exact id (flatOp_sound h hρ (by rw [ho]; simp) he)
    · exact id (eqA_sound ho h hρ he)
  · rename_i ho; exact id (flatOp_sound h hρ (by rw [ho]; simp) he)
  · rename_i ho
    rcases orA_cases he with he | he
    · exact convA_sound ho h hρ he
    · exact id (flatOp_sound h hρ (by rw [ho]; simp) he)
  · rename_i ho; exact id (ifaceA_sound ho h hρ he)
  · rename_i ho; exact id (funcA_sound ho h hρ he)
  · rename_i ho; exact makeSliceA_sound ho h hρ he
  · rename_i ho
    rcases orA_cases he with he | he
    · exact id (sliceA_sound ho h hρ he)
    · exact id (flatOp_sound h hρ (by rw [ho]; simp) he)
  · rename_i ho; exact id (fieldAddrA_sound ho h hρ he)
  · rename_i ho; exact id (fieldA_sound ho h hρ he)
  · rename_i ho; exact id (indexAddrA_sound ho h hρ he)
  · rename_i ho
    rcases orA_cases he with he | he
    · exact id (indexA_sound ho h hρ he)
    · exact id (flatOp_sound h hρ (by rw [ho]; simp) he)
  · rename_i ho; exact rangeA_sound ho h hρ he
  · rename_i ho; exact id (nextA_sound ho h hρ he)
  · rename_i ho; exact id (assertA_sound ho h hρ he)
  · rename_i ho; exact id (extractA_sound ho h hρ he)
  · rename_i ho; exact callA_sound hf ho h hρ he
  · rename_i ho; exact id (deferA_sound ho h hρ he)
  · rename_i ho; exact id (panicA_sound ho h hρ he)
  · cases he
end

end
end Go.Proofs.YtpmjpieiajdcgaaGreat
