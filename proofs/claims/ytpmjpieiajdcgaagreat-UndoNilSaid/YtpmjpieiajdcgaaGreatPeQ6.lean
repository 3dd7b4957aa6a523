/- PE, part 24: whole calls made ready, for the kernel's evaluation. -/
import Derived.Test.YtpmjpieiajdcgaaGreatPeQ4
import Derived.Test.YtpmjpieiajdcgaaGreatPeDraw3
namespace Go.Proofs.YtpmjpieiajdcgaaGreat
open Go Go.RowKit
noncomputable section

def argsQ (l : List Value) : Nat → Env → Env :=
  List.rec (motive := fun _ => Nat → Env → Env) (fun _ e => e) (fun v _ ih k e => ih (Nat.succ k) ((setT k).then fun f => f e v)) l
theorem argsQ_eq : ∀ (l : List Value) (k : Nat) (e : Env) (t : Tr Value), k + l.length ≤ 256 → EnvEq e t → EnvEq (argsQ l k e) (argsEnv l k t) := by
  intro l
  induction l with
  | nil => intro k e t _ h; exact h
  | cons v l ih =>
    intro k e t hk h
    simp only [List.length_cons] at hk
    refine ih (k + 1) _ _ (by omega) ?_
    rw [Box.then_eq, setT_x]
    exact h.set (by omega) v

section
variable (P : Program) (ext : FuncId → Option ExtK) (K : Nat) (dr : Nat → Array Oper → Box QRun)

def resQ : ResultVar → Box (Env → Hp → Option Value)
  | .tmp t => (odE (.tmp t)).then fun g => .mk fun e _ => g e
  | .cell a t => (odE (.tmp a)).then fun g => .mk fun e H => match loadA P t (g e) H with
    | some (.val v _) => some v
    | _ => none
def resListQ : List ResultVar → Box (Env → Hp → Option (List Value))
  | [] => .mk fun _ _ => some []
  | x :: l => (resQ P x).then fun f => (resListQ l).then fun g => .mk fun e H => Option.rec (motive := fun _ => Option (List Value)) none (fun v => Option.rec (motive := fun _ => Option (List Value)) none (fun vs => some (v :: vs)) (g e H)) (f e H)
def resultsQ (fn : Func) : Box (Env → Hp → Option Value) :=
  match fn.results.toList with
  | [x] => resQ P x
  | l => (resListQ P l).then fun f => .mk fun e H => Option.rec (motive := fun _ => Option Value) none (fun l => some (.tuple l.toArray)) (f e H)
def leaveQ (call : CallFn) (f : Env → Hp → Option Value) (e : Env) (l : List Deferred) : Option Value → Hp → Option (CR × Hp) :=
  List.rec (motive := fun _ => Option Value → Hp → Option (CR × Hp))
    (fun m H => Option.rec (motive := fun _ => Option (CR × Hp)) (Option.rec (motive := fun _ => Option (CR × Hp)) none (fun v => some (.ret v, H)) (f e H)) (fun v => some (.pan v, H)) m)
    (fun d _ ih m H => match evDefer P ext call K d m H with
      | some (m', H) => ih m' H
      | none => none) l
def endQ (call : CallFn) (f : Env → Hp → Option Value) (r : QRes) : Option (CR × Hp) :=
  QRes.rec (motive := fun _ => Option (CR × Hp)) none (fun e ds H => leaveQ P ext K call f e ds none H) (fun _ _ _ _ => none) (fun e ds H => leaveQ P ext K call f e ds none H) (fun v e ds H => leaveQ P ext K call f e ds (some v) H) r
def fnQ (fn : Func) : Box (CallFn → List Value → Hp → Option (CR × Hp)) :=
  match fn.body with
  | some c => Bool.rec (motive := fun _ => Box (CallFn → List Value → Hp → Option (CR × Hp))) (.mk fun _ _ _ => none)
      ((codeQ P ext fn.ntmps K (dr fn.ntmps) c).then fun run => (resultsQ P fn).then fun f => .mk fun call args H =>
        Bool.rec (motive := fun _ => Option (CR × Hp)) none (endQ P ext K call f (run call (argsQ args 0 Env.none) [] H)) (Nat.ble args.length fn.ntmps)) (Nat.ble fn.ntmps 256)
  | none => .mk fun _ _ _ => none
def qStep (call : CallFn) : CallFn := fun f args H =>
  match P.funcs[f]? with
  | some fn => (fnQ P ext K dr fn).then fun g => g call args.toList H
  | none => none
def qFn (d : Nat) : CallFn := Nat.rec (motive := fun _ => CallFn) (fun _ _ _ => none) (fun _ ih => qStep P ext K dr ih) d

variable {P ext K dr}
theorem resQ_eq {e : Env} {t : Tr Value} (he : EnvEq e t) (x : ResultVar) (ds : List Deferred) (H : Hp) : (resQ P x).x e H = resA P ⟨t, ds, H⟩ x := by
  have h : ∀ k, (odE (.tmp k)).x e = t.get k := fun k => by
    have := congrFun (odE_rho he) (.tmp k)
    exact this
  cases x with
  | tmp k => simp only [resQ, Box.then_eq, Box.mk_x, h, resA]
  | cell a k =>
    simp only [resQ, Box.then_eq, Box.mk_x, h, resA]
    cases loadA P k (t.get a) H with
    | none => rfl
    | some r => cases r <;> rfl
theorem resListQ_eq {e : Env} {t : Tr Value} (he : EnvEq e t) (ds : List Deferred) (H : Hp) : ∀ l, (resListQ P l).x e H = resListA P ⟨t, ds, H⟩ l := by
  intro l
  induction l with
  | nil => rfl
  | cons x l ih =>
    simp only [resListQ, Box.then_eq, Box.mk_x, resListA, resQ_eq he x ds H, ih]
    cases resA P ⟨t, ds, H⟩ x with
    | none => rfl
    | some v => cases resListA P ⟨t, ds, H⟩ l <;> rfl
theorem resultsQ_eq {e : Env} {t : Tr Value} (he : EnvEq e t) (ds : List Deferred) (H : Hp) (fn : Func) : (resultsQ P fn).x e H = resultsA P fn ⟨t, ds, H⟩ := by
  unfold resultsQ resultsA
  split
  · rename_i x hx
    rw [hx]
    simp only [resListA, resQ_eq he x ds H]
    cases resA P ⟨t, ds, H⟩ x <;> rfl
  · rename_i l hl
    simp only [Box.then_eq, Box.mk_x, resListQ_eq he ds H]
    cases hr : resListA P ⟨t, ds, H⟩ fn.results.toList with
    | none => rfl
    | some vs =>
      have hlen : vs.length = fn.results.toList.length := by
        have : ∀ (l : List ResultVar) vs, resListA P ⟨t, ds, H⟩ l = some vs → vs.length = l.length := by
          intro l
          induction l with
          | nil => intro vs h; cases h; rfl
          | cons x l ih =>
            intro vs h
            simp only [resListA] at h
            split at h
            · rename_i v vs' _ h2; cases h; simp [ih _ h2]
            · cases h
        exact this _ _ hr
      split
      · rename_i v hv
        cases hv
        match hm : fn.results.toList, hlen with
        | [x], _ => exact absurd hm (hl x)
      · rename_i l' h1 hv; cases hv; rfl
      · rename_i hv; cases hv
theorem leaveQ_ok {call : CallFn} {fn : Func} {e : Env} {t : Tr Value} (he : EnvEq e t) : ∀ (l : List Deferred) (m : Option Value) (H : Hp) (ds : List Deferred) (r : CR × Hp),
    leaveQ P ext K call (resultsQ P fn).x e l m H = some r → evLeave P ext call K fn l m ⟨t, ds, H⟩ = some r := by
  intro l
  induction l with
  | nil =>
    intro m H ds r h
    cases m with
    | none =>
      simp only [leaveQ, resultsQ_eq he [] H fn] at h
      simp only [evLeave]
      cases hr : resultsA P fn ⟨t, [], H⟩ with
      | none => rw [hr] at h; cases h
      | some v => rw [hr] at h; exact h
    | some v => exact h
  | cons d l ih =>
    intro m H ds r h
    have h : (match evDefer P ext call K d m H with | some (m', H) => leaveQ P ext K call (resultsQ P fn).x e l m' H | none => none) = some r := h
    simp only [evLeave]
    split at h
    · rename_i m' H' hd
      rw [hd]
      exact ih m' H' ds r h
    · cases h
theorem qStep_ok {call : CallFn} (hdr : ∀ n, n ≤ 256 → DrawQ P ext n (dr n) call) {f : FuncId} {args : Array Value} {H : Hp} {r : CR × Hp} (h : qStep P ext K dr call f args H = some r) :
    evStep P ext K call f args H = some r := by
  unfold qStep at h
  unfold evStep
  split at h
  · rename_i fn hfn
    rw [Box.then_eq] at h
    unfold fnQ at h
    split at h
    · rename_i c hb
      cases hn : Nat.ble fn.ntmps 256 with
      | false => rw [hn] at h; cases h
      | true =>
        have hn' : fn.ntmps ≤ 256 := by rw [nble] at hn; simpa using hn
        simp only [hn, Box.then_eq, Box.mk_x] at h
        cases hs : Nat.ble args.toList.length fn.ntmps with
        | false => rw [hs] at h; cases h
        | true =>
          have hs' : args.size ≤ fn.ntmps := by rw [nble] at hs; simpa using hs
          simp only [hs] at h
          simp only [hfn, hb, if_pos hs']
          have he0 := argsQ_eq args.toList 0 _ _ (by simp; omega) EnvEq.none
          have hq := codeQ_ok (K := K) hn' (hdr _ hn') c _ _ [] H he0
          cases hr : (codeQ P ext fn.ntmps K (dr fn.ntmps) c).x call (argsQ args.toList 0 Env.none) [] H with
          | bad => rw [hr] at h; cases h
          | normal e1 ds1 H1 => rw [hr] at h hq; obtain ⟨t1, ht, he1⟩ := hq _ _ rfl; rw [ht]; exact leaveQ_ok he1 ds1 none H1 ds1 r h
          | exit j e1 ds1 H1 => rw [hr] at h; cases h
          | ret e1 ds1 H1 => rw [hr] at h hq; obtain ⟨t1, ht, he1⟩ := hq _ _ rfl; rw [ht]; exact leaveQ_ok he1 ds1 none H1 ds1 r h
          | panic v e1 ds1 H1 => rw [hr] at h hq; obtain ⟨t1, ht, he1⟩ := hq _ _ rfl; rw [ht]; exact leaveQ_ok he1 ds1 (some v) H1 ds1 r h
    · cases h
  · cases h
theorem qFn_sound (hf : Fit P ext) (hdr : ∀ call n, n ≤ 256 → DrawQ P ext n (dr n) call) : ∀ d, CallOk P (qFn P ext K dr d) := by
  intro d
  induction d with
  | zero => intro f args H res H' h; cases h
  | succ d ih =>
    intro f args H res H' h
    have h := qStep_ok (hdr _) (show qStep P ext K dr (qFn P ext K dr d) f args H = some (res, H') from h)
    exact evStep_sound hf K (drawOk hf ih) ih f args H res H' h
end
end
end Go.Proofs.YtpmjpieiajdcgaaGreat
