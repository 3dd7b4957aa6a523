/- PE, part 3: the operations here, and that the machine's do the same. -/
import Derived.Test.YtpmjpieiajdcgaaGreatPeHeap
namespace Go.Proofs.YtpmjpieiajdcgaaGreat
open Go Go.RowKit
noncomputable section

/-! ## Operations that look at no memory -/

def pureRun (P : Program) {α : Type} : Sem α → Option α
  | .pure a => some a
  | .program k => pureRun P (k P)
  | .mark _ k => pureRun P k
  | _ => none

theorem pureRun_run {P : Program} {α : Type} {s : Sem α} {a : α} (h : pureRun P s = some a) (w : World) : s.run P w = .ok a w := by
  induction s with
  | pure b => simp only [pureRun, Option.some.injEq] at h; subst h; rfl
  | program k ih => exact ih P h
  | mark m k ih => exact ih h
  | _ => simp [pureRun] at h

theorem VRel.of_flat {μ : Mu} {v : Value} (h : isFlat v = true) : VRel μ v v := .flat h
theorem VRel.of_flatD {μ : Mu} : ∀ (n : Nat) {v : Value}, flatD n v = true → VRel μ v v := by
  intro n
  induction n with
  | zero => intro v h; exact .flat (by cases v <;> simpa [flatD] using h)
  | succ n ih =>
    have hl : ∀ (c : Array Value), c.toList.all (flatD n) = true → ∀ i, VRel μ (c.toList.getD i undef) (c.toList.getD i undef) := by
      intro c hc i
      by_cases hi : i < c.toList.length
      · have := List.all_eq_true.1 hc c.toList[i] (List.getElem_mem hi)
        rw [getD_eq_getElem?, List.getElem?_eq_getElem hi]; exact ih this
      · rw [getD_eq_getElem?, List.getElem?_eq_none (Nat.le_of_not_lt hi)]; exact .ofUndef μ
    intro v h
    cases v with
    | agg c => exact .agg rfl (hl c (by simpa [flatD] using h))
    | tuple c => exact .tup rfl (hl c (by simpa [flatD] using h))
    | iface t v => exact .iface (ih (by simpa [flatD] using h))
    | _ => exact .flat (by simpa [flatD] using h)

/-- What an operation comes to. -/
inductive AR where
  | val (v : Value) (H : Hp)
  | skip (H : Hp)
  | enter (f : FuncId) (args : Array Value) (H : Hp)
  | defer (d : Deferred) (H : Hp)
  | pan (v : Value) (H : Hp)

def DRel (μ : Mu) (d d' : Deferred) : Prop :=
  (∃ fn c c', d.target = .fn fn c ∧ d'.target = .fn fn c' ∧ LRel μ c.toList c'.toList) ∧ LRel μ d.args.toList d'.args.toList

/-- The machine's outcome is this one. -/
def ARel (B : Nat) (w0 : World) (ν : Mu) : AR → Result Next → Prop
  | .val v H, r => ∃ v' w', r = .ok (.value v') w' ∧ VRel ν v v' ∧ Sim B w0 ν H w'
  | .skip H, r => ∃ w', r = .ok .skip w' ∧ Sim B w0 ν H w'
  | .enter f args H, r => ∃ args' w', r = .ok (.enter f args') w' ∧ LRel ν args.toList args'.toList ∧ Sim B w0 ν H w'
  | .defer d H, r => ∃ d' w', r = .ok (.defer d') w' ∧ DRel ν d d' ∧ Sim B w0 ν H w'
  | .pan v H, r => ∃ v' w', r = .halt (.panic v') w' ∧ VRel ν v v' ∧ Sim B w0 ν H w'

/-- Rows that were there are where they were (or still unknown to the machine). -/
def Mu.Ext (n : Nat) (μ ν : Mu) : Prop := ∀ i, i < n → ν i = μ i
theorem Mu.Ext.refl (n : Nat) (μ : Mu) : Mu.Ext n μ μ := fun _ _ => rfl
theorem Mu.Ext.trans {n m : Nat} {a b c : Mu} (h : Mu.Ext n a b) (k : Mu.Ext m b c) (hn : n ≤ m) : Mu.Ext n a c := fun i hi => (k i (Nat.lt_of_lt_of_le hi hn)).trans (h i hi)
theorem Mu.Ext.le {B : Nat} {w0 w : World} {μ ν : Mu} {H : Hp} (h : Mu.Ext H.n μ ν) (s : Sim B w0 μ H w) : μ.Le ν := by
  intro i x hx
  rw [h i (s.fin _ _ hx)]; exact hx
theorem Mu.Ext.put {n : Nat} {μ : Mu} (x : Loc) : Mu.Ext n μ (μ.put n x) := fun i hi => Mu.put_ne _ _ (by omega)

theorem VRel.cells {μ : Mu} {v v' : Value} (h : VRel μ v v') : LRel μ v.cells.toList v'.cells.toList := by
  cases h with
  | agg h1 h2 => exact ⟨h1, h2⟩
  | flat h1 => cases v <;> first | (exact (LRel.nil μ).cons (.flat h1)) | (simp [isFlat] at h1)
  | ptr h1 => exact (LRel.nil μ).cons (.ptr h1)
  | sl h1 h2 h3 => exact (LRel.nil μ).cons (.sl h1 h2 h3)
  | slx h1 => exact (LRel.nil μ).cons (.slx h1)
  | sle h1 h2 => exact (LRel.nil μ).cons (.sle h1 h2)
  | map h1 h2 => exact (LRel.nil μ).cons (.map h1 h2)
  | func h1 h2 h3 h4 => exact (LRel.nil μ).cons (.func h1 h2 h3 h4)
  | iface h1 => exact (LRel.nil μ).cons (.iface h1)
  | tup h1 h2 => exact (LRel.nil μ).cons (.tup h1 h2)

theorem run_und {P : Program} {t : TypeId} {d : TypeDesc} (h : P.underlying t = some d) (w : World) : (underlying t).run P w = .ok d w := by simp [underlying, h]
theorem run_tinfo {P : Program} {t : TypeId} {i : TypeInfo} (h : P.info? t = some i) (w : World) : (typeInfo t).run P w = .ok i w := by simp [typeInfo, h]
theorem run_sz {P : Program} {t : TypeId} {i : TypeInfo} (h : P.info? t = some i) (w : World) : (sizeOf t).run P w = .ok i.size w := by simp [sizeOf, run_tinfo h]
theorem run_zero {P : Program} {t : TypeId} {i : TypeInfo} {v : Value} (h : P.info? t = some i) (hz : i.zero = some v) (w : World) : (zeroValue t).run P w = .ok v w := by
  simp [zeroValue, run_tinfo h, hz]
theorem run_newRow (P : Program) (t : TypeId) (c : Array Value) (w : World) : (newRow t c).run P w = .ok ⟨w.heap.size, 0, none⟩ (w.alloc (.cells c t)) := by
  simp [newRow]

/-! ## Operands -/

abbrev Rho := Operand → Option Value
def RhoRel (μ : Mu) (ρ : Rho) (ρ' : Operand → Value) : Prop := ∀ x v, ρ x = some v → VRel μ v (ρ' x)

section
variable {P : Program} {B : Nat} {w0 w : World} {μ : Mu} {H : Hp} {ρ : Rho} {ρ' : Operand → Value} {o : Oper} {r : AR}

/-- An operation on values without addresses: as the machine's own text reckons. -/
def flatOp (P : Program) (ρ : Rho) (o : Oper) (H : Hp) : Option AR :=
  if o.op.operands.toList.all (fun x => match ρ x with | some v => flatD 3 v | none => false) then
    match pureRun P (execOp (fun x => (ρ x).getD undef) o) with
    | some (.value v) => if flatD 3 v then some (.val v H) else none
    | _ => none
  else none

theorem flatOp_sound (h : Sim B w0 μ H w) (hρ : RhoRel μ ρ ρ') (hs : ∀ cs b, o.op ≠ .select cs b) (he : flatOp P ρ o H = some r) : ARel B w0 μ r ((execOp ρ' o).run P w) := by
  unfold flatOp at he
  split at he
  · rename_i hall
    split at he
    · rename_i v hv
      split at he
      · rename_i hf
        simp only [Option.some.injEq] at he
        subst he
        have hcong : execOp (fun x => (ρ x).getD undef) o = execOp ρ' o := by
          refine execOp_congr o hs fun x hx => ?_
          have := List.all_eq_true.1 hall x (Array.mem_toList_iff.2 hx)
          split at this
          · rename_i u hu
            rw [hu]
            exact ((hρ x u hu).flatD_eq 3 this).symm
          · cases this
        rw [hcong] at hv
        exact ⟨v, w, pureRun_run hv w, .of_flatD 3 hf, h⟩
      · cases he
    · cases he
  · cases he

/-- A value handed on. -/
def moveA (v : Option Value) (H : Hp) : Option AR := match v with | some v => some (.val v H) | none => none
theorem moveA_sound {x : Operand} (h : Sim B w0 μ H w) (hρ : RhoRel μ ρ ρ') (he : moveA (ρ x) H = some r) : ARel B w0 μ r (.ok (.value (ρ' x)) w) := by
  unfold moveA at he
  split at he
  · rename_i v hv
    simp only [Option.some.injEq] at he
    subst he
    exact ⟨_, w, rfl, hρ _ _ hv, h⟩
  · cases he

def pickA (ρ : Rho) (c a b : Operand) (H : Hp) : Option AR :=
  match ρ c with
  | some (.bool true) => moveA (ρ a) H
  | some (.bool false) => moveA (ρ b) H
  | _ => none
theorem VRel.bool_inv {μ : Mu} {b : Bool} {v : Value} (h : VRel μ (.bool b) v) : v = .bool b := h.isFlat_eq rfl
theorem VRel.int_inv {μ : Mu} {k : IntKind} {n : Int} {v : Value} (h : VRel μ (.int k n) v) : v = .int k n := h.isFlat_eq rfl
theorem VRel.string_inv {μ : Mu} {s : ByteArray} {v : Value} (h : VRel μ (.string s) v) : v = .string s := h.isFlat_eq rfl
theorem pickA_sound {c a b : Operand} (ho : o.op = .pick c a b) (h : Sim B w0 μ H w) (hρ : RhoRel μ ρ ρ') (he : pickA ρ c a b H = some r) : ARel B w0 μ r ((execOp ρ' o).run P w) := by
  unfold pickA at he
  split at he
  · rename_i hc
    have := (hρ _ _ hc).bool_inv
    simpa [execOp, ho, this, asBool] using moveA_sound h hρ he
  · rename_i hc
    have := (hρ _ _ hc).bool_inv
    simpa [execOp, ho, this, asBool] using moveA_sound h hρ he
  · cases he

/-- A new row, known to the machine at once. -/
theorem Sim.new (h : Sim B w0 μ H w) {c : List Value} {el : TypeId} {z : Nat} {c' : Array Value} (hl : LRel μ c (c'.toList.take c.length)) (hs : c.length ≤ c'.size)
    (fr : Nat × Nat) (hfr : fr.1 = fr.2 ∨ c'.size ≤ fr.1) : Sim B w0 (μ.put H.n ⟨w.heap.size, 0, c'.size, z⟩) (H.fresh c el z) (w.alloc (.cells c' el fr)) := by
  have hg := h.ghost c el z
  have hr : (H.fresh c el z).row H.n = some ⟨c, el, z, H.n, ⟨true, H.n, 1, false⟩⟩ := (Hp.row_fresh h.wf c el z _ _).2 (.inl ⟨rfl, rfl⟩)
  have hn : μ H.n = none := by
    cases hμ : μ H.n with
    | none => rfl
    | some y => have := h.fin _ _ hμ; omega
  exact hg.bind hn hr rfl hl hs fr hfr
theorem Sim.new_whole (h : Sim B w0 μ H w) {c : List Value} {el : TypeId} {z : Nat} {c' : Array Value} (hl : LRel μ c c'.toList) :
    Sim B w0 (μ.put H.n ⟨w.heap.size, 0, c'.size, z⟩) (H.fresh c el z) (w.alloc (.cells c' el)) :=
  h.new (by rw [hl.1, List.take_length]; exact hl) (by have := hl.1; simp at this; omega) (0, 0) (.inl rfl)
theorem Sim.unknown (h : Sim B w0 μ H w) : μ H.n = none := by
  cases hμ : μ H.n with
  | none => rfl
  | some y => have := h.fin _ _ hμ; omega

def newA (H : Hp) (c : List Value) (el : TypeId) : AR := .val (.pointer (some ⟨H.n, 0, none⟩)) (H.fresh c el 0)
theorem newA_sound (h : Sim B w0 μ H w) {c : List Value} {el : TypeId} {c' : Array Value} (hl : LRel μ c c'.toList) :
    ∃ ν, Mu.Ext H.n μ ν ∧ ARel B w0 ν (newA H c el) (.ok (.value (.pointer (some ⟨w.heap.size, 0, Option.none⟩))) (w.alloc (.cells c' el))) :=
  ⟨_, .put _, _, _, rfl, .ptr (x := ⟨w.heap.size, 0, c'.size, 0⟩) (Mu.put_self _ _ _), h.new_whole hl⟩

theorem LRel.of_flat {μ : Mu} : ∀ {l : List Value}, l.all isFlat = true → LRel μ l l := by
  intro l
  induction l with
  | nil => intro _; exact LRel.nil μ
  | cons v l ih =>
    intro h
    simp only [List.all_cons, Bool.and_eq_true] at h
    exact (ih h.2).cons (.flat h.1)

def allocA (P : Program) (el : TypeId) (H : Hp) : Option AR :=
  match P.info? el with
  | some i => match i.zero with
    | some z => if z.cells.toList.all isFlat then some (newA H z.cells.toList el) else none
    | none => none
  | none => none
theorem allocA_sound {el : TypeId} (ho : o.op = .alloc el) (h : Sim B w0 μ H w) (he : allocA P el H = some r) : ∃ ν, Mu.Ext H.n μ ν ∧ ARel B w0 ν r ((execOp ρ' o).run P w) := by
  unfold allocA at he
  split at he
  · rename_i i hi
    split at he
    · rename_i z hz
      split at he
      · rename_i hf
        simp only [Option.some.injEq] at he
        subst he
        have := newA_sound h (el := el) (LRel.of_flat (μ := μ) hf)
        simpa [execOp, ho, Instr.alloc, run_zero hi hz, newVar, run_newRow] using this
      · cases he
    · cases he
  · cases he

def boxA (v : Option Value) (el : TypeId) (H : Hp) : Option AR := match v with | some v => some (newA H v.cells.toList el) | none => none
theorem boxA_sound {el : TypeId} {x : Operand} (ho : o.op = .box el x) (h : Sim B w0 μ H w) (hρ : RhoRel μ ρ ρ') (he : boxA (ρ x) el H = some r) :
    ∃ ν, Mu.Ext H.n μ ν ∧ ARel B w0 ν r ((execOp ρ' o).run P w) := by
  unfold boxA at he
  split at he
  · rename_i v hv
    simp only [Option.some.injEq] at he
    subst he
    have := newA_sound h (el := el) (hρ _ _ hv).cells
    simpa [execOp, ho, Instr.box, newVar, run_newRow] using this
  · cases he

/-! ## Structs, arrays and slices made at once -/

theorem pureRun_bind (P : Program) {α β : Type} (x : Sem α) (f : α → Sem β) : pureRun P (x >>= f) = (pureRun P x).bind fun a => pureRun P (f a) := by
  show pureRun P (x.bind f) = _
  induction x with
  | pure a => rfl
  | program k ih => exact ih P
  | mark m k ih => exact ih
  | _ => simp [Sem.bind, pureRun]
theorem pureRun_pure (P : Program) {α : Type} (a : α) : pureRun P (pure a : Sem α) = some a := rfl

theorem pureRun_und (P : Program) (t : TypeId) : pureRun P (underlying t) = P.underlying t := by
  unfold underlying
  rw [pureRun_bind]
  show (some P).bind _ = _
  simp only [Option.bind_some]
  cases P.underlying t <;> rfl
theorem pureRun_tinfo (P : Program) (t : TypeId) : pureRun P (typeInfo t) = P.info? t := by
  unfold typeInfo
  rw [pureRun_bind]
  show (some P).bind _ = _
  simp only [Option.bind_some]
  cases P.info? t <;> rfl
theorem pureRun_sz (P : Program) (t : TypeId) : pureRun P (sizeOf t) = (P.info? t).map (·.size) := by
  unfold sizeOf
  rw [pureRun_bind, pureRun_tinfo]
  cases P.info? t <;> rfl
theorem pureRun_zero (P : Program) (t : TypeId) : pureRun P (zeroValue t) = (P.info? t).bind (·.zero) := by
  unfold zeroValue
  rw [pureRun_bind, pureRun_tinfo]
  cases P.info? t with
  | none => rfl
  | some i => simp only [Option.bind_some]; cases i.zero <;> rfl
theorem pureRun_stuck (P : Program) {α : Type} (s : String) : pureRun P (stuck s : Sem α) = none := rfl

def partsA (ρ : Rho) : List (Nat × Operand) → Option (List (Nat × Value))
  | [] => some []
  | (i, x) :: l => match ρ x, partsA ρ l with
    | some v, some r => some ((i, v) :: r)
    | _, _ => none

def PRel (μ : Mu) : List (Nat × Value) → List (Nat × Value) → Prop
  | [], [] => True
  | (i, v) :: l, (j, v') :: l' => i = j ∧ VRel μ v v' ∧ PRel μ l l'
  | _, _ => False

theorem partsA_rel (hρ : RhoRel μ ρ ρ') : ∀ (l : List (Nat × Operand)) {r : List (Nat × Value)}, partsA ρ l = some r → PRel μ r (l.map fun p => (p.1, ρ' p.2)) := by
  intro l
  induction l with
  | nil => intro r h; simp only [partsA, Option.some.injEq] at h; subst h; trivial
  | cons p l ih =>
    obtain ⟨i, x⟩ := p
    intro r h
    simp only [partsA] at h
    split at h
    · rename_i v q hv hq
      simp only [Option.some.injEq] at h
      subst h
      exact ⟨rfl, hρ _ _ hv, ih hq⟩
    · cases h

theorem fill_one (off : Nat) : ∀ (l : List Value) (k : Nat) (cs : Array Value), off + k + l.length ≤ cs.size →
    ((l.zipIdx k).foldl (fun cs (p : Value × Nat) => cs.setIfInBounds (off + p.2) p.1) cs).toList = cs.toList.take (off + k) ++ l ++ cs.toList.drop (off + k + l.length) := by
  intro l
  induction l with
  | nil => intro k cs _; simp
  | cons v l ih =>
    intro k cs h
    simp only [List.length_cons] at h
    simp only [List.zipIdx_cons, List.foldl_cons]
    rw [ih (k + 1) _ (by simp; omega), Array.toList_setIfInBounds]
    have hk : off + k < cs.toList.length := by simp; omega
    rw [show off + (k + 1) = off + k + 1 by omega, List.length_cons, List.drop_set, if_pos (by omega), List.take_set]
    rw [List.take_add_one, List.getElem?_eq_getElem hk]
    simp only [Option.toList_some]
    rw [List.set_append, if_neg (by simp; omega)]
    have : off + k - (List.take (off + k) cs.toList).length = 0 := by simp; omega
    rw [this]
    simp only [List.set_cons_zero, List.append_assoc, List.singleton_append]
    rw [show off + k + 1 + l.length = off + k + (l.length + 1) by omega]
theorem fill_put (off : Nat) (v cs : Array Value) (h : off + v.size ≤ cs.size) :
    (v.zipIdx.foldl (fun cs (p : Value × Nat) => cs.setIfInBounds (off + p.2) p.1) cs).toList = cs.toList.take off ++ v.toList ++ cs.toList.drop (off + v.size) := by
  rw [← Array.foldl_toList, Array.toList_zipIdx]
  have := fill_one off v.toList 0 cs (by simpa using h)
  simpa using this

theorem fill_rel (place : Nat → Option (Nat × Nat)) : ∀ (ps ps' : List (Nat × Value)) (cs cs' : Array Value) {out : Array Value}, PRel μ ps ps' → LRel μ cs.toList cs'.toList →
    Instr.fill place cs ps = some out → ∃ out', Instr.fill place cs' ps' = some out' ∧ LRel μ out.toList out'.toList := by
  intro ps
  induction ps with
  | nil =>
    intro ps' cs cs' out hp hl h
    cases ps' with
    | nil => simp only [Instr.fill, Option.some.injEq] at h ⊢; subst h; exact ⟨_, rfl, hl⟩
    | cons => exact hp.elim
  | cons p ps ih =>
    obtain ⟨i, v⟩ := p
    intro ps' cs cs' out hp hl h
    cases ps' with
    | nil => exact hp.elim
    | cons p' ps' =>
      obtain ⟨j, v'⟩ := p'
      obtain ⟨rfl, hv, hp⟩ := hp
      simp only [Instr.fill] at h ⊢
      cases hpl : place i with
      | none => rw [hpl] at h; cases h
      | some q =>
        obtain ⟨off, size⟩ := q
        rw [hpl] at h
        simp only at h ⊢
        have hc := hv.cells
        have hsz : v'.cells.size = v.cells.size := by have := hc.1; simpa using this.symm
        have hcs : cs'.size = cs.size := by have := hl.1; simpa using this.symm
        rw [hsz, hcs]
        split at h
        · cases h
        · rename_i hg
          rw [if_neg hg]
          simp only [ne_eq, decide_not, Bool.or_eq_true, Bool.not_eq_true', decide_eq_false_iff_not, decide_eq_true_eq, not_or, Decidable.not_not, Nat.not_lt] at hg
          refine ih ps' _ _ hp ?_ h
          rw [fill_put off v.cells cs hg.2, fill_put off v'.cells cs' (by rw [hsz, hcs]; exact hg.2), hsz]
          exact ((hl.take off).append hc).append (hl.drop _)

def buildA (P : Program) (ρ : Rho) (t : TypeId) (ps : List (Nat × Operand)) (H : Hp) : Option AR :=
  match partsA ρ ps with
  | some l => match P.info? t with
    | some i => match i.zero with
      | some z => if z.cells.toList.all isFlat then moveA (pureRun P (Instr.build t l.toArray)) H else none
      | none => none
    | none => none
  | none => none

theorem buildA_sound {t : TypeId} {ps : Array (Nat × Operand)} (ho : o.op = .build t ps) (h : Sim B w0 μ H w) (hρ : RhoRel μ ρ ρ') (he : buildA P ρ t ps.toList H = some r) :
    ARel B w0 μ r ((execOp ρ' o).run P w) := by
  unfold buildA at he
  split at he
  · rename_i l hl
    split at he
    · rename_i i hi
      split at he
      · rename_i z hz
        split at he
        · rename_i hf
          have hp := partsA_rel hρ _ hl
          have hmap : (ps.map fun (p : Nat × Operand) => (p.1, ρ' p.2)).toList = ps.toList.map fun p => (p.1, ρ' p.2) := by simp
          rw [← hmap] at hp
          generalize hps' : (ps.map fun (p : Nat × Operand) => (p.1, ρ' p.2)) = ps' at hp
          have hex : execOp ρ' o = (do pure (.value (← Instr.build t ps'))) := by simp only [execOp, ho, ← hps']
          unfold moveA at he
          split at he
          · rename_i v hv
            simp only [Option.some.injEq] at he
            subst he
            simp only [Instr.build, pureRun_bind, pureRun_zero, hi, hz, Option.bind_some, pureRun_und] at hv
            cases hu : P.underlying t with
            | none => rw [hu] at hv; cases hv
            | some d =>
              rw [hu] at hv
              simp only [Option.bind_some] at hv
              cases d with
              | struct fields =>
                simp only [pureRun_bind] at hv
                cases hpl : pureRun P (fields.mapM fun f => do pure (f.offset, ← sizeOf f.type)) with
                | none => rw [hpl] at hv; cases hv
                | some places =>
                  rw [hpl] at hv
                  simp only [Option.bind_some] at hv
                  cases hfi : Instr.fill (places[·]?) z.cells l with
                  | none => simp [hfi, pureRun_stuck] at hv
                  | some cs =>
                    simp only [hfi, pureRun_pure, Option.some.injEq] at hv
                    obtain ⟨out, hout, hrel⟩ := fill_rel (places[·]?) l ps'.toList z.cells z.cells hp (LRel.of_flat hf) hfi
                    refine ⟨.agg out, w, ?_, by rw [← hv]; exact .agg hrel.1 hrel.2, h⟩
                    rw [hex]
                    simp only [Sem.run_bind, Instr.build, run_zero hi hz, Result.andThen_ok, run_und hu, pureRun_run hpl, hout, Sem.run_pure]
              | array n elem =>
                simp only [pureRun_bind, pureRun_sz] at hv
                cases hei : P.info? elem with
                | none => rw [hei] at hv; cases hv
                | some ei =>
                  rw [hei] at hv
                  simp only [Option.map_some, Option.bind_some] at hv
                  cases hfi : Instr.fill (fun i => some (i * ei.size, ei.size)) z.cells l with
                  | none => simp [hfi, pureRun_stuck] at hv
                  | some cs =>
                    simp only [hfi, pureRun_pure, Option.some.injEq] at hv
                    obtain ⟨out, hout, hrel⟩ := fill_rel (fun i => some (i * ei.size, ei.size)) l ps'.toList z.cells z.cells hp (LRel.of_flat hf) hfi
                    refine ⟨.agg out, w, ?_, by rw [← hv]; exact .agg hrel.1 hrel.2, h⟩
                    rw [hex]
                    simp only [Sem.run_bind, Instr.build, run_zero hi hz, Result.andThen_ok, run_und hu, run_sz hei, hout, Sem.run_pure]
              | _ => simp [pureRun_stuck] at hv
          · cases he
        · cases he
      · cases he
    · cases he
  · cases he
end

end
end Go.Proofs.YtpmjpieiajdcgaaGreat
