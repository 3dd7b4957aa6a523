/- PE, part 2: the memory's rows, and how they lie in the machine's. -/
import Derived.Test.YtpmjpieiajdcgaaGreatPeBase
import Derived.Laws.Cells
namespace Go.Proofs.YtpmjpieiajdcgaaGreat
open Go Go.RowKit
noncomputable section

inductive Blk where
  | cells (c : List Value) (el : TypeId) (z : Nat) (k : Nat)
  | iter (s : ByteArray) (pos : Nat)
structure Cls where
  live : Bool
  top : Nat
  cnt : Nat
  ro : Bool
structure Hp where
  b : Tr Blk
  n : Nat
  k : Tr Cls
structure Row where
  c : List Value
  el : TypeId
  z : Nat
  k : Nat
  ci : Cls

/-- A row that is still good: its cells, their variables' type and size, its kin, and what is known of them. -/
def Hp.row (H : Hp) (i : Nat) : Option Row :=
  match H.b.get i with
  | some (.cells c el z k) =>
    match H.k.get k with
    | some ci => if ci.live then some ⟨c, el, z, k, ci⟩ else none
    | none => none
  | _ => none

theorem Hp.row_eq {H : Hp} {i : Nat} {r : Row} :
    H.row i = some r ↔ H.b.get i = some (.cells r.c r.el r.z r.k) ∧ H.k.get r.k = some r.ci ∧ r.ci.live = true := by
  unfold Hp.row
  constructor
  · intro h
    split at h
    · rename_i c' el' z' k' hb
      split at h
      · rename_i ci' hk
        split at h
        · rename_i hl
          simp only [Option.some.injEq] at h
          subst h
          exact ⟨hb, hk, hl⟩
        · cases h
      · cases h
    · cases h
  · rintro ⟨h1, h2, h3⟩
    simp [h1, h2, h3]

/-- Numbers are below the next one. -/
structure Hp.Wf (H : Hp) : Prop where
  b : ∀ i x, H.b.get i = some x → i < H.n
  bk : ∀ i c el z k, H.b.get i = some (.cells c el z k) → k < H.n
  k : ∀ k x, H.k.get k = some x → k < H.n

/-- How the memory here lies in the machine's: of rows that are known to the machine. -/
structure Sim (B : Nat) (w0 : World) (μ : Mu) (H : Hp) (w : World) : Prop where
  below : Below B w0 w
  base : B ≤ w.heap.size
  wf : H.Wf
  fin : ∀ i x, μ i = some x → i < H.n
  cells : ∀ i r x, H.row i = some r → μ i = some x → ∃ c' fr, w.heap[x.b]? = some (.cells c' r.el fr) ∧ c'.size = x.R ∧ x.s + r.c.length ≤ x.R ∧ (x.z = r.z ∧ (r.z = 0 → x.s = 0)) ∧
    LRel μ r.c ((c'.toList.drop x.s).take r.c.length) ∧ (r.ci.ro = false → B ≤ x.b ∧ (fr.1 = fr.2 ∨ x.R ≤ fr.1))
  iter : ∀ i s p x, H.b.get i = some (.iter s p) → μ i = some x → x.s = 0 ∧ B ≤ x.b ∧ w.heap[x.b]? = some (.stringIter s p)
  isep : ∀ i s p x j s' p' y, H.b.get i = some (.iter s p) → H.b.get j = some (.iter s' p') → μ i = some x → μ j = some y → x.b = y.b → i = j
  sep : ∀ i r x j q y, H.row i = some r → H.row j = some q → μ i = some x → μ j = some y → x.b = y.b → r.k = q.k
  top : ∀ i r x q y, H.row i = some r → H.row r.ci.top = some q → q.k = r.k → μ i = some x → μ r.ci.top = some y → x.b = y.b → x.s + r.c.length ≤ y.s + q.c.length
  cnt : ∀ i r j q, H.row i = some r → H.row j = some q → r.k = q.k → r.ci.cnt = 1 → i = j

variable {B : Nat} {w0 w w' : World} {μ ν : Mu} {H H' : Hp}

/-- The machine's memory is the same: a draw. -/
theorem Sim.same (h : Sim B w0 μ H w) (hb : Below B w0 w') (he : w'.heap = w.heap) : Sim B w0 μ H w' :=
  { below := hb, base := he ▸ h.base, wf := h.wf, fin := h.fin, cells := he ▸ h.cells, iter := he ▸ h.iter, isep := h.isep, sep := h.sep, top := h.top, cnt := h.cnt }

theorem Hp.Wf.row (h : H.Wf) {i : Nat} {r : Row} (hr : H.row i = some r) : i < H.n ∧ r.k < H.n := ⟨h.b _ _ (Hp.row_eq.1 hr).1, h.bk _ _ _ _ _ (Hp.row_eq.1 hr).1⟩
theorem Hp.row_kin {i j : Nat} {r q : Row} (hr : H.row i = some r) (hq : H.row j = some q) (h : r.k = q.k) : r.ci = q.ci := by
  have h1 := (Hp.row_eq.1 hr).2.1
  have h2 := (Hp.row_eq.1 hq).2.1
  rw [h, h2] at h1
  exact (Option.some.inj h1).symm

/-- A new row. -/
def Hp.fresh (H : Hp) (c : List Value) (el : TypeId) (z : Nat) : Hp :=
  ⟨H.b.set H.n (.cells c el z H.n), H.n + 1, H.k.set H.n ⟨true, H.n, 1, false⟩⟩

theorem Hp.Wf.fresh (h : H.Wf) (c : List Value) (el : TypeId) (z : Nat) : (H.fresh c el z).Wf where
  b := by
    intro i x hx
    simp only [Hp.fresh, Tr.get_set] at hx ⊢
    split at hx
    · omega
    · have := h.b _ _ hx; omega
  bk := by
    intro i c' el' z' k hx
    simp only [Hp.fresh, Tr.get_set] at hx ⊢
    split at hx
    · simp only [Option.some.injEq, Blk.cells.injEq] at hx; omega
    · have := h.bk _ _ _ _ _ hx; omega
  k := by
    intro i x hx
    simp only [Hp.fresh, Tr.get_set] at hx ⊢
    split at hx
    · omega
    · have := h.k _ _ hx; omega

theorem Hp.row_fresh (h : H.Wf) (c : List Value) (el : TypeId) (z : Nat) (i : Nat) (r : Row) :
    (H.fresh c el z).row i = some r ↔ (i = H.n ∧ r = ⟨c, el, z, H.n, ⟨true, H.n, 1, false⟩⟩) ∨ (i ≠ H.n ∧ r.k ≠ H.n ∧ H.row i = some r) := by
  rw [Hp.row_eq]
  simp only [Hp.fresh, Tr.get_set]
  constructor
  · rintro ⟨h1, h2, h3⟩
    by_cases hi : i = H.n
    · subst hi
      simp only [if_true, Option.some.injEq, Blk.cells.injEq] at h1
      obtain ⟨e1, e2, e3, e4⟩ := h1
      left
      rw [← e4] at h2
      simp only [if_true, Option.some.injEq] at h2
      refine ⟨rfl, ?_⟩
      cases r
      simp_all
    · rw [if_neg hi] at h1
      have hkk : r.k ≠ H.n := by have := h.bk _ _ _ _ _ h1; omega
      rw [if_neg hkk] at h2
      exact .inr ⟨hi, hkk, Hp.row_eq.2 ⟨h1, h2, h3⟩⟩
  · rintro (⟨rfl, rfl⟩ | ⟨hi, hkk, hr⟩)
    · simp
    · obtain ⟨h1, h2, h3⟩ := Hp.row_eq.1 hr
      rw [if_neg hi, if_neg hkk]
      exact ⟨h1, h2, h3⟩
theorem Hp.iter_fresh (h : H.Wf) (c : List Value) (el : TypeId) (z : Nat) (i : Nat) (s : ByteArray) (p : Nat) :
    (H.fresh c el z).b.get i = some (.iter s p) ↔ H.b.get i = some (.iter s p) := by
  simp only [Hp.fresh, Tr.get_set]
  split
  · rename_i hi
    subst hi
    constructor
    · intro h; simp at h
    · intro h'; have := h.b _ _ h'; omega
  · exact Iff.rfl

/-- A new row that the machine does not have yet. -/
theorem Sim.ghost (h : Sim B w0 μ H w) (c : List Value) (el : TypeId) (z : Nat) : Sim B w0 μ (H.fresh c el z) w where
  below := h.below
  base := h.base
  wf := h.wf.fresh c el z
  fin := fun i x hx => by have := h.fin _ _ hx; simp only [Hp.fresh]; omega
  cells := by
    intro i r x hr hx
    have hi := h.fin _ _ hx
    rcases (Hp.row_fresh h.wf c el z i r).1 hr with ⟨rfl, _⟩ | ⟨_, _, hr⟩
    · omega
    · exact h.cells i r x hr hx
  iter := by
    intro i s p x hr hx
    exact h.iter i s p x ((Hp.iter_fresh h.wf c el z i s p).1 hr) hx
  isep := by
    intro i s p x j s' p' y hi hj
    exact h.isep i s p x j s' p' y ((Hp.iter_fresh h.wf c el z i s p).1 hi) ((Hp.iter_fresh h.wf c el z j s' p').1 hj)
  sep := by
    intro i r x j q y hr hq hx hy
    have hi := h.fin _ _ hx
    have hj := h.fin _ _ hy
    rcases (Hp.row_fresh h.wf c el z i r).1 hr with ⟨rfl, _⟩ | ⟨_, _, hr⟩
    · omega
    rcases (Hp.row_fresh h.wf c el z j q).1 hq with ⟨rfl, _⟩ | ⟨_, _, hq⟩
    · omega
    exact h.sep i r x j q y hr hq hx hy
  top := by
    intro i r x q y hr hq hk hx hy
    have hi := h.fin _ _ hx
    have hj := h.fin _ _ hy
    rcases (Hp.row_fresh h.wf c el z i r).1 hr with ⟨rfl, _⟩ | ⟨_, _, hr⟩
    · omega
    rcases (Hp.row_fresh h.wf c el z _ q).1 hq with ⟨e, _⟩ | ⟨_, _, hq⟩
    · omega
    exact h.top i r x q y hr hq hk hx hy
  cnt := by
    intro i r j q hr hq hk h1
    rcases (Hp.row_fresh h.wf c el z i r).1 hr with ⟨rfl, rfl⟩ | ⟨_, hn, hr⟩
    · rcases (Hp.row_fresh h.wf c el z j q).1 hq with ⟨rfl, _⟩ | ⟨_, hn, hq⟩
      · rfl
      · exact absurd hk.symm hn
    · rcases (Hp.row_fresh h.wf c el z j q).1 hq with ⟨rfl, rfl⟩ | ⟨_, _, hq⟩
      · exact absurd hk hn
      · exact h.cnt i r j q hr hq hk h1

/-- The machine comes to know a row. -/
def Mu.put (μ : Mu) (i : Nat) (x : Loc) : Mu := fun j => if j = i then some x else μ j
theorem Mu.put_self (μ : Mu) (i : Nat) (x : Loc) : μ.put i x i = some x := by simp [Mu.put]
theorem Mu.put_ne (μ : Mu) {i j : Nat} (x : Loc) (h : j ≠ i) : μ.put i x j = μ j := by simp [Mu.put, h]
theorem Mu.le_put (μ : Mu) {i : Nat} (x : Loc) (h : μ i = none) : μ.Le (μ.put i x) := by
  intro j y hy
  unfold Mu.put
  split
  · rename_i e; subst e; rw [h] at hy; cases hy
  · exact hy
theorem LRel.drop_take_mono {l l' : List Value} {n : Nat} (hle : μ.Le ν) (h : LRel μ l (l'.take n)) : LRel ν l (l'.take n) := h.mono hle

theorem Sim.bind (h : Sim B w0 μ H w) {i : Nat} {r : Row} (hm : μ i = none) (hr : H.row i = some r) (h1 : r.ci.cnt = 1) {c' : Array Value}
    (hl : LRel μ r.c (c'.toList.take r.c.length)) (hs : r.c.length ≤ c'.size) (fr : Nat × Nat) (hfr : fr.1 = fr.2 ∨ c'.size ≤ fr.1) :
    Sim B w0 (μ.put i ⟨w.heap.size, 0, c'.size, r.z⟩) H (w.alloc (.cells c' r.el fr)) := by
  have hle := μ.le_put ⟨w.heap.size, 0, c'.size, r.z⟩ hm
  have hget : (w.alloc (.cells c' r.el fr)).heap[w.heap.size]? = some (.cells c' r.el fr) := by show (w.heap.push _)[w.heap.size]? = _; simp
  have hold : ∀ (k : Nat) (o : Obj), w.heap[k]? = some o → (w.alloc (.cells c' r.el fr)).heap[k]? = some o := by
    intro k o hk
    have : k < w.heap.size := (Array.getElem?_eq_some_iff.1 hk).1
    rw [Below.heap_alloc _ _ _ this]; exact hk
  have hblk : ∀ (j : Nat) (q : Row) (y : Loc), H.row j = some q → μ j = some y → y.b < w.heap.size := by
    intro j q y hq hy
    obtain ⟨c'', fr', hg, _⟩ := h.cells j q y hq hy
    exact (Array.getElem?_eq_some_iff.1 hg).1
  refine { below := h.below.alloc h.base _, base := by have := h.base; simp; omega, wf := h.wf, fin := ?_, cells := ?_, iter := ?_, isep := ?_, sep := ?_, top := ?_, cnt := h.cnt }
  · intro j y hy
    by_cases hj : j = i
    · subst hj; exact (h.wf.row hr).1
    · rw [Mu.put_ne _ _ hj] at hy; exact h.fin _ _ hy
  · intro j q y hq hy
    by_cases hj : j = i
    · subst hj
      rw [Mu.put_self] at hy
      cases hy
      rw [hr] at hq
      cases hq
      exact ⟨c', fr, hget, rfl, by simpa using hs, ⟨rfl, fun _ => rfl⟩, by simpa using hl.mono hle, fun _ => ⟨h.base, hfr⟩⟩
    · rw [Mu.put_ne _ _ hj] at hy
      obtain ⟨c'', fr', hg, e1, e2, e3, e4, e5⟩ := h.cells j q y hq hy
      exact ⟨c'', fr', hold _ _ hg, e1, e2, e3, e4.mono hle, e5⟩
  · intro j s p y hj hy
    by_cases he : j = i
    · subst he
      rw [(Hp.row_eq.1 hr).1] at hj; cases hj
    · rw [Mu.put_ne _ _ he] at hy
      obtain ⟨e1, e2, e3⟩ := h.iter j s p y hj hy
      exact ⟨e1, e2, hold _ _ e3⟩
  · intro j s p y j' s' p' y' hj hj' hy hy'
    by_cases he : j = i
    · subst he
      rw [(Hp.row_eq.1 hr).1] at hj; cases hj
    by_cases he' : j' = i
    · subst he'
      rw [(Hp.row_eq.1 hr).1] at hj'; cases hj'
    rw [Mu.put_ne _ _ he] at hy
    rw [Mu.put_ne _ _ he'] at hy'
    exact h.isep j s p y j' s' p' y' hj hj' hy hy'
  · intro j q y j' q' y' hj hj' hy hy' hb
    by_cases he : j = i
    · by_cases he' : j' = i
      · subst he he'; rw [hj] at hj'; cases hj'; rfl
      · subst he
        rw [Mu.put_self] at hy; cases hy
        rw [Mu.put_ne _ _ he'] at hy'
        have := hblk _ _ _ hj' hy'
        simp only at hb
        omega
    · rw [Mu.put_ne _ _ he] at hy
      by_cases he' : j' = i
      · subst he'
        rw [Mu.put_self] at hy'; cases hy'
        have := hblk _ _ _ hj hy
        simp only at hb
        omega
      · rw [Mu.put_ne _ _ he'] at hy'
        exact h.sep j q y j' q' y' hj hj' hy hy' hb
  · intro j q y q' y' hj hj' hk hy hy' hb
    by_cases he : j = i
    · subst he
      rw [hr] at hj; cases hj
      have := h.cnt j r _ q' hr hj' hk.symm h1
      rw [← this] at hy' hj'
      rw [hr] at hj'; cases hj'
      rw [hy] at hy'; cases hy'
      omega
    · rw [Mu.put_ne _ _ he] at hy
      by_cases he' : q.ci.top = i
      · rw [he', Mu.put_self] at hy'; cases hy'
        have := hblk _ _ _ hj hy
        simp only at hb
        omega
      · rw [Mu.put_ne _ _ he'] at hy'
        exact h.top j q y q' y' hj hj' hk hy hy' hb

/-! ## Reading -/

def Hp.loads (H : Hp) (i off n : Nat) : Option (List Value) :=
  match H.row i with
  | some r => if off + n ≤ r.c.length then some ((r.c.drop off).take n) else none
  | none => none

theorem Sim.loads (h : Sim B w0 μ H w) {i off n : Nat} {x : Loc} {l : List Value} (hm : μ i = some x) (hl : H.loads i off n = some l) :
    ∃ l', LRel μ l l' ∧ l.length = n ∧ l'.length = n ∧ off + x.s + n ≤ x.R ∧ ∀ j v, l'[j]? = some v → w.cell? ⟨x.b, off + x.s + j, none⟩ = some v := by
  unfold Hp.loads at hl
  split at hl
  · rename_i r hr
    split at hl
    · rename_i hle
      simp only [Option.some.injEq] at hl
      subst hl
      obtain ⟨c', fr, hg, e1, e2, e3, e4, e5⟩ := h.cells i r x hr hm
      have hlen : ((c'.toList.drop x.s).take r.c.length).length = r.c.length := e4.1.symm
      have hlen2 : ((r.c.drop off).take n).length = n := by simp; omega
      refine ⟨(((c'.toList.drop x.s).take r.c.length).drop off).take n, (e4.drop off).take n, hlen2, ?_, by omega, ?_⟩
      · rw [← ((e4.drop off).take n).1]; exact hlen2
      · intro j v hj
        have hjn : j < n := by
          have := (List.getElem?_eq_some_iff.1 hj).1
          simp at this; omega
        rw [List.getElem?_take, if_pos hjn, List.getElem?_drop, List.getElem?_take, if_pos (by omega), List.getElem?_drop] at hj
        simp only [World.cell?, hg]
        have : c'[off + x.s + j]? = c'.toList[x.s + (off + j)]? := by
          rw [Array.getElem?_toList]; congr 1; omega
        simp [this, hj]
    · cases hl
  · cases hl

/-! ## Writing -/

def Hp.put (H : Hp) (i off : Nat) (v : Value) : Option Hp :=
  match H.row i with
  | some r =>
    if r.ci.ro then none
    else if off < r.c.length then
      if r.ci.cnt == 1 then some ⟨H.b.set i (.cells (r.c.set off v) r.el r.z r.k), H.n, H.k⟩
      else some ⟨H.b.set i (.cells (r.c.set off v) r.el r.z H.n), H.n + 1, (H.k.set r.k { r.ci with live := false }).set H.n ⟨true, i, 1, false⟩⟩
    else none
  | none => none

theorem Hp.put_spec (wf : H.Wf) (hcnt : ∀ i r j q, H.row i = some r → H.row j = some q → r.k = q.k → r.ci.cnt = 1 → i = j) {i off : Nat} {v : Value} (h : H.put i off v = some H') :
    ∃ r k ci, H.row i = some r ∧ r.ci.ro = false ∧ off < r.c.length ∧ H'.Wf ∧ H.n ≤ H'.n ∧ ci.ro = false ∧ ci.cnt = 1 ∧ H'.row i = some ⟨r.c.set off v, r.el, r.z, k, ci⟩ ∧
      (∀ j q, j ≠ i → H'.row j = some q → H.row j = some q ∧ q.k ≠ r.k ∧ q.k ≠ k) ∧ (∀ j s p, H'.b.get j = some (.iter s p) ↔ H.b.get j = some (.iter s p)) := by
  unfold Hp.put at h
  split at h
  · rename_i r hr
    split at h
    · cases h
    · rename_i hro
      split at h
      · rename_i hoff
        obtain ⟨g1, g2, g3⟩ := Hp.row_eq.1 hr
        have hin := (wf.row hr).1
        have hkn := (wf.row hr).2
        split at h
        · rename_i h1
          have h1 : r.ci.cnt = 1 := by simpa using h1
          simp only [Option.some.injEq] at h
          subst h
          refine ⟨r, r.k, r.ci, hr, by simpa using hro, hoff, ⟨?_, ?_, wf.k⟩, Nat.le_refl _, by simpa using hro, h1, ?_, ?_, ?_⟩
          · intro j x hx
            simp only [Tr.get_set] at hx
            split at hx
            · rename_i e; subst e; exact hin
            · exact wf.b _ _ hx
          · intro j c el z k hx
            simp only [Tr.get_set] at hx
            split at hx
            · simp only [Option.some.injEq, Blk.cells.injEq] at hx
              have : r.k = k := hx.2.2.2
              subst this; exact hkn
            · exact wf.bk _ _ _ _ _ hx
          · rw [Hp.row_eq]; simp [g2, g3]
          · intro j q hj hq
            have hq' : H.row j = some q := by
              rw [Hp.row_eq] at hq ⊢
              simpa [Tr.get_set, hj] using hq
            refine ⟨hq', ?_, ?_⟩ <;> exact fun e => hj (hcnt i r j q hr hq' e.symm h1).symm
          · intro j s p
            simp only [Tr.get_set]
            split
            · rename_i e; subst e; simp [g1]
            · exact Iff.rfl
        · simp only [Option.some.injEq] at h
          subst h
          have hkne : r.k ≠ H.n := by omega
          refine ⟨r, H.n, ⟨true, i, 1, false⟩, hr, by simpa using hro, hoff, ⟨?_, ?_, ?_⟩, by simp, rfl, rfl, ?_, ?_, ?_⟩
          · intro j x hx
            simp only [Tr.get_set] at hx ⊢
            split at hx
            · rename_i e; omega
            · have := wf.b _ _ hx; omega
          · intro j c el z k hx
            simp only [Tr.get_set] at hx ⊢
            split at hx
            · simp only [Option.some.injEq, Blk.cells.injEq] at hx; omega
            · have := wf.bk _ _ _ _ _ hx; omega
          · intro j x hx
            simp only [Tr.get_set] at hx ⊢
            split at hx
            · omega
            · split at hx
              · omega
              · have := wf.k _ _ hx; omega
          · rw [Hp.row_eq]; simp
          · intro j q hj hq
            rw [Hp.row_eq] at hq
            simp only [Tr.get_set, if_neg hj] at hq
            obtain ⟨q1, q2, q3⟩ := hq
            have hqn : q.k ≠ H.n := by have := wf.bk _ _ _ _ _ q1; omega
            rw [if_neg hqn] at q2
            have hqk : q.k ≠ r.k := by
              intro e
              rw [if_pos e] at q2
              simp only [Option.some.injEq] at q2
              rw [← q2] at q3; simp at q3
            rw [if_neg hqk] at q2
            exact ⟨Hp.row_eq.2 ⟨q1, q2, q3⟩, hqk, hqn⟩
          · intro j s p
            simp only [Tr.get_set]
            split
            · rename_i e; subst e; simp [g1]
            · exact Iff.rfl
      · cases h
  · cases h

theorem heap_setCell_self {w : World} {b j : Nat} {v : Value} {c : Array Value} {el : TypeId} {fr : Nat × Nat} (h : w.heap[b]? = some (.cells c el fr)) :
    (w.setCell ⟨b, j, none⟩ v).heap[b]? = some (.cells (c.setIfInBounds j v) el fr) := by
  simp [World.setCell, Array.getElem?_modify, h]

theorem Sim.put (h : Sim B w0 μ H w) {i off : Nat} {x : Loc} {v v' : Value} (hm : μ i = some x) (hp : H.put i off v = some H') (hv : VRel μ v v') :
    Sim B w0 μ H' (w.setCell ⟨x.b, off + x.s, none⟩ v') ∧ (w.cell? ⟨x.b, off + x.s, none⟩).isSome = true ∧ w.frozen? ⟨x.b, off + x.s, none⟩ = false := by
  obtain ⟨r, k, ci, hr, hro, hoff, wf', hn, cro, ccnt, hri, hothers, hiter⟩ := Hp.put_spec h.wf h.cnt hp
  obtain ⟨c', fr, hg, e1, e2, e3, e4, e5⟩ := h.cells i r x hr hm
  obtain ⟨hB, hfr⟩ := e5 hro
  have hself := heap_setCell_self (j := off + x.s) (v := v') hg
  have hoth : ∀ j q y, j ≠ i → H.row j = some q → q.k ≠ r.k → μ j = some y → (w.setCell ⟨x.b, off + x.s, none⟩ v').heap[y.b]? = w.heap[y.b]? := by
    intro j q y hj hq hk hy
    refine Below.heap_setCell _ _ _ _ fun e => ?_
    exact hk (h.sep j q y i r x hq hr hy hm e)
  refine ⟨{ below := h.below.setCell hB _, base := by have := h.base; simp [World.setCell]; exact this, wf := wf', fin := fun j y hy => Nat.lt_of_lt_of_le (h.fin j y hy) hn, cells := ?_, iter := ?_, isep := ?_, sep := ?_, top := ?_, cnt := ?_ }, ?_, ?_⟩
  · intro j q y hq hy
    by_cases hj : j = i
    · subst hj
      rw [hri] at hq; cases hq
      rw [hm] at hy; cases hy
      refine ⟨_, fr, hself, by simpa using e1, by simpa using e2, e3, ?_, fun _ => ⟨hB, hfr⟩⟩
      rw [Array.toList_setIfInBounds, List.length_set, List.drop_set, if_neg (by omega), List.take_set, show off + x.s - x.s = off by omega]
      exact e4.set off hv
    · obtain ⟨hq', hk1, _⟩ := hothers j q hj hq
      obtain ⟨c'', fr', hg', rest⟩ := h.cells j q y hq' hy
      exact ⟨c'', fr', by rw [hoth j q y hj hq' hk1 hy]; exact hg', rest⟩
  · intro j s p y hj hy
    obtain ⟨a1, a2, a3⟩ := h.iter j s p y ((hiter j s p).1 hj) hy
    refine ⟨a1, a2, ?_⟩
    rw [Below.heap_setCell _ _ _ _ ?_]; exact a3
    intro e
    rw [e] at a3
    simp only at a3
    rw [hg] at a3; cases a3
  · intro j s p y j' s' p' y' hj hj'
    exact h.isep j s p y j' s' p' y' ((hiter j s p).1 hj) ((hiter j' s' p').1 hj')
  · intro j q y j' q' y' hq hq' hy hy' hb
    by_cases hj : j = i
    · by_cases hj' : j' = i
      · subst hj; subst hj'; rw [hq] at hq'; cases hq'; rfl
      · subst hj
        obtain ⟨hq', hk1, _⟩ := hothers j' q' hj' hq'
        exact absurd (h.sep j' q' y' j r x hq' hr hy' hm (by rw [hm] at hy; cases hy; exact hb.symm)) hk1
    · obtain ⟨hq, hk1, _⟩ := hothers j q hj hq
      by_cases hj' : j' = i
      · subst hj'
        exact absurd (h.sep j q y j' r x hq hr hy hm (by rw [hm] at hy'; cases hy'; exact hb)) hk1
      · obtain ⟨hq', _, _⟩ := hothers j' q' hj' hq'
        exact h.sep j q y j' q' y' hq hq' hy hy' hb
  · intro j q y q' y' hq hq' hk hy hy' hb
    by_cases hj : j = i
    · subst hj
      rw [hri] at hq; cases hq
      by_cases ht : ci.top = j
      · rw [ht] at hq' hy'
        rw [hri] at hq'; cases hq'
        rw [hy] at hy'; cases hy'
        exact Nat.le_refl _
      · exact absurd hk (hothers _ q' ht hq').2.2
    · obtain ⟨hqo, hk1, hk2⟩ := hothers j q hj hq
      by_cases ht : q.ci.top = i
      · rw [ht, hri] at hq'; cases hq'
        exact absurd hk.symm hk2
      · obtain ⟨hq'o, _, _⟩ := hothers _ q' ht hq'
        exact h.top j q y q' y' hqo hq'o hk hy hy' hb
  · intro j q j' q' hq hq' hk h1
    by_cases hj : j = i
    · subst hj
      rw [hri] at hq; cases hq
      by_cases hj' : j' = j
      · exact hj'.symm
      · exact absurd hk.symm (hothers j' q' hj' hq').2.2
    · obtain ⟨hqo, hk1, hk2⟩ := hothers j q hj hq
      by_cases hj' : j' = i
      · subst hj'; rw [hri] at hq'; cases hq'
        exact absurd hk hk2
      · exact h.cnt j q j' q' hqo (hothers j' q' hj' hq').1 hk h1
  · have : off + x.s < c'.size := by omega
    simp [World.cell?, hg, this]
  · simp only [World.frozen?, hg]
    rcases hfr with hfr | hfr
    · simp; omega
    · simp; omega

def Hp.puts (H : Hp) (i off : Nat) : List Value → Option Hp
  | [] => some H
  | v :: l => (H.put i off v).bind fun H => H.puts i (off + 1) l

theorem addr_add (b o i : Nat) : (⟨b, o, none⟩ : Addr).add i = ⟨b, o + i, none⟩ := by
  unfold Addr.add; split
  · rename_i h; subst h; rfl
  · rfl

theorem VRel.oneCell {v v' : Value} (h : VRel μ v v') : v'.oneCell' = v.oneCell' := by cases h <;> rfl

theorem Sim.puts (P : Program) {i : Nat} {x : Loc} (hm : μ i = some x) : ∀ (vs vs' : List Value) (off k : Nat) (H : Hp) (w : World), Sim B w0 μ H w → H.puts i (off + k) vs = some H' →
    LRel μ vs vs' → (∀ v ∈ vs, v.oneCell' = true) → ∃ w', (storeCells ⟨x.b, off + x.s, none⟩ vs' k).run P w = .ok () w' ∧ Sim B w0 μ H' w' := by
  intro vs
  induction vs with
  | nil =>
    intro vs' off k H w h hp hl _
    rw [hl.nil_inv]
    simp only [Hp.puts, Option.some.injEq] at hp
    subst hp
    exact ⟨w, rfl, h⟩
  | cons v l ih =>
    intro vs' off k H w h hp hl h1
    obtain ⟨v', l', rfl, hv, hl⟩ := hl.cons_inv
    simp only [Hp.puts] at hp
    cases hput : H.put i (off + k) v with
    | none => rw [hput] at hp; cases hp
    | some H1 =>
      rw [hput] at hp
      simp only [Option.bind_some] at hp
      obtain ⟨s1, s2, s3⟩ := h.put hm hput hv
      obtain ⟨w', hrun, hs⟩ := ih l' off (k + 1) H1 _ s1 (by rw [← Nat.add_assoc]; exact hp) hl (fun u hu => h1 u (by simp [hu]))
      refine ⟨w', ?_, hs⟩
      simp only [storeCells, Sem.run_bind, addr_add]
      rw [run_store P w _ _ _ (by rw [hv.oneCell]; exact h1 v (by simp))]
      rw [show off + x.s + k = off + k + x.s by omega]
      obtain ⟨u, hu⟩ := Option.isSome_iff_exists.1 s2
      rw [hu]
      simp only [s3, Bool.false_eq_true, if_false, Result.andThen_ok]
      exact hrun

/-- Stores into a block, one behind the other. -/
theorem run_storeCells_block (P : Program) (b : Nat) (el : TypeId) (fr : Nat × Nat) : ∀ (vs : List Value) (o k : Nat) (c : Array Value) (w : World), w.heap[b]? = some (.cells c el fr) → o + k + vs.length ≤ c.size →
    (fr.1 = fr.2 ∨ c.size ≤ fr.1) → (∀ v ∈ vs, v.oneCell' = true) → ∃ w' c', (storeCells ⟨b, o, none⟩ vs k).run P w = .ok () w' ∧ w'.heap[b]? = some (.cells c' el fr) ∧
      c'.toList = c.toList.take (o + k) ++ vs ++ c.toList.drop (o + k + vs.length) ∧ (∀ j, j ≠ b → w'.heap[j]? = w.heap[j]?) ∧ w'.heap.size = w.heap.size ∧ w'.os = w.os ∧ w'.tape = w.tape ∧ w'.output = w.output := by
  intro vs
  induction vs with
  | nil =>
    intro o k c w hg _ _ _
    exact ⟨w, c, rfl, hg, by simp, fun _ _ => rfl, rfl, rfl, rfl, rfl⟩
  | cons v l ih =>
    intro o k c w hg hle hfr h1
    simp only [List.length_cons] at hle
    have hg' := heap_setCell_self (j := o + k) (v := v) hg
    obtain ⟨w', c', hrun, hg2, hc', hoth, hsz, h2, h3, h4⟩ := ih o (k + 1) (c.setIfInBounds (o + k) v) (w.setCell ⟨b, o + k, none⟩ v) hg' (by simp; omega) (by simpa using hfr) (fun u hu => h1 u (by simp [hu]))
    refine ⟨w', c', ?_, hg2, ?_, ?_, ?_, h2, h3, h4⟩
    · simp only [storeCells, Sem.run_bind, addr_add]
      rw [run_store P w _ _ _ (h1 v (by simp))]
      have hc : w.cell? ⟨b, o + k, none⟩ = some c[o + k] := by simp [World.cell?, hg, show o + k < c.size by omega]
      have hf : w.frozen? ⟨b, o + k, none⟩ = false := by
        simp only [World.frozen?, hg]
        rcases hfr with hfr | hfr
        · simp; omega
        · simp; omega
      rw [hc]
      simp only [hf, Bool.false_eq_true, if_false, Result.andThen_ok]
      exact hrun
    · rw [hc', Array.toList_setIfInBounds]
      have hk : o + k < c.toList.length := by simp; omega
      rw [show o + (k + 1) = o + k + 1 by omega, List.length_cons, List.drop_set, if_pos (by omega), List.take_set]
      rw [List.take_add_one, List.getElem?_eq_getElem hk]
      simp only [Option.toList_some]
      rw [List.set_append, if_neg (by simp; omega)]
      have : o + k - (List.take (o + k) c.toList).length = 0 := by simp; omega
      rw [this]
      simp only [List.set_cons_zero, List.append_assoc, List.singleton_append]
      rw [show o + k + 1 + l.length = o + k + (l.length + 1) by omega]
    · intro j hj
      rw [hoth j hj]
      exact Below.heap_setCell _ _ _ _ hj
    · rw [hsz]; simp [World.setCell]

/-! ## Growing: a slice's cells and new ones: in the old block, or in a new one -/

/-- The old row's part from 'off' on ('m' cells) and new cells; the numbers of the new row. -/
def Hp.extend (H : Hp) (i off m : Nat) (new : List Value) (el : TypeId) (z : Nat) : Option Hp :=
  match H.row i with
  | some r =>
    if r.ci.ro || r.el != el || r.z != z || r.c.length < off + m || z == 0 then none
    else
      let old := (r.c.drop off).take m
      if off + m == r.c.length then
        if r.ci.top == i then some ⟨H.b.set H.n (.cells (old ++ new) el z r.k), H.n + 1, H.k.set r.k { r.ci with top := H.n, cnt := r.ci.cnt + 2 }⟩
        else some ⟨(H.b.set i (.cells r.c r.el r.z H.n)).set H.n (.cells (old ++ new) el z H.n), H.n + 1, (H.k.set r.k { r.ci with live := false }).set H.n ⟨true, H.n, 2, false⟩⟩
      else some ⟨H.b.set H.n (.cells (old ++ new) el z H.n), H.n + 1, (H.k.set r.k { r.ci with live := false }).set H.n ⟨true, H.n, 1, false⟩⟩
  | none => none

/-- What extend leaves: the new row; the others that still are, each as it was; which of them are the new one's kin. -/
theorem Hp.extend_spec (wf : H.Wf) {i off m : Nat} {new : List Value} {el : TypeId} {z : Nat} (h : H.extend i off m new el z = some H') :
    ∃ (r : Row) (kn : Nat) (cin : Cls), H.row i = some r ∧ r.ci.ro = false ∧ r.el = el ∧ (r.z = z ∧ z ≠ 0) ∧ off + m ≤ r.c.length ∧ H'.Wf ∧ H'.n = H.n + 1 ∧ cin.top = H.n ∧ cin.ro = false ∧
      (cin.cnt = 1 → off + m ≠ r.c.length) ∧ H'.row H.n = some ⟨(r.c.drop off).take m ++ new, el, z, kn, cin⟩ ∧
      (∀ j q', j ≠ H.n → H'.row j = some q' → ∃ q, H.row j = some q ∧ q'.c = q.c ∧ q'.el = q.el ∧ q'.z = q.z ∧ q'.ci.ro = q.ci.ro ∧
        ((q'.k = kn ∧ q.k = r.k ∧ off + m = r.c.length ∧ (j = i ∨ r.ci.top = i)) ∨ (q'.k = q.k ∧ q'.ci = q.ci ∧ q.k ≠ r.k ∧ q'.k ≠ kn))) ∧
      (∀ j s p, H'.b.get j = some (.iter s p) ↔ H.b.get j = some (.iter s p)) := by
  unfold Hp.extend at h
  split at h
  · rename_i r hr
    split at h
    · cases h
    · rename_i hc
      simp only [Bool.or_eq_true, decide_eq_true_eq, bne_iff_ne, ne_eq, not_or, Bool.not_eq_true, Decidable.not_not, Nat.not_lt, beq_iff_eq] at hc
      obtain ⟨⟨⟨⟨hro, hel⟩, hz1⟩, hle⟩, hz2⟩ := hc
      have hz : r.z = z ∧ z ≠ 0 := ⟨hz1, hz2⟩
      obtain ⟨g1, g2, g3⟩ := Hp.row_eq.1 hr
      obtain ⟨hin, hkn⟩ := wf.row hr
      have hkne : r.k ≠ H.n := by omega
      have hine : i ≠ H.n := by omega
      have hit : ∀ (j : Nat) (s : ByteArray) (p : Nat) (x : Blk), (∀ s p, x ≠ .iter s p) → ((H.b.set H.n x).get j = some (.iter s p) ↔ H.b.get j = some (.iter s p)) := by
        intro j s p x hx
        rw [Tr.get_set]
        split
        · rename_i e; subst e
          constructor
          · intro h; exact absurd (Option.some.inj h) (hx s p)
          · intro h; have := wf.b _ _ h; omega
        · exact Iff.rfl
      dsimp only at h
      split at h
      · rename_i hend
        have hend : off + m = r.c.length := by simpa using hend
        split at h
        · rename_i htop
          have htop : r.ci.top = i := by simpa using htop
          simp only [Option.some.injEq] at h
          subst h
          refine ⟨r, r.k, { r.ci with top := H.n, cnt := r.ci.cnt + 2 }, hr, hro, hel, hz, hle, ⟨?_, ?_, ?_⟩, rfl, rfl, hro, fun h => by simp at h, ?_, ?_, fun j s p => hit j s p _ (by simp)⟩
          · intro j x hx
            simp only [Tr.get_set] at hx ⊢
            split at hx
            · omega
            · have := wf.b _ _ hx; omega
          · intro j c el z k hx
            simp only [Tr.get_set] at hx ⊢
            split at hx
            · simp only [Option.some.injEq, Blk.cells.injEq] at hx; omega
            · have := wf.bk _ _ _ _ _ hx; omega
          · intro j x hx
            simp only [Tr.get_set] at hx ⊢
            split at hx
            · omega
            · have := wf.k _ _ hx; omega
          · rw [Hp.row_eq]; simp [g3]
          · intro j q' hj hq
            rw [Hp.row_eq] at hq
            simp only [Tr.get_set, if_neg hj] at hq
            obtain ⟨q1, q2, q3⟩ := hq
            by_cases hk : q'.k = r.k
            · rw [if_pos hk] at q2
              refine ⟨⟨q'.c, q'.el, q'.z, q'.k, r.ci⟩, Hp.row_eq.2 ⟨q1, by rw [hk]; exact g2, g3⟩, rfl, rfl, rfl, ?_, .inl ⟨hk, hk, hend, .inr htop⟩⟩
              rw [← Option.some.inj q2]
            · rw [if_neg hk] at q2
              exact ⟨q', Hp.row_eq.2 ⟨q1, q2, q3⟩, rfl, rfl, rfl, rfl, .inr ⟨rfl, rfl, hk, hk⟩⟩
        · simp only [Option.some.injEq] at h
          subst h
          refine ⟨r, H.n, ⟨true, H.n, 2, false⟩, hr, hro, hel, hz, hle, ⟨?_, ?_, ?_⟩, rfl, rfl, rfl, fun h => by simp at h, ?_, ?_, ?_⟩
          · intro j x hx
            simp only [Tr.get_set] at hx ⊢
            split at hx
            · omega
            · split at hx
              · omega
              · have := wf.b _ _ hx; omega
          · intro j c el z k hx
            simp only [Tr.get_set] at hx ⊢
            split at hx
            · simp only [Option.some.injEq, Blk.cells.injEq] at hx; omega
            · split at hx
              · simp only [Option.some.injEq, Blk.cells.injEq] at hx; omega
              · have := wf.bk _ _ _ _ _ hx; omega
          · intro j x hx
            simp only [Tr.get_set] at hx ⊢
            split at hx
            · omega
            · split at hx
              · omega
              · have := wf.k _ _ hx; omega
          · rw [Hp.row_eq]; simp
          · intro j q' hj hq
            rw [Hp.row_eq] at hq
            simp only [Tr.get_set, if_neg hj] at hq
            obtain ⟨q1, q2, q3⟩ := hq
            by_cases hji : j = i
            · subst hji
              simp only [if_true, Option.some.injEq, Blk.cells.injEq] at q1
              obtain ⟨a1, a2, a3, a4⟩ := q1
              rw [← a4] at q2
              simp only [if_true, Option.some.injEq] at q2
              refine ⟨r, hr, a1.symm, a2.symm, a3.symm, ?_, .inl ⟨a4.symm, rfl, hend, .inl rfl⟩⟩
              rw [← q2, hro]
            · rw [if_neg hji] at q1
              have hqn : q'.k ≠ H.n := by have := wf.bk _ _ _ _ _ q1; omega
              rw [if_neg hqn] at q2
              by_cases hk : q'.k = r.k
              · rw [if_pos hk] at q2
                rw [← Option.some.inj q2] at q3; simp at q3
              · rw [if_neg hk] at q2
                exact ⟨q', Hp.row_eq.2 ⟨q1, q2, q3⟩, rfl, rfl, rfl, rfl, .inr ⟨rfl, rfl, hk, hqn⟩⟩
          · intro j s p
            show ((H.b.set i _).set H.n _).get j = _ ↔ _
            rw [Tr.get_set]
            split
            · rename_i e; subst e
              constructor
              · intro h; simp at h
              · intro h; have := wf.b _ _ h; omega
            · rw [Tr.get_set]
              split
              · rename_i e; subst e
                simp [g1]
              · exact Iff.rfl
      · rename_i hend
        have hend : off + m ≠ r.c.length := by simpa using hend
        simp only [Option.some.injEq] at h
        subst h
        refine ⟨r, H.n, ⟨true, H.n, 1, false⟩, hr, hro, hel, hz, hle, ⟨?_, ?_, ?_⟩, rfl, rfl, rfl, fun _ => hend, ?_, ?_, fun j s p => hit j s p _ (by simp)⟩
        · intro j x hx
          simp only [Tr.get_set] at hx ⊢
          split at hx
          · omega
          · have := wf.b _ _ hx; omega
        · intro j c el z k hx
          simp only [Tr.get_set] at hx ⊢
          split at hx
          · simp only [Option.some.injEq, Blk.cells.injEq] at hx; omega
          · have := wf.bk _ _ _ _ _ hx; omega
        · intro j x hx
          simp only [Tr.get_set] at hx ⊢
          split at hx
          · omega
          · split at hx
            · omega
            · have := wf.k _ _ hx; omega
        · rw [Hp.row_eq]; simp
        · intro j q' hj hq
          rw [Hp.row_eq] at hq
          simp only [Tr.get_set, if_neg hj] at hq
          obtain ⟨q1, q2, q3⟩ := hq
          have hqn : q'.k ≠ H.n := by have := wf.bk _ _ _ _ _ q1; omega
          rw [if_neg hqn] at q2
          by_cases hk : q'.k = r.k
          · rw [if_pos hk] at q2
            rw [← Option.some.inj q2] at q3; simp at q3
          · rw [if_neg hk] at q2
            exact ⟨q', Hp.row_eq.2 ⟨q1, q2, q3⟩, rfl, rfl, rfl, rfl, .inr ⟨rfl, rfl, hk, hqn⟩⟩
  · cases h

theorem cut_keep (l n r : List Value) (p s k : Nat) (hp : p ≤ l.length) (h : s + k ≤ p) : ((l.take p ++ n ++ r).drop s).take k = (l.drop s).take k := by
  apply List.ext_getElem?
  intro j
  simp only [List.getElem?_take, List.getElem?_drop, List.getElem?_append, List.length_append, List.length_take]
  by_cases hj : j < k
  · rw [if_pos hj, if_pos hj, if_pos (by omega), if_pos (by omega), if_pos (by omega)]
  · rw [if_neg hj, if_neg hj]
theorem cut_new (l n r : List Value) (p s m : Nat) (hp : p ≤ l.length) (h : s + m = p) : ((l.take p ++ n ++ r).drop s).take (m + n.length) = (l.drop s).take m ++ n := by
  apply List.ext_getElem?
  intro j
  simp only [List.getElem?_take, List.getElem?_drop, List.getElem?_append, List.length_append, List.length_take, List.length_drop]
  by_cases hj : j < m
  · rw [if_pos (by omega), if_pos (by omega), if_pos (by omega), if_pos (by omega), if_pos (by omega), if_pos hj]
  · by_cases hj2 : j < m + n.length
    · rw [if_pos hj2, if_pos (by omega), if_neg (by omega), if_neg (by omega)]
      congr 1; omega
    · rw [if_neg hj2, if_neg (by omega), List.getElem?_eq_none (by omega)]

/-- The machine grew the slice in its old block. -/
theorem Sim.extendIn (P : Program) (h : Sim B w0 μ H w) {i off m : Nat} {x : Loc} {new new' : List Value} {el : TypeId} {z : Nat} (hm : μ i = some x) (he : H.extend i off m new el z = some H')
    (hl : LRel μ new new') (h1 : ∀ v ∈ new, v.oneCell' = true) (hR : off + x.s + m + new.length ≤ x.R) :
    ∃ w', (storeCells ⟨x.b, off + x.s + m, none⟩ new').run P w = .ok () w' ∧ Sim B w0 (μ.put H.n ⟨x.b, off + x.s, x.R, z⟩) H' w' ∧ μ H.n = none := by
  obtain ⟨r, kn, cin, hr, hro, hel, hz, hle, wf', hn, htop, hcro, hcnt1, hnew, hold, hiter⟩ := Hp.extend_spec h.wf he
  obtain ⟨c', fr, hg, e1, e2, e3, e4, e5⟩ := h.cells i r x hr hm
  obtain ⟨hB, hfr⟩ := e5 hro
  have hnone : μ H.n = none := by
    cases hμ : μ H.n with
    | none => rfl
    | some y => have := h.fin _ _ hμ; omega
  have hmle := μ.le_put ⟨x.b, off + x.s, x.R, z⟩ hnone
  have hlen : new'.length = new.length := hl.1.symm
  have h1' : ∀ v ∈ new', v.oneCell' = true := by
    intro v hv
    obtain ⟨j, hj⟩ := List.mem_iff_getElem?.1 hv
    have hj2 : j < new.length := by rw [← hlen]; exact (List.getElem?_eq_some_iff.1 hj).1
    obtain ⟨v', hv', hr'⟩ := hl.get? (List.getElem?_eq_getElem hj2)
    rw [hj] at hv'; cases hv'
    rw [hr'.oneCell]; exact h1 _ (List.getElem_mem hj2)
  obtain ⟨w', c'', hrun, hg2, hc'', hoth, hsz, ho1, ho2, ho3⟩ := run_storeCells_block P x.b r.el fr new' (off + x.s + m) 0 c' w hg (by omega) (by rw [e1]; exact hfr) h1'
  have hbel : Below B w w' := ⟨ho1, ho2, ho3, by omega, fun k hk => hoth k (by omega)⟩
  have hsize'' : c''.size = x.R := by
    have := congrArg List.length hc''
    simp only [Array.length_toList, List.length_append, List.length_take, List.length_drop, hlen] at this
    omega
  -- a row of the same block whose end lies not behind the old one's
  have hkeep : ∀ (y : Loc) (q : Row), y.b = x.b → y.s + q.c.length ≤ off + x.s + m → ((c''.toList.drop y.s).take q.c.length) = ((c'.toList.drop y.s).take q.c.length) := by
    intro y q _ hend
    rw [hc'', Nat.add_zero]
    have hcl : c'.toList.length = x.R := by simpa using e1
    exact cut_keep _ _ _ _ _ _ (by omega) (by omega)
  refine ⟨w', hrun, ?_, hnone⟩
  have hrlen : ((r.c.drop off).take m).length = m := by simp; omega
  refine { below := h.below.trans hbel, base := by have := h.base; omega, wf := wf', fin := ?_, cells := ?_, iter := ?_, isep := ?_, sep := ?_, top := ?_, cnt := ?_ }
  · intro j y hy
    by_cases hj : j = H.n
    · omega
    · rw [Mu.put_ne _ _ hj] at hy; have := h.fin _ _ hy; omega
  · intro j q' y hq hy
    by_cases hj : j = H.n
    · subst hj
      rw [Mu.put_self] at hy; cases hy
      rw [hnew] at hq; cases hq
      refine ⟨c'', fr, by rw [← hel]; exact hg2, hsize'', by simp only [List.length_append, hrlen]; omega, ⟨rfl, fun e => absurd e hz.2⟩, ?_, fun _ => ⟨hB, hfr⟩⟩
      simp only [List.length_append, hrlen]
      have hcl : c'.toList.length = x.R := by simpa using e1
      rw [hc'', Nat.add_zero, ← hlen, cut_new _ _ _ _ _ _ (by omega) rfl]
      refine LRel.append ?_ (hl.mono hmle)
      have := ((e4.drop off).take m).mono hmle
      rw [List.drop_take, List.drop_drop, List.take_take, show min m (r.c.length - off) = m by omega] at this
      rw [Nat.add_comm x.s off] at this
      exact this
    · rw [Mu.put_ne _ _ hj] at hy
      obtain ⟨q, hq, ec, eel, ez, ero, hk⟩ := hold j q' hj hq
      obtain ⟨d, fr', hgd, d1, d2, d3, d4, d5⟩ := h.cells j q y hq hy
      rw [ec, eel, ez, ero]
      by_cases hb : y.b = x.b
      · have hkk : q.k = r.k := h.sep j q y i r x hq hr hy hm hb
        rcases hk with ⟨_, _, hend, htp⟩ | ⟨_, _, hne, _⟩
        · rw [hb, hg] at hgd
          simp only [Option.some.injEq, Obj.cells.injEq] at hgd
          obtain ⟨rfl, helq, rfl⟩ := hgd
          have hyend : y.s + q.c.length ≤ off + x.s + m := by
            rcases htp with rfl | htp
            · rw [hr] at hq; cases hq
              rw [hm] at hy; cases hy
              omega
            · have hci := Hp.row_kin hq hr hkk
              have := h.top j q y r x hq (by rw [hci, htp]; exact hr) hkk.symm hy (by rw [hci, htp]; exact hm) hb
              omega
          refine ⟨c'', fr, ?_, by rw [hsize'']; omega, d2, d3, ?_, d5⟩
          · rw [hb, ← helq]; exact hg2
          · rw [hkeep y q hb hyend]; exact d4.mono hmle
        · exact absurd hkk hne
      · exact ⟨d, fr', by rw [hoth _ hb]; exact hgd, d1, d2, d3, d4.mono hmle, d5⟩
  · intro j s p y hj hy
    have hj' := (hiter j s p).1 hj
    have hne : j ≠ H.n := by have := h.wf.b _ _ hj'; omega
    rw [Mu.put_ne _ _ hne] at hy
    obtain ⟨a1, a2, a3⟩ := h.iter j s p y hj' hy
    refine ⟨a1, a2, ?_⟩
    rw [hoth _ ?_]; exact a3
    intro e; rw [e, hg] at a3; cases a3
  · intro j s p y j' s' p' y' hj hj' hy hy'
    have hj := (hiter j s p).1 hj
    have hj' := (hiter j' s' p').1 hj'
    rw [Mu.put_ne _ _ (by have := h.wf.b _ _ hj; omega)] at hy
    rw [Mu.put_ne _ _ (by have := h.wf.b _ _ hj'; omega)] at hy'
    exact h.isep j s p y j' s' p' y' hj hj' hy hy'
  · intro j q y j' q' y' hq hq' hy hy' hb
    by_cases hj : j = H.n
    · by_cases hj' : j' = H.n
      · subst hj; subst hj'; rw [hq] at hq'; cases hq'; rfl
      · subst hj
        rw [Mu.put_self] at hy; cases hy
        rw [hnew] at hq; cases hq
        rw [Mu.put_ne _ _ hj'] at hy'
        obtain ⟨p, hp, _, _, _, _, hk⟩ := hold j' q' hj' hq'
        have hkk : p.k = r.k := h.sep j' p y' i r x hp hr hy' hm hb.symm
        rcases hk with ⟨hk, _⟩ | ⟨_, _, hne, _⟩
        · exact hk.symm
        · exact absurd hkk hne
    · rw [Mu.put_ne _ _ hj] at hy
      obtain ⟨p, hp, _, _, _, _, hk⟩ := hold j q hj hq
      by_cases hj' : j' = H.n
      · subst hj'
        rw [Mu.put_self] at hy'; cases hy'
        rw [hnew] at hq'; cases hq'
        have hkk : p.k = r.k := h.sep j p y i r x hp hr hy hm hb
        rcases hk with ⟨hk, _⟩ | ⟨_, _, hne, _⟩
        · exact hk
        · exact absurd hkk hne
      · rw [Mu.put_ne _ _ hj'] at hy'
        obtain ⟨p', hp', _, _, _, _, hk'⟩ := hold j' q' hj' hq'
        have := h.sep j p y j' p' y' hp hp' hy hy' hb
        rcases hk with ⟨a1, a2, _⟩ | ⟨a1, _, a2, _⟩
        · rcases hk' with ⟨b1, b2, _⟩ | ⟨b1, _, b2, _⟩
          · rw [a1, b1]
          · exact absurd (this ▸ a2) b2
        · rcases hk' with ⟨b1, b2, _⟩ | ⟨b1, _, b2, _⟩
          · exact absurd (this.trans b2) a2
          · rw [a1, b1, this]
  · intro j q y q' y' hq hq' hk hy hy' hb
    by_cases hj : j = H.n
    · subst hj
      rw [hnew] at hq; cases hq
      simp only [htop] at hq' hy'
      rw [hnew] at hq'; cases hq'
      rw [Mu.put_self] at hy hy'; cases hy; cases hy'
      exact Nat.le_refl _
    · rw [Mu.put_ne _ _ hj] at hy
      obtain ⟨p, hp, ec, _, _, _, hkk⟩ := hold j q hj hq
      rcases hkk with ⟨a1, a2, hend, htp⟩ | ⟨a1, aci, a2, a3⟩
      · have hci := Hp.row_kin hq hnew a1
        rw [hci] at hq' hy'
        simp only [htop] at hq' hy'
        rw [hnew] at hq'; cases hq'
        rw [Mu.put_self] at hy'; cases hy'
        simp only [List.length_append, hrlen]
        rw [ec]
        rcases htp with rfl | htp
        · rw [hr] at hp; cases hp
          rw [hm] at hy; cases hy
          omega
        · have hci := Hp.row_kin hp hr a2
          have := h.top j p y r x hp (by rw [hci, htp]; exact hr) a2.symm hy (by rw [hci, htp]; exact hm) hb
          omega
      · by_cases ht : q.ci.top = H.n
        · rw [ht, hnew] at hq'; cases hq'
          exact absurd hk.symm a3
        · rw [Mu.put_ne _ _ ht] at hy'
          obtain ⟨p', hp', ec', _, _, _, hk'⟩ := hold _ q' ht hq'
          rw [ec, ec']
          rcases hk' with ⟨b1, _⟩ | ⟨b1, _, _, _⟩
          · exact absurd (hk.symm.trans b1) a3
          · exact h.top j p y p' y' hp (by rw [← aci]; exact hp') (by rw [← b1, hk, a1]) hy (by rw [← aci]; exact hy') hb
  · intro j q j' q' hq hq' hk hc1
    by_cases hj : j = H.n
    · subst hj
      rw [hnew] at hq; cases hq
      by_cases hj' : j' = H.n
      · exact hj'.symm
      · obtain ⟨p', _, _, _, _, _, hk'⟩ := hold j' q' hj' hq'
        rcases hk' with ⟨_, _, hend, _⟩ | ⟨_, _, _, b3⟩
        · exact absurd hend (hcnt1 hc1)
        · exact absurd hk.symm b3
    · obtain ⟨p, hp, _, _, _, _, hkk⟩ := hold j q hj hq
      rcases hkk with ⟨a1, a2, hend, htp⟩ | ⟨a1, aci, a2, a3⟩
      · have hci := Hp.row_kin hq hnew a1
        rw [hci] at hc1
        exact absurd hend (hcnt1 hc1)
      · by_cases hj' : j' = H.n
        · subst hj'; rw [hnew] at hq'; cases hq'
          exact absurd hk a3
        · obtain ⟨p', hp', _, _, _, _, hk'⟩ := hold j' q' hj' hq'
          rcases hk' with ⟨b1, _⟩ | ⟨b1, _, _, _⟩
          · exact absurd (hk.trans b1) a3
          · exact h.cnt j p j' p' hp hp' (by rw [← a1, hk, b1]) (by rw [← aci]; exact hc1)

/-- The machine put the grown slice into a new block. -/
theorem Sim.extendNew (h : Sim B w0 μ H w) {i off m : Nat} {new old : List Value} {el : TypeId} {z : Nat} (he : H.extend i off m new el z = some H') (ho : H.loads i off m = some old)
    {c' : Array Value} (hl : LRel μ (old ++ new) (c'.toList.take (m + new.length))) (hs : m + new.length ≤ c'.size) :
    Sim B w0 (μ.put H.n ⟨w.heap.size, 0, c'.size, z⟩) H' (w.alloc (.cells c' el)) ∧ μ H.n = none := by
  obtain ⟨r, kn, cin, hr, hro, hel, hz, hle, wf', hn, htop, hcro, hcnt1, hnew, hold, hiter⟩ := Hp.extend_spec h.wf he
  have hnone : μ H.n = none := by
    cases hμ : μ H.n with
    | none => rfl
    | some y => have := h.fin _ _ hμ; omega
  have hmle := μ.le_put ⟨w.heap.size, 0, c'.size, z⟩ hnone
  have hrlen : ((r.c.drop off).take m).length = m := by simp; omega
  have hold' : old = (r.c.drop off).take m := by
    simp only [Hp.loads, hr, if_pos hle, Option.some.injEq] at ho
    exact ho.symm
  have hget : (w.alloc (.cells c' el)).heap[w.heap.size]? = some (.cells c' el (0, 0)) := by show (w.heap.push _)[w.heap.size]? = _; simp
  have hkeep : ∀ (k : Nat) (o : Obj), w.heap[k]? = some o → (w.alloc (.cells c' el)).heap[k]? = some o := by
    intro k o hk
    have : k < w.heap.size := (Array.getElem?_eq_some_iff.1 hk).1
    rw [Below.heap_alloc _ _ _ this]; exact hk
  have hblk : ∀ (j : Nat) (q : Row) (y : Loc), H.row j = some q → μ j = some y → y.b < w.heap.size := by
    intro j q y hq hy
    obtain ⟨c'', fr', hg, _⟩ := h.cells j q y hq hy
    exact (Array.getElem?_eq_some_iff.1 hg).1
  refine ⟨{ below := h.below.alloc h.base _, base := by have := h.base; simp; omega, wf := wf', fin := ?_, cells := ?_, iter := ?_, isep := ?_, sep := ?_, top := ?_, cnt := ?_ }, hnone⟩
  · intro j y hy
    by_cases hj : j = H.n
    · omega
    · rw [Mu.put_ne _ _ hj] at hy; have := h.fin _ _ hy; omega
  · intro j q' y hq hy
    by_cases hj : j = H.n
    · subst hj
      rw [Mu.put_self] at hy; cases hy
      rw [hnew] at hq; cases hq
      refine ⟨c', (0, 0), hget, rfl, by simp only [List.length_append, hrlen]; omega, ⟨rfl, fun _ => rfl⟩, ?_, fun _ => ⟨h.base, .inl rfl⟩⟩
      simp only [List.length_append, hrlen, List.drop_zero]
      rw [← hold']
      exact hl.mono hmle
    · rw [Mu.put_ne _ _ hj] at hy
      obtain ⟨q, hq, ec, eel, ez, ero, hk⟩ := hold j q' hj hq
      obtain ⟨d, fr', hgd, d1, d2, d3, d4, d5⟩ := h.cells j q y hq hy
      rw [ec, eel, ez, ero]
      exact ⟨d, fr', hkeep _ _ hgd, d1, d2, d3, d4.mono hmle, d5⟩
  · intro j s p y hj hy
    have hj' := (hiter j s p).1 hj
    have hne : j ≠ H.n := by have := h.wf.b _ _ hj'; omega
    rw [Mu.put_ne _ _ hne] at hy
    obtain ⟨a1, a2, a3⟩ := h.iter j s p y hj' hy
    exact ⟨a1, a2, hkeep _ _ a3⟩
  · intro j s p y j' s' p' y' hj hj' hy hy'
    have hj := (hiter j s p).1 hj
    have hj' := (hiter j' s' p').1 hj'
    rw [Mu.put_ne _ _ (by have := h.wf.b _ _ hj; omega)] at hy
    rw [Mu.put_ne _ _ (by have := h.wf.b _ _ hj'; omega)] at hy'
    exact h.isep j s p y j' s' p' y' hj hj' hy hy'
  · intro j q y j' q' y' hq hq' hy hy' hb
    by_cases hj : j = H.n
    · by_cases hj' : j' = H.n
      · subst hj; subst hj'; rw [hq] at hq'; cases hq'; rfl
      · subst hj
        rw [Mu.put_self] at hy; cases hy
        rw [Mu.put_ne _ _ hj'] at hy'
        obtain ⟨p, hp, _⟩ := hold j' q' hj' hq'
        have := hblk _ _ _ hp hy'
        simp only at hb; omega
    · rw [Mu.put_ne _ _ hj] at hy
      obtain ⟨p, hp, _, _, _, _, hk⟩ := hold j q hj hq
      by_cases hj' : j' = H.n
      · subst hj'
        rw [Mu.put_self] at hy'; cases hy'
        have := hblk _ _ _ hp hy
        simp only at hb; omega
      · rw [Mu.put_ne _ _ hj'] at hy'
        obtain ⟨p', hp', _, _, _, _, hk'⟩ := hold j' q' hj' hq'
        have := h.sep j p y j' p' y' hp hp' hy hy' hb
        rcases hk with ⟨a1, a2, _⟩ | ⟨a1, _, a2, _⟩
        · rcases hk' with ⟨b1, b2, _⟩ | ⟨b1, _, b2, _⟩
          · rw [a1, b1]
          · exact absurd (this ▸ a2) b2
        · rcases hk' with ⟨b1, b2, _⟩ | ⟨b1, _, b2, _⟩
          · exact absurd (this.trans b2) a2
          · rw [a1, b1, this]
  · intro j q y q' y' hq hq' hk hy hy' hb
    by_cases hj : j = H.n
    · subst hj
      rw [hnew] at hq; cases hq
      simp only [htop] at hq' hy'
      rw [hnew] at hq'; cases hq'
      rw [Mu.put_self] at hy hy'; cases hy; cases hy'
      exact Nat.le_refl _
    · rw [Mu.put_ne _ _ hj] at hy
      obtain ⟨p, hp, ec, _, _, _, hkk⟩ := hold j q hj hq
      rcases hkk with ⟨a1, a2, hend, htp⟩ | ⟨a1, aci, a2, a3⟩
      · have hci := Hp.row_kin hq hnew a1
        rw [hci] at hq' hy'
        simp only [htop] at hq' hy'
        rw [Mu.put_self] at hy'; cases hy'
        have := hblk _ _ _ hp hy
        simp only at hb; omega
      · by_cases ht : q.ci.top = H.n
        · rw [ht, hnew] at hq'; cases hq'
          exact absurd hk.symm a3
        · rw [Mu.put_ne _ _ ht] at hy'
          obtain ⟨p', hp', ec', _, _, _, hk'⟩ := hold _ q' ht hq'
          rw [ec, ec']
          rcases hk' with ⟨b1, _⟩ | ⟨b1, _, _, _⟩
          · exact absurd (hk.symm.trans b1) a3
          · exact h.top j p y p' y' hp (by rw [← aci]; exact hp') (by rw [← b1, hk, a1]) hy (by rw [← aci]; exact hy') hb
  · intro j q j' q' hq hq' hk hc1
    by_cases hj : j = H.n
    · subst hj
      rw [hnew] at hq; cases hq
      by_cases hj' : j' = H.n
      · exact hj'.symm
      · obtain ⟨p', _, _, _, _, _, hk'⟩ := hold j' q' hj' hq'
        rcases hk' with ⟨_, _, hend, _⟩ | ⟨_, _, _, b3⟩
        · exact absurd hend (hcnt1 hc1)
        · exact absurd hk.symm b3
    · obtain ⟨p, hp, _, _, _, _, hkk⟩ := hold j q hj hq
      rcases hkk with ⟨a1, a2, hend, htp⟩ | ⟨a1, aci, a2, a3⟩
      · have hci := Hp.row_kin hq hnew a1
        rw [hci] at hc1
        exact absurd hend (hcnt1 hc1)
      · by_cases hj' : j' = H.n
        · subst hj'; rw [hnew] at hq'; cases hq'
          exact absurd hk a3
        · obtain ⟨p', hp', _, _, _, _, hk'⟩ := hold j' q' hj' hq'
          rcases hk' with ⟨b1, _⟩ | ⟨b1, _, _, _⟩
          · exact absurd (hk.trans b1) a3
          · exact h.cnt j p j' p' hp hp' (by rw [← a1, hk, b1]) (by rw [← aci]; exact hc1)

end
end Go.Proofs.YtpmjpieiajdcgaaGreat
