/- PE, part 8: append. -/
import Derived.Test.YtpmjpieiajdcgaaGreatPeOps5
namespace Go.Proofs.YtpmjpieiajdcgaaGreat
open Go Go.RowKit
noncomputable section

section
variable {P : Program} {B : Nat} {w0 w : World} {μ : Mu} {H : Hp} {ρ : Rho} {ρ' : Operand → Value} {o : Oper} {r : AR}

theorem growBy_le (n : Nat) : ∀ (k c : Nat), c ≤ 2 * n + 256 → Builtin.growBy n k c ≤ 2 * n + 256 := by
  intro k
  induction k with
  | zero => intro c h; exact h
  | succ k ih =>
    intro c h
    simp only [Builtin.growBy]
    split
    · exact h
    · exact ih _ (by omega)
theorem nextslicecap_le {n c : Nat} (h : c < n) : Builtin.nextslicecap n c ≤ 2 * n + 256 := by
  unfold Builtin.nextslicecap
  split
  · omega
  · split
    · omega
    · exact growBy_le n 4 c (by omega)

def isIntT (d : TypeDesc) : Bool := match d with | .int _ => true | _ => false
def zeroRow (z : Value) (n size : Nat) : List Value := if n * size = 0 then [] else (Builtin.zeroCells z.cells n).toList

/-- What is appended: how many elements, their cells. -/
def moreA (P : Program) (xT : TypeId) (x : Value) (ti : TypeInfo) (H : Hp) : Option (Nat × List Value) :=
  match P.underlying xT with
  | some (.int _) =>
    match x, ti.zero with
    | .int _ k, some z =>
      if 0 ≤ k ∧ k ≤ 2 ^ 40 ∧ k.toNat * ti.bytes ≤ 2 ^ 40 ∧ z.cells.size = ti.size then
        if (zeroRow z k.toNat ti.size).all isFlat then some (k.toNat, zeroRow z k.toNat ti.size) else none
      else none
    | _, _ => none
  | some _ =>
    match x with
    | .slice none 0 _ => some (0, [])
    | .slice (some ⟨i, off, _⟩) n _ => (H.loads i off (n * ti.size)).map fun l => (n, l)
    | .string s => if ti.size = 1 then some (s.size, s.data.toList.map fun b => .int .u8 b.toNat) else none
    | _ => none
  | none => none

/-- The machine's count of it, and its cells. -/
def CountM (P : Program) (d : TypeDesc) (bytes : Nat) (x : Value) (n : Nat) : Prop :=
  (∃ k k' v, d = .int k ∧ x = .int k' v ∧ IntKind.i64.wrap v = v ∧ ¬ (v < 0) ∧ ¬ (v * (bytes : Int) > 2 ^ 48) ∧ v.toNat = n) ∨ (isIntT d = false ∧ ∀ w, (Builtin.lenOf x).run P w = .ok n w)
def cellsM (zeros : Bool) (elem : TypeId) (size n : Nat) (x : Value) : Sem (Array Value) :=
  if !zeros then Builtin.firstCells size n x
  else if n * size = 0 then pure #[]
  else do pure (Builtin.zeroCells (← zeroValue elem).cells n)

theorem sliceAddrN {i off m : Nat} {sp : Option Nat} {n c : Nat} {v : Value} {l : List Value} (hv : VRel μ (.slice (some ⟨i, off, sp⟩) n c) v) (hm : n = 0 → m = 0) (hl : H.loads i off m = some l) (h : Sim B w0 μ H w) :
    ∃ a c' l', v = .slice (some a) n c' ∧ LRel μ l l' ∧ (loadCells a m).run P w = .ok l'.toArray w := by
  obtain ⟨x, hx, hcase⟩ := hv.slice_inv
  obtain ⟨l', hrel, hrun⟩ := LRel.loadCells (P := P) h hx hl
  rcases hcase with ⟨_, c', hv, _⟩ | ⟨_, hv⟩ | ⟨_, rfl, rfl, p, c', hv, _⟩
  · exact ⟨_, _, l', hv, hrel, hrun⟩
  · exact ⟨_, _, l', hv, hrel, hrun⟩
  · have hm0 := hm rfl
    subst hm0
    obtain ⟨l2, hrel2, hlen, _⟩ := h.loads hx hl
    have : l = [] := List.eq_nil_of_length_eq_zero hlen
    subst this
    exact ⟨p, c', [], hv, LRel.nil μ, by simp [loadCells, loadCellsFrom]⟩

theorem moreA_spec {xT el : TypeId} {x x' : Value} {ti : TypeInfo} {n : Nat} {l : List Value} (hx : VRel μ x x') (hti : P.info? el = some ti) (he : moreA P xT x ti H = some (n, l)) :
    ∃ d, P.underlying xT = some d ∧
      CountM P d ti.bytes x' n ∧
      (∀ w, Sim B w0 μ H w → ∃ l', LRel μ l l' ∧ l.length = n * ti.size ∧ (cellsM (isIntT d) el ti.size n x').run P w = .ok l'.toArray w) := by
  unfold moreA at he
  split at he
  · rename_i k0 hu
    refine ⟨_, hu, ?_⟩
    split at he
    · rename_i k v z hz
      split at he
      · rename_i hg
        obtain ⟨g1, g2, g3, g4⟩ := hg
        split at he
        · rename_i hf
          simp only [Option.some.injEq, Prod.mk.injEq] at he
          obtain ⟨rfl, rfl⟩ := he
          have hxv := hx.int_inv
          subst hxv
          have hw := wrap_small g1 g2
          have hb : ¬ (v * (ti.bytes : Int) > 2 ^ 48) := by
            have e : v * (ti.bytes : Int) = ((v.toNat * ti.bytes : Nat) : Int) := by rw [Int.natCast_mul, Int.toNat_of_nonneg g1]
            rw [e]
            have e2 : (2 : Int) ^ 48 = 281474976710656 := by decide
            have e3 : (2 : Nat) ^ 40 = 1099511627776 := by decide
            rw [e2]; rw [e3] at g3; omega
          have hneg : ¬ (v < 0) := by omega
          refine ⟨.inl ⟨_, _, _, rfl, rfl, hw, hneg, hb, rfl⟩, fun w _ => ?_⟩
          · refine ⟨_, LRel.of_flat hf, ?_, ?_⟩
            · unfold zeroRow
              by_cases h0 : v.toNat * ti.size = 0
              · simp [h0]
              · simp [h0, Builtin.zeroCells, g4]
            · unfold zeroRow
              by_cases h0 : v.toNat * ti.size = 0
              · simp [cellsM, h0, isIntT]
              · simp only [cellsM, isIntT, Bool.not_true, Bool.false_eq_true, if_false, if_neg h0, Sem.run_bind, run_zero hti hz, Result.andThen_ok, Sem.run_pure]
        · cases he
      · cases he
    · cases he
  · rename_i d hni hu
    have hd : isIntT d = false := by
      cases d <;> first | rfl | exact absurd rfl (hni _)
    refine ⟨d, hu, ?_⟩
    unfold CountM
    rw [hd]
    simp only [cellsM, Bool.not_false, if_true]
    split at he
    · simp only [Option.some.injEq, Prod.mk.injEq] at he
      obtain ⟨rfl, rfl⟩ := he
      rw [hx.sliceNone_inv]
      exact ⟨.inr ⟨trivial, fun w => rfl⟩, fun w _ => ⟨[], LRel.nil μ, by simp, rfl⟩⟩
    · rename_i i off sp m c
      cases hl : H.loads i off (m * ti.size) with
      | none => simp [hl] at he
      | some l2 =>
        simp only [hl, Option.map_some, Option.some.injEq, Prod.mk.injEq] at he
        obtain ⟨rfl, rfl⟩ := he
        refine ⟨.inr ⟨trivial, fun w => ?_⟩, fun w hs => ?_⟩
        · obtain ⟨a, c', rfl⟩ := hx.sliceSome_inv
          cases hx <;> rfl
        · obtain ⟨a, c', l', rfl, hrel, hrun⟩ := sliceAddrN (P := P) hx (fun e => by rw [e, Nat.zero_mul]) hl hs
          obtain ⟨y, hy, _⟩ := hx.slice_inv
          obtain ⟨_, _, hlen, _⟩ := hs.loads hy hl
          exact ⟨l', hrel, hlen, hrun⟩
    · rename_i s
      split at he
      · rename_i h1
        simp only [Option.some.injEq, Prod.mk.injEq] at he
        obtain ⟨rfl, rfl⟩ := he
        rw [hx.string_inv]
        refine ⟨.inr ⟨trivial, fun w => rfl⟩, fun w _ => ⟨s.data.toList.map fun b => .int .u8 b.toNat, ?_, ?_, ?_⟩⟩
        · refine LRel.of_flat (List.all_eq_true.2 fun v hv => ?_)
          obtain ⟨b, _, rfl⟩ := List.mem_map.1 hv
          rfl
        · rw [h1, List.length_map, Array.length_toList, Nat.mul_one]; rfl
        · have hex : s.extract 0 s.size = s := by
            apply ByteArray.ext
            rw [ByteArray.data_extract]
            exact Array.extract_size
          simp only [Builtin.firstCells, hex, Sem.run_pure]
          congr 1
          apply Array.ext'
          simp
      · cases he
    · cases he
  · cases he

def zeroFits (ti : TypeInfo) : Bool := match ti.zero with | some z => z.cells.size == ti.size | none => false

def appendA (P : Program) (tys : Array TypeId) (args : List Value) (H : Hp) : Option AR :=
  match tys.toList, args with
  | [sT, xT], [s, x] =>
    match P.underlying sT with
    | some (.slice el) =>
      match P.info? el with
      | some ti =>
        match moreA P xT x ti H with
        | some (n, new) =>
          if (2 * n + 256) * ti.bytes > 2 ^ 40 || ti.bytes > 2 ^ 20 || ti.bytes == 0 || !zeroFits ti || !new.all (·.oneCell') then none
          else match s with
          | .slice none 0 0 =>
            if n = 0 then some (.val (.slice none 0 0) H)
            else some (.val (.slice (some ⟨H.n, 0, none⟩) n n) (H.fresh new el ti.size))
          | .slice (some ⟨i, off, sp⟩) sl sc =>
            if (2 * (sl + n) + 256) * ti.bytes > 2 ^ 40 then none
            else if sl + n ≤ sc then
              match H.puts i (off + sl * ti.size) new with
              | some H' => some (.val (.slice (some ⟨i, off, sp⟩) (sl + n) sc) H')
              | none => none
            else if sp == some 0 then
              match H.loads i off (sl * ti.size) with
              | some old => some (.val (.slice (some ⟨H.n, 0, none⟩) (sl + n) (sl + n)) (H.fresh (old ++ new) el ti.size))
              | none => none
            else if n = 0 then none
            else match H.loads i off (sl * ti.size), H.extend i off (sl * ti.size) new el ti.size with
              | some _, some H' => some (.val (.slice (some ⟨H.n, 0, none⟩) (sl + n) (sl + n)) H')
              | _, _ => none
          | _ => none
        | none => none
      | none => none
    | _ => none
  | _, _ => none

/-- The machine's append, its two ways. -/
theorem run_append_in {sT xT el : TypeId} {d : TypeDesc} {ti : TypeInfo} {base : Option Addr} {sl sc n : Nat} {x' : Value} {c : Array Value} {w' : World} {t : TypeId}
    (hu : P.underlying sT = some (.slice el)) (hd : P.underlying xT = some d) (hti : P.info? el = some ti) (hcount : CountM P d ti.bytes x' n)
    (hcells : (cellsM (isIntT d) el ti.size n x').run P w = .ok c w) (hle : sl + n ≤ sc)
    (hst : match base with | some a => (storeCells (a.add (sl * ti.size)) c.toList).run P w = .ok () w' | none => w' = w) :
    (Builtin.append_ #[sT, xT] t #[.slice base sl sc, x']).run P w = .ok (.slice base (sl + n) sc) w' := by
  unfold Builtin.append_
  simp only [List.getElem?_toArray, List.getElem?_cons_zero, List.getElem?_cons_succ, Sem.run_bind, run_und hu, run_und hd, run_sz hti, Result.andThen_ok, Sem.run_pure]
  rcases hcount with ⟨k, k', v, rfl, rfl, hw, hneg, hb, rfl⟩ | ⟨hd', hlen⟩
  · simp only [cellsM, isIntT, Bool.not_true, Bool.false_eq_true, if_false] at hcells
    simp only [if_true, Sem.run_bind, asInt, asIntOf, Sem.run_pure, Result.andThen_ok, hw, if_neg hneg, run_tinfo hti, if_neg hb, if_pos hle, Bool.not_true, Bool.false_eq_true, if_false, hcells]
    cases base with
    | none => simp only at hst; subst hst; rfl
    | some a => simp only at hst; simp only [Sem.run_bind, hst, Result.andThen_ok, Sem.run_pure]
  · simp only [cellsM, hd', Bool.not_false, if_true] at hcells
    cases d with
    | int k => simp [isIntT] at hd'
    | _ =>
      simp only [Bool.false_eq_true, if_false, hlen, Result.andThen_ok, if_pos hle, Bool.not_false, if_true, Sem.run_bind, hcells]
      cases base with
      | none => simp only at hst; subst hst; rfl
      | some a => simp only at hst; simp only [Sem.run_bind, hst, Result.andThen_ok, Sem.run_pure]

theorem run_append_new {sT xT el : TypeId} {d : TypeDesc} {ti : TypeInfo} {z : Value} {base : Option Addr} {sl sc n : Nat} {x' : Value} {old c : Array Value} {t : TypeId}
    (hu : P.underlying sT = some (.slice el)) (hd : P.underlying xT = some d) (hti : P.info? el = some ti) (hz : ti.zero = some z) (hcount : CountM P d ti.bytes x' n)
    (hcells1 : (cellsM (isIntT d) el ti.size n x').run P { w with drawn := w.drawn + 1 } = .ok c { w with drawn := w.drawn + 1 }) (hlt : ¬ (sl + n ≤ sc))
    (hold1 : (Builtin.firstCells ti.size sl (.slice base sl sc)).run P { w with drawn := w.drawn + 1 } = .ok old { w with drawn := w.drawn + 1 })
    (hb : (2 * (sl + n) + 256) * ti.bytes ≤ 2 ^ 40) (hb0 : ti.bytes ≠ 0) :
    ∃ cap, sl + n ≤ cap ∧ (Builtin.append_ #[sT, xT] t #[.slice base sl sc, x']).run P w =
      .ok (.slice (some ⟨w.heap.size, 0, none⟩) (sl + n) cap) (({ w with drawn := w.drawn + 1 } : World).alloc (.cells (old ++ c ++ Builtin.zeroCells z.cells (cap - (sl + n))) el)) := by
  have hsz : ¬ (Builtin.nextslicecap (sl + n) sc * ti.bytes > 2 ^ 48) := by
    have h1 := nextslicecap_le (n := sl + n) (c := sc) (by omega)
    have h2 : Builtin.nextslicecap (sl + n) sc * ti.bytes ≤ (2 * (sl + n) + 256) * ti.bytes := Nat.mul_le_mul_right _ h1
    have e2 : (2 : Nat) ^ 48 = 281474976710656 := by decide
    have e3 : (2 : Nat) ^ 40 = 1099511627776 := by decide
    rw [e2]; rw [e3] at hb; omega
  have hmax : ¬ (((sl + n : Nat) : Int) > IntKind.i64.max) := by
    have h2 : sl + n ≤ (2 * (sl + n) + 256) * ti.bytes := by
      have := Nat.mul_le_mul_left (2 * (sl + n) + 256) (Nat.one_le_iff_ne_zero.2 hb0)
      omega
    have e3 : (2 : Nat) ^ 40 = 1099511627776 := by decide
    have e4 : IntKind.i64.max = 9223372036854775807 := by decide
    rw [e4]; rw [e3] at hb; omega
  refine ⟨(Question.appendCap (sl + n) sc el).cut (w.tape w.drawn (.appendCap (sl + n) sc el)), Nat.le_add_right _ _, ?_⟩
  have hrun : (choose (.appendCap (sl + n) sc el)).run P w = .ok ((Question.appendCap (sl + n) sc el).cut (w.tape w.drawn (.appendCap (sl + n) sc el))) { w with drawn := w.drawn + 1 } := by
    rw [run_choose]; rfl
  generalize (Question.appendCap (sl + n) sc el).cut (w.tape w.drawn (.appendCap (sl + n) sc el)) = cap at hrun
  unfold Builtin.append_
  simp only [List.getElem?_toArray, List.getElem?_cons_zero, List.getElem?_cons_succ, Sem.run_bind, run_und hu, run_und hd, run_sz hti, Result.andThen_ok, Sem.run_pure]
  rcases hcount with ⟨k, k', v, rfl, rfl, hw, hneg, hbv, rfl⟩ | ⟨hd', hlen⟩
  · simp only [cellsM, isIntT, Bool.not_true, Bool.false_eq_true, if_false] at hcells1
    simp only [if_true, Sem.run_bind, asInt, asIntOf, Sem.run_pure, Result.andThen_ok, hw, if_neg hneg, run_tinfo hti, if_neg hbv, if_neg hlt, hmax, false_and, if_false, if_neg hsz, hrun, run_askRoom, hold1, Bool.not_true, Bool.false_eq_true, hcells1,
      run_zero hti hz, run_newRow]
  · simp only [cellsM, hd', Bool.not_false, if_true] at hcells1
    cases d with
    | int k => simp [isIntT] at hd'
    | _ => simp only [Bool.false_eq_true, if_false, hlen, Result.andThen_ok, if_neg hlt, Sem.run_bind, run_tinfo hti, hmax, false_and, if_neg hsz, hrun, run_askRoom, hold1, Bool.not_false, if_true, hcells1, run_zero hti hz, run_newRow, Sem.run_pure]
end

end
end Go.Proofs.YtpmjpieiajdcgaaGreat
