/- PE, part 10: len, cap, copy, strings over bytes; calls. -/
import Derived.Test.YtpmjpieiajdcgaaGreatPeOps7
namespace Go.Proofs.YtpmjpieiajdcgaaGreat
open Go Go.RowKit
noncomputable section

section
variable {P : Program} {B : Nat} {w0 w : World} {μ : Mu} {H : Hp} {ρ : Rho} {ρ' : Operand → Value} {o : Oper} {r : AR}

def lenA (P : Program) (tys : Array TypeId) (args : List Value) (H : Hp) : Option AR :=
  match tys.toList, args with
  | t :: _, [.slice (some _) n _] => match P.underlying t with
    | some (.slice _) => some (.val (goInt n) H)
    | _ => none
  | _, _ => none
theorem one_arg {args : List Value} {args' : Array Value} {v : Value} (ha : LRel μ args args'.toList) (he : args = [v]) : ∃ v', args' = #[v'] ∧ VRel μ v v' := by
  subst he
  obtain ⟨v', l1, e1, hv, hl⟩ := ha.cons_inv
  rw [hl.nil_inv] at e1
  obtain ⟨l⟩ := args'
  simp only at e1
  exact ⟨v', by rw [e1], hv⟩
theorem two_args {args : List Value} {args' : Array Value} {v u : Value} (ha : LRel μ args args'.toList) (he : args = [v, u]) : ∃ v' u', args' = #[v', u'] ∧ VRel μ v v' ∧ VRel μ u u' := by
  subst he
  obtain ⟨v', l1, e1, hv, hl⟩ := ha.cons_inv
  obtain ⟨u', l2, rfl, hu, hl⟩ := hl.cons_inv
  rw [hl.nil_inv] at e1
  obtain ⟨l⟩ := args'
  simp only at e1
  exact ⟨v', u', by rw [e1], hv, hu⟩
theorem lenA_sound {tys : Array TypeId} {args : List Value} {args' : Array Value} {t : TypeId} (h : Sim B w0 μ H w) (ha : LRel μ args args'.toList) (he : lenA P tys args H = some r) : VRun B w0 μ r ((Builtin.len_ tys t args').run P w) := by
  unfold lenA at he
  split at he
  · rename_i ty rest a n c htys
    obtain ⟨v', rfl, hv⟩ := one_arg ha rfl
    obtain ⟨a', c', rfl⟩ : ∃ a' c', v' = .slice (some a') n c' := by
      cases hv with
      | flat hh => simp [isFlat] at hh
      | sl h hc hR => exact ⟨_, _, rfl⟩
      | slx h => exact ⟨_, _, rfl⟩
      | sle h hp => exact ⟨_, _, rfl⟩
    split at he
    · rename_i e hu
      simp only [Option.some.injEq] at he
      subst he
      have h0 : tys[0]? = some ty := by rw [← Array.getElem?_toList, htys]; rfl
      exact ⟨goInt n, w, by simp [Builtin.len_, h0, run_und hu], .flat rfl, h⟩
    · cases he
  · cases he

def capA (P : Program) (tys : Array TypeId) (args : List Value) (H : Hp) : Option AR :=
  match tys.toList, args with
  | t :: _, [.slice (some ⟨_, _, some 0⟩) _ c] => match P.underlying t with
    | some (.slice _) => some (.val (goInt c) H)
    | _ => none
  | _, _ => none
theorem capA_sound {tys : Array TypeId} {args : List Value} {args' : Array Value} {t : TypeId} (h : Sim B w0 μ H w) (ha : LRel μ args args'.toList) (he : capA P tys args H = some r) : VRun B w0 μ r ((Builtin.cap_ tys t args').run P w) := by
  unfold capA at he
  split at he
  · rename_i ty rest i off n c htys
    obtain ⟨v', rfl, hv⟩ := one_arg ha rfl
    obtain ⟨x, hx, hcase⟩ := hv.slice_inv
    rcases hcase with ⟨e, _⟩ | ⟨_, rfl⟩ | ⟨e, _⟩
    · cases e
    · split at he
      · rename_i e hu
        simp only [Option.some.injEq] at he
        subst he
        have h0 : tys[0]? = some ty := by rw [← Array.getElem?_toList, htys]; rfl
        exact ⟨goInt c, w, by simp [Builtin.cap_, h0, run_und hu], .flat rfl, h⟩
      · cases he
    · simp at e
  · cases he

def copyA (P : Program) (tys : Array TypeId) (args : List Value) (H : Hp) : Option AR :=
  match tys.toList, args with
  | t :: _, [.slice (some ⟨i, off, sp⟩) dl _, .slice (some ⟨j, off2, _⟩) m _] =>
    match P.underlying t with
    | some (.slice el) => match P.info? el with
      | some ti =>
        if sp == some 1 then none else
        match H.loads j off2 (Nat.min m dl * ti.size) with
        | some l =>
          if l.all (·.oneCell') then match H.puts i off l with
            | some H' => some (.val (goInt (Nat.min m dl)) H')
            | none => none
          else none
        | none => none
      | none => none
    | _ => none
  | _, _ => none
theorem copyA_sound {tys : Array TypeId} {args : List Value} {args' : Array Value} {t : TypeId} (h : Sim B w0 μ H w) (ha : LRel μ args args'.toList) (he : copyA P tys args H = some r) : VRun B w0 μ r ((Builtin.copy_ tys t args').run P w) := by
  unfold copyA at he
  split at he
  · rename_i ty rest i off sp dl dc j off2 sp2 m mc htys
    obtain ⟨d', s', rfl, hd, hs⟩ := two_args ha rfl
    split at he
    · rename_i el hu
      split at he
      · rename_i ti hti
        split at he
        · cases he
        · rename_i hsp
          split at he
          · rename_i l hl
            split at he
            · rename_i h1
              split at he
              · rename_i H' hp
                simp only [Option.some.injEq] at he
                subst he
                obtain ⟨a, c', l', rfl, hrel, hrun⟩ := sliceAddrN (P := P) hs (fun e => by rw [e]; show Nat.min 0 dl * _ = 0; rw [show Nat.min 0 dl = 0 from Nat.zero_min dl, Nat.zero_mul]) hl h
                obtain ⟨x, hx, hcase⟩ := hd.slice_inv
                obtain ⟨w', hst, hs2⟩ := Sim.puts P hx l l' off 0 H w h (by simpa using hp) hrel (fun v hv => List.all_eq_true.1 h1 v hv)
                have h0 : tys[0]? = some ty := by rw [← Array.getElem?_toList, htys]; rfl
                have key : ∀ c'', d' = .slice (some ⟨x.b, off + x.s, none⟩) dl c'' → VRun B w0 μ (.val (goInt (Nat.min m dl)) H') ((Builtin.copy_ tys t #[d', .slice (some a) m c']).run P w) := by
                  intro c'' hdv
                  subst hdv
                  refine ⟨goInt (Nat.min m dl), w', ?_, .flat rfl, hs2⟩
                  simp only [Builtin.copy_, h0, List.getElem?_toArray, List.getElem?_cons_zero, List.getElem?_cons_succ, Sem.run_bind, run_und hu, Result.andThen_ok, Builtin.lenOf, Sem.run_pure, run_sz hti, Builtin.firstCells, hrun, hst]
                rcases hcase with ⟨_, c'', hdv, _⟩ | ⟨_, hdv⟩ | ⟨e, _⟩
                · exact key _ hdv
                · exact key _ hdv
                · subst e; simp at hsp
              · cases he
            · cases he
          · cases he
      · cases he
    · cases he
  · cases he

/-! ## A string made of bytes without a copy: the bytes can't be written any more -/

def Hp.shut (H : Hp) (i : Nat) : Option Hp :=
  match H.row i with
  | some q => if q.ci.ro then none else some ⟨H.b, H.n, H.k.set q.k { q.ci with ro := true }⟩
  | none => none

theorem Sim.shut (h : Sim B w0 μ H w) {i : Nat} {x : Loc} (hx : μ i = some x) {H' : Hp} (he : H.shut i = some H') (p n : Nat) (hn : n ≠ 0) : Sim B w0 μ H' (w.freeze ⟨x.b, p, none⟩ n) := by
  unfold Hp.shut at he
  split at he
  · rename_i q hq
    split at he
    · cases he
    · rename_i hro
      have hro : q.ci.ro = false := by simpa using hro
      simp only [Option.some.injEq] at he
      subst he
      obtain ⟨c0, fr0, hg0, _, _, _, _, h5⟩ := h.cells i q x hq hx
      obtain ⟨hB, _⟩ := h5 hro
      obtain ⟨g1, g2, g3⟩ := Hp.row_eq.1 hq
      have hrow : ∀ {j : Nat} {q' : Row}, (⟨H.b, H.n, H.k.set q.k { q.ci with ro := true }⟩ : Hp).row j = some q' →
          ∃ q0, H.row j = some q0 ∧ q'.c = q0.c ∧ q'.el = q0.el ∧ q'.z = q0.z ∧ q'.k = q0.k ∧ q'.ci.top = q0.ci.top ∧ q'.ci.cnt = q0.ci.cnt ∧ (q'.ci.ro = false → q0.ci.ro = false ∧ q0.k ≠ q.k) := by
        intro j q' hq'
        rw [Hp.row_eq] at hq'
        obtain ⟨a1, a2, a3⟩ := hq'
        simp only [Tr.get_set] at a2
        by_cases hk : q'.k = q.k
        · rw [if_pos hk] at a2
          simp only [Option.some.injEq] at a2
          refine ⟨⟨q'.c, q'.el, q'.z, q'.k, q.ci⟩, Hp.row_eq.2 ⟨a1, by rw [hk]; exact g2, g3⟩, rfl, rfl, rfl, rfl, by rw [← a2], by rw [← a2], fun e => by rw [← a2] at e; simp at e⟩
        · rw [if_neg hk] at a2
          exact ⟨q', Hp.row_eq.2 ⟨a1, a2, a3⟩, rfl, rfl, rfl, rfl, rfl, rfl, fun e => ⟨e, hk⟩⟩
      have hheap : ∀ (j : Nat) (c : Array Value) (el : TypeId) (fr : Nat × Nat), w.heap[j]? = some (.cells c el fr) → ∃ fr', (w.freeze ⟨x.b, p, none⟩ n).heap[j]? = some (.cells c el fr') ∧ (j ≠ x.b → fr' = fr) := by
        intro j c el fr hj
        rw [heap_freeze w x.b p n hn j, hj]
        by_cases hjb : j = x.b
        · exact ⟨_, by simp only [Option.map_some, hjb, if_true]; rfl, fun e => absurd hjb e⟩
        · exact ⟨fr, by simp [hjb], fun _ => rfl⟩
      have hoth : ∀ j, j ≠ x.b → (w.freeze ⟨x.b, p, none⟩ n).heap[j]? = w.heap[j]? := by
        intro j hj
        rw [heap_freeze w x.b p n hn j]
        cases w.heap[j]? <;> simp [hj]
      have hbel : Below B w (w.freeze ⟨x.b, p, none⟩ n) := by
        refine ⟨?_, ?_, ?_, ?_, fun k hk => hoth k (by omega)⟩ <;> simp [World.freeze, hn]
      refine { below := h.below.trans hbel, base := Nat.le_trans h.base hbel.size, wf := ⟨h.wf.b, h.wf.bk, ?_⟩, fin := h.fin, cells := ?_, iter := ?_, isep := h.isep, sep := ?_, top := ?_, cnt := ?_ }
      · intro k y hy
        simp only [Tr.get_set] at hy
        split at hy
        · rename_i e; subst e; exact h.wf.k _ _ g2
        · exact h.wf.k _ _ hy
      · intro j q' y hq' hy
        obtain ⟨q0, hq0, e1, e2, e3, e4, e5, e6, e7⟩ := hrow hq'
        obtain ⟨c', fr, hg, d1, d2, d3, d4, d5⟩ := h.cells j q0 y hq0 hy
        obtain ⟨fr', hg', hfr'⟩ := hheap y.b c' q0.el fr hg
        rw [e1, e2, e3]
        refine ⟨c', fr', hg', d1, d2, d3, d4, fun hro' => ?_⟩
        obtain ⟨r1, r2⟩ := e7 hro'
        have hne : y.b ≠ x.b := fun e => r2 (h.sep j q0 y i q x hq0 hq hy hx e)
        rw [hfr' hne]
        exact d5 r1
      · intro j s p' y hj hy
        obtain ⟨a1, a2, a3⟩ := h.iter j s p' y hj hy
        refine ⟨a1, a2, ?_⟩
        rw [hoth _ ?_]; exact a3
        intro e; rw [e, hg0] at a3; cases a3
      · intro j q1 y j' q2 y' h1 h2 hy hy' hb
        obtain ⟨p1, hp1, _, _, _, k1, _⟩ := hrow h1
        obtain ⟨p2, hp2, _, _, _, k2, _⟩ := hrow h2
        rw [k1, k2]
        exact h.sep j p1 y j' p2 y' hp1 hp2 hy hy' hb
      · intro j q1 y q2 y' h1 h2 hk hy hy' hb
        obtain ⟨p1, hp1, c1, _, _, k1, t1, _⟩ := hrow h1
        obtain ⟨p2, hp2, c2, _, _, k2, _, _⟩ := hrow h2
        rw [c1, c2]
        exact h.top j p1 y p2 y' hp1 (by rw [← t1]; exact hp2) (by rw [← k1, ← k2]; exact hk) hy (by rw [← t1]; exact hy') hb
      · intro j q1 j' q2 h1 h2 hk hc
        obtain ⟨p1, hp1, _, _, _, k1, _, n1, _⟩ := hrow h1
        obtain ⟨p2, hp2, _, _, _, k2, _, _, _⟩ := hrow h2
        exact h.cnt j p1 j' p2 hp1 hp2 (by rw [← k1, ← k2]; exact hk) (by rw [← n1]; exact hc)
  · cases he

theorem run_loadBytes' : ∀ (ns : List Int) (b o : Nat) (acc : ByteArray), (∀ j x, ns[j]? = some x → w.cell? ⟨b, o + j, none⟩ = some (.int .u8 x)) →
    (loadBytes ⟨b, o, none⟩ acc ns.length).run P w = .ok (ns.foldl (fun r n => r.push n.toNat.toUInt8) acc) w
  | [], b, o, acc, _ => rfl
  | x :: l, b, o, acc, h => by
    have h0 : w.cell? ⟨b, o, none⟩ = some (.int .u8 x) := h 0 x rfl
    have ih := run_loadBytes' l b (o + 1) (acc.push x.toNat.toUInt8) (fun j y hy => by
      have := h (j + 1) y (by simpa using hy)
      rw [show o + 1 + j = o + (j + 1) by omega]; exact this)
    simp only [List.length_cons, loadBytes, Sem.run_bind, run_load, h0, Result.andThen_ok, addr_add, List.foldl_cons]
    exact ih

def unsafeDataA (args : List Value) (H : Hp) : Option AR :=
  match args with
  | [.slice (some ⟨i, off, sp⟩) _ c] => if sp == some 1 || c == 0 then none else some (.val (.pointer (some ⟨i, off, none⟩)) H)
  | _ => none
theorem unsafeDataA_sound {tys : Array TypeId} {args : List Value} {args' : Array Value} {t : TypeId} (h : Sim B w0 μ H w) (ha : LRel μ args args'.toList) (he : unsafeDataA args H = some r) : VRun B w0 μ r ((Builtin.unsafeSliceData_ tys t args').run P w) := by
  unfold unsafeDataA at he
  split at he
  · rename_i i off sp n c
    obtain ⟨v', rfl, hv⟩ := one_arg ha rfl
    split at he
    · cases he
    · rename_i hg
      simp only [Bool.or_eq_true, beq_iff_eq, not_or] at hg
      simp only [Option.some.injEq] at he
      subst he
      obtain ⟨x, hx, hcase⟩ := hv.slice_inv
      rcases hcase with ⟨_, c', rfl, hc', _⟩ | ⟨_, rfl⟩ | ⟨e, _⟩
      · exact ⟨_, w, Lib.run_unsafeSliceData_row w _ _ _ _ _ (by omega), .ptr hx, h⟩
      · exact ⟨_, w, Lib.run_unsafeSliceData_row w _ _ _ _ _ hg.2, .ptr hx, h⟩
      · exact absurd e hg.1
  · cases he

def unsafeStringA (P : Program) (tys : Array TypeId) (args : List Value) (H : Hp) : Option AR :=
  match tys.toList, args with
  | [pt, _], [.pointer (some ⟨i, off, none⟩), .int _ n] =>
    if n = 0 then some (.val (.string .empty) H)
    else if n < 0 || n > 2 ^ 40 then none
    else match P.underlying pt, H.row i with
      | some (.pointer e), some q =>
        if q.el != e || P.cellsOf e != 1 then none
        else match H.loads i off n.toNat, H.shut i with
          | some l, some H' => match intsOf .u8 l with
            | some ns => some (.val (.string (ns.foldl (fun r n => r.push n.toNat.toUInt8) .empty)) H')
            | none => none
          | _, _ => none
      | _, _ => none
  | _, _ => none
theorem unsafeStringA_sound {tys : Array TypeId} {args : List Value} {args' : Array Value} {t : TypeId} (h : Sim B w0 μ H w) (ha : LRel μ args args'.toList) (he : unsafeStringA P tys args H = some r) : VRun B w0 μ r ((Builtin.unsafeString_ tys t args').run P w) := by
  unfold unsafeStringA at he
  split at he
  · rename_i pt it i off k n htys
    obtain ⟨p', n', rfl, hp, hn⟩ := two_args ha rfl
    obtain ⟨x, hx, rfl⟩ := hp.ptr_inv
    rw [hn.int_inv]
    have hty : tys = #[pt, it] := by
      obtain ⟨l⟩ := tys
      simp only at htys
      rw [htys]
    subst hty
    have hdef : Builtin.unsafeString_ #[pt, it] t #[.pointer (some ⟨x.b, off + x.s, none⟩), .int k n] =
      (do
        let n ← asInt (.int k n)
        if n < 0 then runtimePanic (.error "unsafe.String: len out of range")
        if n > IntKind.i64.max then unsupported (.unsafePointer "String: a length above the largest int")
        if n = 0 then pure (.string .empty)
        else if ← variablesAt ⟨x.b, off + x.s, none⟩ (← elemOf pt) n.toNat then do
          let s ← loadBytes ⟨x.b, off + x.s, none⟩ .empty n.toNat
          freeze ⟨x.b, off + x.s, none⟩ n.toNat
          pure (.string s)
        else unsupported (.unsafePointer "String: not so many bytes at ptr")) := rfl
    rw [hdef]
    clear hdef
    split at he
    · rename_i hn0
      simp only [Option.some.injEq] at he
      subst he
      refine ⟨.string .empty, w, ?_, .flat rfl, h⟩
      subst hn0
      simp [asInt, asIntOf]
    · rename_i hn0
      split at he
      · cases he
      · rename_i hg
        simp only [Bool.or_eq_true, decide_eq_true_eq, not_or, Int.not_lt, gt_iff_lt] at hg
        split at he
        · rename_i e q hu hq
          split at he
          · cases he
          · rename_i hg2
            simp only [Bool.or_eq_true, bne_iff_ne, ne_eq, not_or, Decidable.not_not] at hg2
            obtain ⟨hel, hco⟩ := hg2
            split at he
            · rename_i l H' hl hsh
              split at he
              · rename_i ns hns
                simp only [Option.some.injEq] at he
                subst he
                obtain ⟨l', hrel, hlen, hlen', hR, hcells⟩ := h.loads hx hl
                obtain ⟨c', fr, hgt, e1, e2, e3, e4, _⟩ := h.cells i q x hq hx
                have hns' := intsOf_rel hrel hns
                have hnl : ns.length = n.toNat := by rw [← hlen', hns', List.length_map]
                have hbytes := run_loadBytes' (P := P) (w := w) ns x.b (off + x.s) .empty (fun j y hy => by
                  refine hcells j _ ?_
                  rw [hns', List.getElem?_map, hy]; rfl)
                rw [hnl] at hbytes
                have hmax : ¬ (n > IntKind.i64.max) := by
                  have e4 : IntKind.i64.max = 9223372036854775807 := by decide
                  have e2 : (2 : Int) ^ 40 = 1099511627776 := by decide
                  rw [e4]; rw [e2] at hg; omega
                have hneg : ¬ (n < 0) := by omega
                have hnat : n.toNat ≠ 0 := by omega
                have hlies : liesAt P P.depth q.el (c'.size / P.cellsOf q.el) (off + x.s) e n.toNat = true := by
                  have hdp : P.depth = (2 * (P.types.size + Made.depth) + 1) + 1 := rfl
                  rw [hdp]
                  simp only [liesAt, Bool.or_eq_true]
                  left
                  rw [hdp]
                  rw [hel]
                  have : off + x.s + n.toNat ≤ c'.size := by omega
                  simp [rowAt, hco, sameLayout, this, Nat.mod_one]
                refine ⟨.string (ns.foldl (fun r n => r.push n.toNat.toUInt8) .empty), w.freeze ⟨x.b, off + x.s, none⟩ n.toNat, ?_, .flat rfl, h.shut hx hsh _ _ hnat⟩
                have hshp : w.shape? x.b = some (q.el, c'.size) := by simp [World.shape?, hgt]
                simp only [Sem.run_bind, asInt, asIntOf, Sem.run_pure, Result.andThen_ok, if_neg hneg, if_neg hmax, if_neg hn0, elemOf, run_und hu, variablesAt, run_program, run_shape, hshp, hlies, if_true, hbytes, run_freeze]
              · cases he
            · cases he
        · cases he
  · cases he
end

end
end Go.Proofs.YtpmjpieiajdcgaaGreat
