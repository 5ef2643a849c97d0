/-
  FreshOrder holds for every input: behind any slots, a frame of any number, and others, whose numbers follow it, are told as the statement says; the arguments read as they read before. No condition.
-/
import Derived.Test.YtgdlombjhbfbiaaRows
import Derived.Test.YtgdlombjhbfbiaaWp
import Derived.Test.YtgdlombjhbfbiaaOpen
import Derived.ShutString
import Derived.ChangeOld
namespace Go.Proofs.Ytgdlombjhbfbiaa.lawFreshOrder
set_option linter.unusedVariables false
set_option linter.unusedSimpArgs false
open Go.ChangeShapes Go.WideShapes Go.ChangeAt Go.RowKit

theorem own : ownKnob Try.prog.godebug = none := by kernel_rfl
theorem laidOut : laidOutB Try.prog = true := by kernel_rfl

section
variable {H : Type} {enc : TypeId × Value → H} {w : World} {base : Nat} {spare : Nat → Bool} {held : Bool} {fuel : Nat}

set_option maxRecDepth 100000 in
/-- A slot that came in. -/
theorem slot_of {cs : List Value} {x : DataW H × List MemPlace} (h : DataW.trod enc Try.prog w base spare held fuel 39 cs = some x) :
    ∃ s : SlotV, cs = [.bool s.is, .slice s.A s.l.length s.c] ∧ Sp.Bytes s.l ∧ RdW w s.A (bs s.l) ∧ s.l.length ≤ s.c ∧ s.c ≤ maxLen := by
  obtain ⟨xs, n, _, _, hl, hxl, hi⟩ := DataW.trod_struct Try.underlying39 h
  have hl' : cs.length = 2 := hl.trans (by kernel_rfl)
  have hx2 : xs.length = 2 := hxl
  have k1 : Try.prog.cellsOf 4 = 1 := by kernel_rfl
  have k2 : Try.prog.cellsOf 27 = 1 := by kernel_rfl
  have k3 : Try.prog.cellsOf 5 = 1 := by kernel_rfl
  match cs, hl' with
  | [c0, c1], _ =>
    have h0 : DataW.trod enc Try.prog w base spare held n 4 (([c0, c1].drop 0).take (Try.prog.cellsOf 4)) = xs[0]? := hi 0 _ rfl
    have h1 : DataW.trod enc Try.prog w base spare held n 27 (([c0, c1].drop 1).take (Try.prog.cellsOf 27)) = xs[1]? := hi 1 _ rfl
    simp only [k1, List.drop_zero, List.take_succ_cons, List.take_zero] at h0
    simp only [k2, List.drop_succ_cons, List.drop_zero, List.take_succ_cons, List.take_zero] at h1
    rw [List.getElem?_eq_getElem (by omega)] at h0 h1
    obtain ⟨b, e0, _⟩ := DataW.trod_bool Try.underlying4 h0
    obtain ⟨A, c, l, e1, h2, h3, h4, h5⟩ := trod_bytes Try.underlying27 Try.underlying5 k3 h1
    simp only [List.cons.injEq, and_true] at e0 e1
    subst e0 e1
    exact ⟨⟨b, A, c, l⟩, rfl, h2, h3, h4, h5⟩

/-- Slots that came in. -/
theorem slots_of {cs : List Value} {x : DataW H × List MemPlace} (h : DataW.trod enc Try.prog w base spare held fuel 22 cs = some x) :
    ∃ (A : Option Addr) (c : Nat) (ss : List SlotV), cs = [.slice A ss.length c] ∧ SlotsOk w ss ∧ RdW w A (slotCells ss) ∧ ss.length ≤ c ∧ c ≤ maxLen := by
  have k2 : Try.prog.cellsOf 39 = 2 := by kernel_rfl
  rcases Go.Deep.open_slice Try.underlying22 h with ⟨rfl, _⟩ | ⟨a, len, cap, m, n, D, Pl, rfl, hb, hl, hm, hmm, _, hi⟩
  · exact ⟨none, 0, [], rfl, fun s hs => by simp at hs, Rd.nil _ _ _, Nat.le_refl _, Nat.zero_le _⟩
  · have hle : len ≤ m := by rw [hmm]; split <;> omega
    rw [k2] at hi
    have hex : ∀ i, i < len → ∃ s : SlotV, w.cell? (a.add (i * 2)) = some (.bool s.is) ∧ w.cell? ((a.add (i * 2)).add 1) = some (.slice s.A s.l.length s.c) ∧ Sp.Bytes s.l ∧ RdW w s.A (bs s.l) ∧ s.l.length ≤ s.c ∧ s.c ≤ maxLen := by
      intro i hil
      obtain ⟨cs', hc, ht⟩ := hi i (by omega)
      obtain ⟨s, rfl, h1, h2, h3, h4⟩ := slot_of ht
      obtain ⟨_, _, hat⟩ := World.cells?_some hc
      have c0 := hat 0 (by omega)
      have c1 := hat 1 (by omega)
      refine ⟨s, ?_, c1, h1, h2, h3, h4⟩
      have : (a.add (i * 2)).add 0 = a.add (i * 2) := by simp [Addr.add]
      rw [← this]; exact c0
    haveI : Inhabited SlotV := ⟨⟨false, none, 0, []⟩⟩
    obtain ⟨f, hf⟩ := Go.Deep.choose_lt hex
    have hlen : ((List.range len).map f).length = len := by simp
    refine ⟨some a, cap, (List.range len).map f, by rw [hlen], ?_, ?_, by rw [hlen]; exact hl, hm⟩
    · intro s hs
      obtain ⟨i, hi', rfl⟩ := List.mem_map.1 hs
      obtain ⟨_, _, h1, h2, h3, h4⟩ := hf i (List.mem_range.1 hi')
      exact ⟨h1, h2, h3, h4⟩
    · intro hn
      have h0 : 0 < len := by
        rcases Nat.eq_zero_or_pos len with h0 | h0
        · subst h0; simp [slotCells] at hn
        · exact h0
      obtain ⟨b, off, spot⟩ := a
      have hsp : spot = none := by
        have := World.cell?_spot (hf 0 h0).1
        simpa [Addr.add] using this
      subst hsp
      have hat : ∀ j, (⟨b, off, none⟩ : Addr).add j = ⟨b, off + j, none⟩ := fun j => by unfold Addr.add; split <;> simp_all
      refine ⟨b, off, rfl, ?_, ?_⟩
      · have := World.block_lt_of_cell? w _ (hf 0 h0).1
        rw [hat] at this
        exact this
      · intro j u hu
        obtain ⟨i, q, hq, rfl⟩ : ∃ i q, q < 2 ∧ j = i * 2 + q := ⟨j / 2, j % 2, by omega, by omega⟩
        have hil : i < len := by
          have := (List.getElem?_eq_some_iff.1 hu).1
          rw [slotCells_length, hlen] at this
          omega
        have hg : ((List.range len).map f)[i]? = some (f i) := by simp [hil]
        obtain ⟨e1, e2⟩ := slotCells_at _ i _ hg
        obtain ⟨g1, g2, _⟩ := hf i hil
        rw [hat] at g1 g2
        match q, hq with
        | 0, _ =>
          rw [Nat.add_zero, e1] at hu
          rw [Nat.add_zero, g1]; exact hu
        | 1, _ =>
          rw [e2] at hu
          have : (⟨b, off + i * 2, none⟩ : Addr).add 1 = ⟨b, off + (i * 2 + 1), none⟩ := by simp [Addr.add]; omega
          rw [this] at g2
          rw [g2]; exact hu

set_option maxRecDepth 100000 in
/-- A frame that came in. -/
theorem frame_of {cs : List Value} {x : DataW H × List MemPlace} (h : DataW.trod enc Try.prog w base spare held fuel 25 cs = some x) : ∃ f : Fr, cs = f.cells.toList := by
  obtain ⟨xs, n, _, _, hl, hxl, hi⟩ := DataW.trod_struct Try.underlying25 h
  have hl' : cs.length = 9 := hl.trans (by kernel_rfl)
  have hx2 : xs.length = 2 := hxl
  have k1 : Try.prog.cellsOf 3 = 1 := by kernel_rfl
  have k2 : Try.prog.cellsOf 23 = 8 := by kernel_rfl
  match cs, hl' with
  | c0 :: r, hr =>
    have h0 : DataW.trod enc Try.prog w base spare held n 3 (((c0 :: r).drop 0).take (Try.prog.cellsOf 3)) = xs[0]? := hi 0 _ rfl
    have h1 : DataW.trod enc Try.prog w base spare held n 23 (((c0 :: r).drop 1).take (Try.prog.cellsOf 23)) = xs[1]? := hi 1 _ rfl
    simp only [k1, List.drop_zero, List.take_succ_cons, List.take_zero] at h0
    simp only [k2, List.drop_succ_cons, List.drop_zero] at h1
    rw [List.getElem?_eq_getElem (by omega)] at h0 h1
    obtain ⟨q, e0, _⟩ := DataW.trod_int Try.underlying3 h0
    rw [List.take_of_length_le (by simp at hr; omega)] at h1
    obtain ⟨zs, e1, hz, _⟩ := trod_ints Try.underlying23 Try.underlying3 k1 k2 h1
    simp only [List.cons.injEq, and_true] at e0
    subst e0 e1
    match zs, hz with
    | [a0, a1, a2, a3, a4, a5, a6, a7], _ => exact ⟨⟨q, a0, a1, a2, a3, a4, a5, a6, a7⟩, rfl⟩
end

theorem walk (A : Option Addr) (c : Nat) (ss : List SlotV) (f : Fr) (n : Int) (w : World) (h : RdW w A (slotCells ss)) (hok : SlotsOk w ss) (hc : ss.length ≤ c) (hcm : c ≤ maxLen) (hn : (Lit.int .u8 n).wf = true) :
    Calls Try.prog 3 #[.slice A ss.length c, .agg f.cells, .int .u8 n] w fun e w' => e = .returned (.bool true) ∧ Ext w w' := by
  obtain ⟨n0, n1⟩ := bounds_u8 hn
  cases hr : f.right with
  | false => exact fo_not A c ss f n w h hr
  | true =>
    cases hfi : fits ss with
    | false => exact fo_long A c ss f n w h hr hfi
    | true => exact fo_yes A c ss f n w h hok hc hcm n0 n1 hr hfi

set_option maxRecDepth 100000 in
theorem lifted (os : Os) (started : os.Started) (H : Type) (enc : TypeId × Value → H) :
    ReturnsInHanded {} Try.checked os 3 .any (Rows.freshOrderSpec.pre6 enc Try.prog Try.f3 Rows.freshOrderRow.domain false) (Rows.freshOrderSpec.post enc Try.prog Try.f3 false true false false) := by
  refine returnsInHanded_of_change (C := Try.checked) own started (by kernel_rfl) Try.func3
    (ChangeSpec.witness6 (enc := enc) (C := Try.checked) false ⟨#[], #[.slice none 0 0, .agg #[.int .i64 0, .int .i64 0, .int .i64 0, .int .i64 0, .int .i64 0, .int .i64 0, .int .i64 0, .int .i64 0, .int .i64 0], .int .u8 0], []⟩ 8 (by kernel_rfl) (by kernel_rfl) (by kernel_rfl) (by kernel_rfl)) ?_
  intro W base args ds gs before hval0 hW hcnd _
  have hval : ∀ (j : Nat) t v, Try.f3.params[j]? = some t → args[j]? = some v → Value.okWide Try.prog W .any base t v := hval0
  have hW' := hW
  obtain ⟨p, q, hA0, hV, rfl, hfz, hnd⟩ := hW
  have hA : DataW.TrodAll enc Try.prog W 0 (fun _ => true) true Try.f3.params.toList args.toList ds p := hA0
  rw [Try.params3] at hA hval
  obtain ⟨v0, vs0, d0, ds0, p0, q0, hargs, rfl, rfl, h0, r0⟩ := trodAll_cons hA
  obtain ⟨v1, vs1, d1, ds1, p1, q1, rfl, rfl, rfl, h1, r1⟩ := trodAll_cons r0
  obtain ⟨v2, vs2, d2, ds2, p2, q2, rfl, rfl, rfl, h2, r2⟩ := trodAll_cons r1
  obtain ⟨rfl, rfl, rfl⟩ := trodAll_nil r2
  obtain rfl : args = #[v0, v1, v2] := by cases args; simp_all
  obtain ⟨rfl, rfl⟩ := trodVars_none hV
  have k0 := h0
  have k1 := h1
  have lt0 : ∀ x ∈ p0, x.block < W.heap.size := by obtain ⟨m, hm⟩ := k0; exact DataW.trod_lt m _ _ _ hm
  have lt1 : ∀ x ∈ p1, x.block < W.heap.size := by obtain ⟨m, hm⟩ := k1; exact DataW.trod_lt m _ _ _ hm
  obtain ⟨a0, len0, cap0, rfl⟩ := okWide_slice Try.underlying22 (hval 0 22 v0 rfl rfl)
  obtain ⟨fu0, hf0⟩ := h0
  obtain ⟨A, c, ss, e0, hok, hrd, hlc, hcm⟩ := slots_of hf0
  simp only [Value.cells, List.cons.injEq, Value.slice.injEq, and_true] at e0
  obtain ⟨rfl, rfl, rfl⟩ := e0
  obtain ⟨cs1, rfl, hsz1⟩ := okWide_struct Try.underlying25 (hval 1 25 v1 rfl rfl)
  obtain ⟨fu1, hf1⟩ := h1
  obtain ⟨f, e1⟩ := frame_of hf1
  obtain rfl : cs1 = f.cells := Array.toList_inj.1 e1
  obtain ⟨n2, rfl, rfl, rfl, w2⟩ := open_int Try.underlying5 (hval 2 5 v2 rfl rfl) h2
  clear hA0 hval0
  refine (walk _ _ ss f n2 W hrd hok hlc hcm w2).mono fun e W' ⟨he, bel⟩ => ?_
  subst he
  exact ⟨_, rfl, _, _, _, [], _, [], hW', trodAll_mk1 (shut_bool Try.underlying4 _), (trodAll_cons_mk (Below.trod laidOut (by kernel_rfl) (of_decide_eq_true (by kernel_rfl)) k0 bel lt0) (trodAll_cons_mk (Below.trod laidOut (by kernel_rfl) (of_decide_eq_true (by kernel_rfl)) k1 bel lt1) (trodAll_cons_mk (shut_int Try.underlying5 w2) trodAll_mk0))), rfl, Below.frame bel _, fun h => by cases h⟩

theorem over : Rows.freshOrderRow.holds Try.pinned (OpenSpec.ofChange Rows.freshOrderSpec) :=
  OpenClaim.holds_of_wide 3 Try.f3 rfl rfl rfl rfl rfl rfl rfl ⟨rfl, rfl, rfl, rfl, rfl⟩ rfl rfl rfl rfl rfl (by kernel_rfl) Try.func3 (by kernel_rfl)
    (of_decide_eq_true (by kernel_rfl)) (by unfold Func.isWrapper; first | (rw [if_pos (by decide +kernel)]; kernel_rfl) | (rw [if_neg (by decide +kernel)]; exact ⟨rfl, rfl⟩))
    (fun os started H enc _ => lifted os started H enc)

/-- The statement. -/
theorem proved : Rows.FreshOrderSaid := over
#print axioms proved
end Go.Proofs.Ytgdlombjhbfbiaa.lawFreshOrder
