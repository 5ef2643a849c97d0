/-
  Walks: the frame of a slot, or its reject.
-/
import Derived.Test.YtgdlombjhbfbiaaWf0
import Derived.Deep.QuietTactic
import Derived.Laws.Cover3
import Derived.Deep.DeepCutAuto
import Derived.Deep.Light
namespace Go.Proofs.Ytgdlombjhbfbiaa
set_option linter.unusedVariables false
set_option linter.unusedSimpArgs false
open Go.RowKit

/-- A frame out of the bytes between its head and its sum. -/
def frOf (l : List Int) : Fr := match Sp.getAll ((l.drop 4).take 32) with
  | [a, b, c, d, e, f, g, h] => ⟨Sp.get2 (l.getD 2 0) (l.getD 3 0), a, b, c, d, e, f, g, h⟩
  | _ => Fr.zero
/-- The reject of a slot that bears bytes: 0 where it is a frame. -/
def reject (ch : Int) (is : Bool) (l : List Int) : Int :=
  if is = false then 1 else if l.length ≠ 38 then 2 else if l.getD 0 0 ≠ 165 then 3 else if l.getD 1 0 ≠ ch then 4
  else if Sp.withSum (l.take (l.length - 2)) ≠ l then 5 else 0

theorem getAll_length : ∀ (n : Nat) (l : List Int), l.length = 4 * n → (Sp.getAll l).length = n
  | 0, l, h => by obtain rfl : l = [] := List.eq_nil_of_length_eq_zero (by omega); rfl
  | n + 1, a :: b :: c :: d :: l, h => by simp only [Sp.getAll, List.length_cons]; rw [getAll_length n l (by simp at h; omega)]
  | n + 1, [], h => by simp at h
  | n + 1, [_], h => by simp at h; omega
  | n + 1, [_, _], h => by simp at h; omega
  | n + 1, [_, _, _], h => by simp at h; omega

theorem decode_absent (ch : Int) (A : Option Addr) (n c : Nat) (w : World) :
    Calls Try.prog 51 #[.int .i64 ch, .agg #[.bool false, .slice A n c]] w fun e w' => e = .returned (.tuple #[.agg Fr.zero.cells, .int .i64 1]) ∧ Ext w w' := by
  go_enter Try.func51, Try.ntmps51
  go_wp2_with fail
  go_returns
  refine ⟨rfl, ?_⟩
  exact Ext.alloc (Ext.alloc (Ext.refl w) _) _

theorem decode_length (ch : Int) (A : Option Addr) (n c : Nat) (w : World) (hn : n ≠ 38) :
    Calls Try.prog 51 #[.int .i64 ch, .agg #[.bool true, .slice A n c]] w fun e w' => e = .returned (.tuple #[.agg Fr.zero.cells, .int .i64 2]) ∧ Ext w w' := by
  have h1 : ((n : Int) != 38) = true := by simp; omega
  go_enter Try.func51, Try.ntmps51
  go_wp2_with fail
  go_returns
  refine ⟨rfl, ?_⟩
  exact Ext.alloc (Ext.alloc (Ext.refl w) _) _


theorem decode_sync (ch x0 : Int) (b off c : Nat) (w : World) (hc : 38 ≤ c) (c0 : w.cell? ⟨b, off, none⟩ = some (.int .u8 x0)) (e0 : x0 ≠ 165) :
    Calls Try.prog 51 #[.int .i64 ch, .agg #[.bool true, .slice (some ⟨b, off, none⟩) 38 c]] w fun e w' => e = .returned (.tuple #[.agg Fr.zero.cells, .int .i64 3]) ∧ Ext w w' := by
  have hbb := World.block_lt_of_cell? w _ c0
  have hd : (x0 != 165) = true := by simp [e0]
  clear e0
  go_enter Try.func51, Try.ntmps51
  go_wp2_with fail
  go_returns
  refine ⟨rfl, ?_⟩
  exact Ext.alloc (Ext.alloc (Ext.refl w) _) _

theorem decode_other (ch x1 : Int) (b off c : Nat) (w : World) (hc : 38 ≤ c) (c0 : w.cell? ⟨b, off, none⟩ = some (.int .u8 165)) (c1 : w.cell? ⟨b, off + 1, none⟩ = some (.int .u8 x1)) (hw1 : IntKind.i64.wrap x1 = x1) (e1 : x1 ≠ ch) :
    Calls Try.prog 51 #[.int .i64 ch, .agg #[.bool true, .slice (some ⟨b, off, none⟩) 38 c]] w fun e w' => e = .returned (.tuple #[.agg Fr.zero.cells, .int .i64 4]) ∧ Ext w w' := by
  have hbb := World.block_lt_of_cell? w _ c0
  have hd : (x1 != ch) = true := by simp [e1]
  clear e1
  go_enter Try.func51, Try.ntmps51
  go_wp2_with fail
  go_returns
  refine ⟨rfl, ?_⟩
  exact Ext.alloc (Ext.alloc (Ext.refl w) _) _

theorem decode_sum_no (ch x1 : Int) (b off c : Nat) (l : List Int) (w : World) (hl : Sp.Bytes l) (h : Rd w w.heap.size (some ⟨b, off, none⟩) (bs l)) (hlen : l.length = 38) (hc : 38 ≤ c) (hcm : c ≤ maxLen)
    (c0 : w.cell? ⟨b, off, none⟩ = some (.int .u8 165)) (c1 : w.cell? ⟨b, off + 1, none⟩ = some (.int .u8 x1)) (hw1 : IntKind.i64.wrap x1 = x1) (e2 : Sp.withSum (l.take (l.length - 2)) ≠ l) :
    Calls Try.prog 51 #[.int .i64 x1, .agg #[.bool true, .slice (some ⟨b, off, none⟩) 38 c]] w fun e w' => e = .returned (.tuple #[.agg Fr.zero.cells, .int .i64 5]) ∧ Ext w w' := by
  have hbb := World.block_lt_of_cell? w _ c0
  have ho := fun W hW => crcOpen_no (some ⟨b, off, none⟩) c l W hl hW (by omega) (by omega) (by omega) hcm e2
  rw [hlen] at ho
  have H0 : Hid (RdW w (some ⟨b, off, none⟩) (bs l)) := Lib.hid h
  have HO := Lib.hid ho
  clear hlen h e2 ho hl
  go_enter Try.func51, Try.ntmps51
  go_wp2_with fail
  go_wp2_with (go_at_call 107; refine (HO.out _ (RdW.alloc (RdW.alloc H0.out _) _)).mono ?_; rintro e w1 ⟨rfl, hb1⟩; have hB := Bk.old (Bk.new_at (n := w.heap.size + 1) _ _ _ (by simp)) hb1; obtain ⟨f0, f1, f2, f3, f4, f5, f6, f7, f8, fz⟩ := hB.c9)
  (try simp only [Exit.inBlock, Exit.then])
  refine bodyPost_ret (by simp [results, Try.results51, go_sem, f0, f1, f2, f3, f4, f5, f6, f7, f8, fz]; try rfl) rfl ?_
  refine ⟨rfl, ?_⟩
  have hE : Ext w w1 := (Ext.alloc (Ext.alloc (Ext.refl w) _) _).trans hb1
  repeat (first | with_reducible exact hE | (refine Ext.setCell ?_ (by simp) _))


set_option maxRecDepth 100000 in
set_option maxHeartbeats 1500000 in
theorem decode_sum_yes (x1 x2 x3 : Int) (b off c : Nat) (l : List Int) (w : World) (hl : Sp.Bytes l) (h : Rd w w.heap.size (some ⟨b, off, none⟩) (bs l)) (hlen : l.length = 38) (hc : 38 ≤ c) (hcm : c ≤ maxLen)
    (c0 : w.cell? ⟨b, off, none⟩ = some (.int .u8 165)) (c1 : w.cell? ⟨b, off + 1, none⟩ = some (.int .u8 x1)) (h2 : l[2]? = some x2) (h3 : l[3]? = some x3) (hw1 : IntKind.i64.wrap x1 = x1) (e2 : Sp.withSum (l.take (l.length - 2)) = l) :
    Calls Try.prog 51 #[.int .i64 x1, .agg #[.bool true, .slice (some ⟨b, off, none⟩) 38 c]] w fun e w' => e = .returned (.tuple #[.agg (frOf l).cells, .int .i64 0]) ∧ Ext w w' := by
  have hbb := World.block_lt_of_cell? w _ c0
  have ho := fun W hW => crcOpen_yes (some ⟨b, off, none⟩) c l W hl hW (by omega) (by omega) (by omega) hcm e2
  rw [hlen, show 38 - 2 = 36 from rfl] at ho
  have H0 : Hid (RdW w (some ⟨b, off, none⟩) (bs l)) := Lib.hid h
  have HO := Lib.hid ho
  have HN := Lib.hid hlen
  have HB := Lib.hid hl
  have H2 := Lib.hid h2
  have H3 := Lib.hid h3
  have B2 := Lib.hid (hl x2 (List.mem_of_getElem? h2))
  have B3 := Lib.hid (hl x3 (List.mem_of_getElem? h3))
  have B32 : Hid (Sp.Bytes ((l.drop 4).take 32)) := fun x hx => hl x (List.mem_of_mem_drop (List.mem_of_mem_take hx))
  have H32 : Hid (32 = ((l.drop 4).take 32).length) := by rw [Hid, List.length_take, List.length_drop]; omega
  have T2 : Hid (((l.take 36).drop 2).take 2 = [x2, x3]) := by
    rw [Hid]
    apply List.ext_getElem?
    intro i
    rcases i with _ | _ | i
    · simp [List.getElem?_take, List.getElem?_drop, h2]
    · simp [List.getElem?_take, List.getElem?_drop, h3]
    · simp [List.getElem?_take]; omega
  have T4 : Hid (((l.take 36).drop 4).take 32 = (l.drop 4).take 32) := by rw [Hid, List.drop_take, List.take_take]; rfl
  obtain ⟨a0, a1, a2, a3, a4, a5, a6, a7, g32⟩ : ∃ a0 a1 a2 a3 a4 a5 a6 a7, Sp.getAll ((l.drop 4).take 32) = [a0, a1, a2, a3, a4, a5, a6, a7] := by
    have h32 : ((l.drop 4).take 32).length = 32 := H32.out.symm
    have : (Sp.getAll ((l.drop 4).take 32)).length = 8 := getAll_length 8 _ h32
    rcases hg : Sp.getAll ((l.drop 4).take 32) with _ | ⟨a0, _ | ⟨a1, _ | ⟨a2, _ | ⟨a3, _ | ⟨a4, _ | ⟨a5, _ | ⟨a6, _ | ⟨a7, _ | ⟨a8, r⟩⟩⟩⟩⟩⟩⟩⟩⟩ <;> rw [hg] at this <;> simp at this
    exact ⟨_, _, _, _, _, _, _, _, rfl⟩
  have hfr : frOf l = ⟨Sp.get2 x2 x3, a0, a1, a2, a3, a4, a5, a6, a7⟩ := by
    unfold frOf; rw [g32]; simp [h2, h3]
  rw [hfr]
  have G32 := Lib.hid g32
  clear g32 hfr
  clear hlen h e2 ho hl h2 h3
  have hat : ∀ (W : World) (g cp : Nat), (Instr.arrayAt 23 (.slice (some ⟨g, 0, none⟩) 8 cp)).run Try.prog W = .ok (.pointer (some ⟨g, 0, none⟩)) W :=
    fun W g cp => run_arrayAt W _ _ 8 _ 8 cp Try.underlying23 (by decide)
  go_enter Try.func51, Try.ntmps51
  go_upto_region 15 with (first
    | (go_at_call 107; refine (HO.out _ (RdW.alloc (RdW.alloc H0.out _) _)).mono ?_; rintro e w1 ⟨v1, rfl, hb1, ho1⟩; have hB := Bk.old (Bk.new_at (n := w.heap.size + 1) _ _ _ (by simp)) hb1; obtain ⟨f0, f1, f2, f3, f4, f5, f6, f7, f8, fz⟩ := hB.c9; obtain ⟨g1, cp1, rfl, _, _, _, _⟩ := own_slice_pos ho1 (by omega); have hz1 : w.heap.size + 1 + 1 ≤ w1.heap.size := (by simpa using hb1.size); have hr := RdW.own ho1; have hr2 : RdW w1 (some ⟨g1, 2, none⟩) (bs [x2, x3]) := hr.sub 2 2 T2; have hr4 : RdW w1 (some ⟨g1, 4, none⟩) (bs ((l.drop 4).take 32)) := hr.sub 4 32 T4)
    | (go_at_call 75; refine (get2_calls _ _ _ x2 x3 _ B2 B3 (RdW.alloc hr2 _)).mono ?_; rintro e w2 ⟨rfl, n2, rfl⟩)
    | (go_at_call 76; refine (getAll_calls _ 32 _ ((l.drop 4).take 32) _ H32 (by decide) (by omega) (by omega) B32 (RdW.far (RdW.drewN (RdW.alloc hr4 _) _) (by show g1 ≠ w1.heap.size; omega) _) (by omega) (by omega)).mono ?_; rintro e w3 ⟨v3, rfl, hb3, ho3⟩; obtain ⟨g3, cp3, rfl, _, _, _, _⟩ := own_slice_pos ho3 (by omega); have hB3 := Bk.old (Bk.far (Bk.drewN (Bk.alloc hB _) n2) (p := ⟨w1.heap.size, 0, none⟩) (by show w.heap.size + 1 ≠ w1.heap.size; omega) _) hb3; have hF3 : Bk w3 w1.heap.size 25 #[.int .i64 (Sp.get2 x2 x3), .int .i64 0, .int .i64 0, .int .i64 0, .int .i64 0, .int .i64 0, .int .i64 0, .int .i64 0, .int .i64 0] := Bk.old (Bk.set_ (Bk.drewN (Bk.new w1 25 _) n2) 0 _) hb3; clear f0 f1 f2 f3 f4 f5 f6 f7 f8 fz; obtain ⟨f0, f1, f2, f3, f4, f5, f6, f7, f8, fz⟩ := hB3.c9; obtain ⟨d0, d1, d2, d3, d4, d5, d6, d7, d8, dz⟩ := hF3.c9; have hr3 := RdW.own ho3; rw [G32.out] at hr3; have q0 : w3.cell? ⟨g3, 0, none⟩ = some (.int .i64 a0) := hr3.cell 0 rfl; have q1 : w3.cell? ⟨g3, 1, none⟩ = some (.int .i64 a1) := (by simpa using hr3.cell 1 rfl); have q2 : w3.cell? ⟨g3, 2, none⟩ = some (.int .i64 a2) := (by simpa using hr3.cell 2 rfl); have q3 : w3.cell? ⟨g3, 3, none⟩ = some (.int .i64 a3) := (by simpa using hr3.cell 3 rfl); have q4 : w3.cell? ⟨g3, 4, none⟩ = some (.int .i64 a4) := (by simpa using hr3.cell 4 rfl); have q5 : w3.cell? ⟨g3, 5, none⟩ = some (.int .i64 a5) := (by simpa using hr3.cell 5 rfl); have q6 : w3.cell? ⟨g3, 6, none⟩ = some (.int .i64 a6) := (by simpa using hr3.cell 6 rfl); have q7 : w3.cell? ⟨g3, 7, none⟩ = some (.int .i64 a7) := (by simpa using hr3.cell 7 rfl); have HZ := Lib.hid hz1; have hne1 : w1.heap.size ≠ w.heap.size + 1 := (by omega); have hne2 : w.heap.size + 1 ≠ w1.heap.size := (by omega); have HE : Hid (Ext w w3) := ((((((Ext.alloc (Ext.alloc (Ext.refl w) _) _).trans hb1).alloc _).drewN n2).setCell (p := ⟨w1.heap.size, 0, none⟩) (by show w.heap.size ≤ w1.heap.size; omega) _).trans hb3); clear hB ho1 ho3 hr3 hr2 hr4 hr hz1 hb1 hb3))
  go_cut [] (fun wx => Hid (Ext w wx) ∧ Bk wx w1.heap.size 25 (Fr.mk (Sp.get2 x2 x3) a0 a1 a2 a3 a4 a5 a6 a7).cells ∧ Bk wx (w.heap.size + 1) 25 Fr.zero.cells)
  case first =>
    go_wp2_with fail
    go_meet
    case rel =>
      go_light
      refine ⟨?_, ?_, ?_⟩
      · have HE' := HE.out
        have hz : w.heap.size ≤ w1.heap.size := Nat.le_trans (by omega) HZ.out
        exact Ext.setCell (Ext.setCell (Ext.setCell (Ext.setCell (Ext.setCell (Ext.setCell (Ext.setCell (Ext.setCell HE' (p := ⟨w1.heap.size, _, none⟩) hz _) (p := ⟨w1.heap.size, _, none⟩) hz _) (p := ⟨w1.heap.size, _, none⟩) hz _) (p := ⟨w1.heap.size, _, none⟩) hz _) (p := ⟨w1.heap.size, _, none⟩) hz _) (p := ⟨w1.heap.size, _, none⟩) hz _) (p := ⟨w1.heap.size, _, none⟩) hz _) (p := ⟨w1.heap.size, _, none⟩) hz _
      · have := Bk.set_ (Bk.set_ (Bk.set_ (Bk.set_ (Bk.set_ (Bk.set_ (Bk.set_ (Bk.set_ hF3 1 (.int .i64 a0)) 2 (.int .i64 a1)) 3 (.int .i64 a2)) 4 (.int .i64 a3)) 5 (.int .i64 a4)) 6 (.int .i64 a5)) 7 (.int .i64 a6)) 8 (.int .i64 a7)
        exact this
      · have hB4 : Bk w3 (w.heap.size + 1) 25 Fr.zero.cells := hB3
        exact Bk.far (Bk.far (Bk.far (Bk.far (Bk.far (Bk.far (Bk.far (Bk.far hB4 (p := ⟨w1.heap.size, _, none⟩) hne2 _) (p := ⟨w1.heap.size, _, none⟩) hne2 _) (p := ⟨w1.heap.size, _, none⟩) hne2 _) (p := ⟨w1.heap.size, _, none⟩) hne2 _) (p := ⟨w1.heap.size, _, none⟩) hne2 _) (p := ⟨w1.heap.size, _, none⟩) hne2 _) (p := ⟨w1.heap.size, _, none⟩) hne2 _) (p := ⟨w1.heap.size, _, none⟩) hne2 _
  case rest =>
    obtain ⟨hE, hF, hB⟩ := hcut
    clear f0 f1 f2 f3 f4 f5 f6 f7 f8 fz d0 d1 d2 d3 d4 d5 d6 d7 d8 dz q0 q1 q2 q3 q4 q5 q6 q7 HE hB3 hF3 hat
    obtain ⟨f0, f1, f2, f3, f4, f5, f6, f7, f8, fz⟩ := Bk.c9 hB
    obtain ⟨d0, d1, d2, d3, d4, d5, d6, d7, d8, dz⟩ := Bk.c9 hF
    clear hB hF
    go_wp2_with fail
    (try simp only [Exit.inBlock, Exit.then])
    refine bodyPost_ret (by simp [results, Try.results51, go_sem, f0, f1, f2, f3, f4, f5, f6, f7, f8, fz]; try rfl) rfl ?_
    refine ⟨rfl, ?_⟩
    have HE' := hE.out
    repeat (first | with_reducible exact HE' | (refine Ext.setCell ?_ (by simp) _))

/-- A frame, or its reject: of any slot. -/
theorem decode_calls (ch : Int) (is : Bool) (A : Option Addr) (n c : Nat) (l : List Int) (w : World) (hl : Sp.Bytes l) (h : RdW w A (bs l)) (hn : l.length = n) (hc : n ≤ c) (hcm : c ≤ maxLen) :
    Calls Try.prog 51 #[.int .i64 ch, .agg #[.bool is, .slice A n c]] w fun e w' => e = .returned (.tuple #[.agg (if reject ch is l = 0 then frOf l else Fr.zero).cells, .int .i64 (reject ch is l)]) ∧ Ext w w' := by
  cases is with
  | false => exact decode_absent ch A n c w
  | true =>
    by_cases h38 : n = 38
    · subst h38
      obtain ⟨b, off, rfl, hbb, hcell⟩ := h (by intro e; simp [bs] at e; subst e; simp at hn)
      obtain ⟨x0, h0⟩ : ∃ x, l[0]? = some x := ⟨_, List.getElem?_eq_getElem (by omega)⟩
      obtain ⟨x1, h1⟩ : ∃ x, l[1]? = some x := ⟨_, List.getElem?_eq_getElem (by omega)⟩
      obtain ⟨x2, h2⟩ : ∃ x, l[2]? = some x := ⟨_, List.getElem?_eq_getElem (by omega)⟩
      obtain ⟨x3, h3⟩ : ∃ x, l[3]? = some x := ⟨_, List.getElem?_eq_getElem (by omega)⟩
      have hx1 := hl x1 (List.mem_of_getElem? h1)
      have hw1 : IntKind.i64.wrap x1 = x1 := by unfold Sp.IsByte at hx1; exact IntWalk.i64_in x1 (by omega)
      have c0 : w.cell? ⟨b, off, none⟩ = some (.int .u8 x0) := hcell 0 _ (by simp [bs, h0])
      have c1 : w.cell? ⟨b, off + 1, none⟩ = some (.int .u8 x1) := hcell 1 _ (by simp [bs, h1])
      have g0 : l.getD 0 0 = x0 := by simp [h0]
      have g1 : l.getD 1 0 = x1 := by simp [h1]
      have hrej : reject ch true l = if x0 ≠ 165 then 3 else if x1 ≠ ch then 4 else if Sp.withSum (l.take (l.length - 2)) ≠ l then 5 else 0 := by
        unfold reject; rw [if_neg (by simp), if_neg (by omega), g0, g1]
      by_cases e0 : x0 = 165
      · subst e0
        by_cases e1 : x1 = ch
        · subst e1
          by_cases e2 : Sp.withSum (l.take (l.length - 2)) = l
          · have hr : reject x1 true l = 0 := by rw [hrej, if_neg (by simp), if_neg (by simp), if_neg (by simp [e2])]
            rw [hr, if_pos rfl]
            exact decode_sum_yes x1 x2 x3 b off c l w hl h hn hc hcm c0 c1 h2 h3 hw1 e2
          · have hr : reject x1 true l = 5 := by rw [hrej, if_neg (by simp), if_neg (by simp), if_pos e2]
            rw [hr, if_neg (by decide)]
            exact decode_sum_no x1 x1 b off c l w hl h hn hc hcm c0 c1 hw1 e2
        · have hr : reject ch true l = 4 := by rw [hrej, if_neg (by simp), if_pos e1]
          rw [hr, if_neg (by decide)]
          exact decode_other ch x1 b off c w hc c0 c1 hw1 e1
      · have hr : reject ch true l = 3 := by rw [hrej, if_pos e0]
        rw [hr, if_neg (by decide)]
        exact decode_sync ch x0 b off c w hc c0 e0
    · have hr : reject ch true l = 2 := by unfold reject; rw [if_neg (by simp), if_pos (by omega)]
      rw [hr, if_neg (by decide)]
      exact decode_length ch A n c w h38
end Go.Proofs.Ytgdlombjhbfbiaa
