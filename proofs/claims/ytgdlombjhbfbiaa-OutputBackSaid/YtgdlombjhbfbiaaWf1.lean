/-
  Walks: the bytes of a frame.
-/
import Derived.Test.YtgdlombjhbfbiaaWf0
namespace Go.Proofs.Ytgdlombjhbfbiaa
set_option linter.unusedVariables false
set_option linter.unusedSimpArgs false
open Go.RowKit

theorem frEncode_no (ch : Int) (f : Fr) (w : World) (h : ¬ (0 ≤ ch ∧ ch < 4 ∧ f.right = true)) :
    Calls Try.prog 14 #[.int .i64 ch, .agg f.cells] w fun e w' => e = .returned (.tuple #[.slice none 0 0, .int .i64 1]) ∧ Ext w w' := by
  have hr := frRight_calls f (w.alloc (.cells f.cells 25))
  unfold Fr.cells at hr ⊢
  by_cases h1 : 0 ≤ ch
  · by_cases h2 : ch < 4
    · have h3 : f.right = false := by simpa [h1, h2] using h
      rw [h3] at hr
      clear h h3
      go_enter Try.func14, Try.ntmps14
      go_wp2_with (go_at_call 62; refine hr.mono ?_; rintro e w1 ⟨rfl, hb1⟩)
      go_ret2
      exact ⟨rfl, (Ext.alloc (Ext.refl w) _).trans hb1⟩
    · clear h
      go_enter Try.func14, Try.ntmps14
      go_wp2_with fail
      go_ret2
      exact ⟨rfl, Ext.alloc (Ext.refl w) _⟩
  · clear h
    go_enter Try.func14, Try.ntmps14
    go_wp2_with fail
    go_ret2
    exact ⟨rfl, Ext.alloc (Ext.refl w) _⟩

set_option maxRecDepth 100000 in
set_option maxHeartbeats 4000000 in
theorem frEncode_yes (ch : Int) (f : Fr) (w : World) (h1 : 0 ≤ ch) (h2 : ch < 4) (h3 : f.right = true) :
    Calls Try.prog 14 #[.int .i64 ch, .agg f.cells] w fun e w' => ∃ v, e = .returned (.tuple #[v, .int .i64 0]) ∧ Ext w w' ∧ w'.ownsRow w.heap.size 5 1 v 38 (bs (encode ch f)) := by
  have hr := frRight_calls f (w.alloc (.cells f.cells 25))
  rw [h3] at hr
  have hseq : Sp.isSeq f.seq = true := by unfold Fr.right at h3; simp only [Bool.and_eq_true] at h3; exact h3.1
  have hvals : ∀ n ∈ f.vals, Sp.is32 n = true := by unfold Fr.right at h3; simp only [Bool.and_eq_true, List.all_eq_true] at h3; exact h3.2
  have hR0 : RdW (w.alloc (.cells f.cells 25)) (some ⟨w.heap.size, 1, none⟩) (is_ f.vals) := Rd.more (f.rd w 25) (by simp)
  have hC0 : (w.alloc (.cells f.cells 25)).cell? ⟨w.heap.size, 0, none⟩ = some (.int .i64 f.seq) := by simp [Fr.cells]
  unfold Fr.cells at hr hR0 hC0 ⊢
  clear h3
  go_enter Try.func14, Try.ntmps14
  go_wp2_with (go_at_call 62; refine hr.mono ?_; rintro e w1 ⟨rfl, hb1⟩)
  have hE1 : Ext w w1 := (Ext.alloc (Ext.refl w) _).trans hb1
  have hR1 := hR0.ext hb1
  have hC1 := Ext.cell hb1 hC0
  have hch : IntKind.u8.wrap ch = ch := IntWalk.u8_in ch (by omega)
  have hlit : ∀ (W : World) (A : Option Addr), A = some ⟨W.heap.size, 0, none⟩ → RdW (W.alloc (.cells #[.int .u8 165, .int .u8 ch] 5)) A (bs [165, ch]) := fun W A h => RdW.new' W A (bs [165, ch]) _ h
  have hl36 : 2 + 2 + 4 * f.vals.length ≤ 1000000 := by simp [Fr.vals]
  have hjl : ([165, ch] ++ Sp.put2 f.seq ++ Sp.putAll f.vals).length = 2 + 2 + 4 * f.vals.length := by rw [List.length_append, List.length_append, Sp.putAll_length]; rfl
  have hjb : Sp.Bytes ([165, ch] ++ Sp.put2 f.seq ++ Sp.putAll f.vals) := by
    refine Sp.Bytes.append (Sp.Bytes.append (fun x hx => ?_) (Sp.put2_bytes hseq)) (Sp.putAll_bytes _)
    simp at hx; unfold Sp.IsByte; omega
  clear hr hR0 hC0 hb1
  go_region_held3 (fun W => W.cell? ⟨w.heap.size, 0, none⟩ = some (.int .i64 f.seq)) (focus (repeat (first | (with_reducible assumption) | (with_reducible refine cell_drew ?_) | (with_reducible refine cell_alloc ?_ _) | (with_reducible refine Ext.cell hb5 ?_) | (with_reducible refine Ext.cell hb4 ?_) | (with_reducible refine Ext.cell hb3 ?_) | (with_reducible refine Ext.cell hb2 ?_))); done)
    (first
      | (go_at_call 65; refine (put2_calls f.seq _ hseq).mono ?_; rintro e w2 ⟨v2, rfl, hb2, ho2⟩; replace hb2 : Ext _ _ := hb2; obtain ⟨g2, c2, rfl, _, _, _, _⟩ := own_slice_pos ho2 (by omega); have hr2 := RdW.own ho2)
      | (go_at_call 66; refine (putAll_calls _ 8 f.vals _ hvals ?_ (by simp [Fr.vals])).mono ?_; (focus ((show RdW _ _ _); (repeat (first | (with_reducible assumption) | ((with_reducible refine hlit _ _ ?_); first | rfl | simp) | (with_reducible refine RdW.drew ?_) | (with_reducible refine RdW.alloc ?_ _) | (with_reducible refine RdW.ext ?_ hb4) | (with_reducible refine RdW.ext ?_ hb3) | (with_reducible refine RdW.ext ?_ hb2))); done)); rintro e w3 ⟨v3, rfl, hb3, ho3⟩; replace hb3 : Ext _ _ := hb3; obtain ⟨g3, c3, rfl, _, _, _, _⟩ := own_slice_pos ho3 (by simp [Fr.vals]); have hr3 := RdW.own ho3)
      | (go_at_call 64; refine (concat3_lit 2 2 (4 * f.vals.length) [165, ch] (Sp.put2 f.seq) (Sp.putAll f.vals) rfl rfl (Sp.putAll_length _) ?_ ?_ ?_ ?_ hl36).mono ?_; (focus (first | rfl | simp)); (focus ((show RdW _ _ _); (repeat (first | (with_reducible assumption) | ((with_reducible refine hlit _ _ ?_); first | rfl | simp) | (with_reducible refine RdW.drew ?_) | (with_reducible refine RdW.alloc ?_ _) | (with_reducible refine RdW.ext ?_ hb4) | (with_reducible refine RdW.ext ?_ hb3) | (with_reducible refine RdW.ext ?_ hb2))); done)); (focus ((show RdW _ _ _); (repeat (first | (with_reducible assumption) | ((with_reducible refine hlit _ _ ?_); first | rfl | simp) | (with_reducible refine RdW.drew ?_) | (with_reducible refine RdW.alloc ?_ _) | (with_reducible refine RdW.ext ?_ hb4) | (with_reducible refine RdW.ext ?_ hb3) | (with_reducible refine RdW.ext ?_ hb2))); done)); (focus ((show RdW _ _ _); (repeat (first | (with_reducible assumption) | ((with_reducible refine hlit _ _ ?_); first | rfl | simp) | (with_reducible refine RdW.drew ?_) | (with_reducible refine RdW.alloc ?_ _) | (with_reducible refine RdW.ext ?_ hb4) | (with_reducible refine RdW.ext ?_ hb3) | (with_reducible refine RdW.ext ?_ hb2))); done)); rintro e w4 ⟨v4, rfl, hb4, ho4⟩; replace hb4 : Ext _ _ := hb4; obtain ⟨A4, c4, rfl, _, _⟩ := own_slice ho4; have hr4 := RdW.own ho4)
      | (go_at_call 63; refine (crcSeal_n _ _ (2 + 2 + 4 * f.vals.length) ([165, ch] ++ Sp.put2 f.seq ++ Sp.putAll f.vals) _ hjl hjb ?_ hl36).mono ?_; (focus ((show RdW _ _ _); (repeat (first | (with_reducible assumption) | ((with_reducible refine hlit _ _ ?_); first | rfl | simp) | (with_reducible refine RdW.drew ?_) | (with_reducible refine RdW.alloc ?_ _) | (with_reducible refine RdW.ext ?_ hb4) | (with_reducible refine RdW.ext ?_ hb3) | (with_reducible refine RdW.ext ?_ hb2))); done)); rintro e w5 ⟨v5, rfl, hb5, ho5⟩; replace hb5 : Ext _ _ := hb5))
  all_goals go_wp2_with fail
  all_goals go_ret2
  all_goals (
    have hE5 : Ext w w4 := by
      repeat (first | with_reducible exact hE1 | with_reducible refine Ext.trans ?_ hb4 | with_reducible refine Ext.trans ?_ hb3 | with_reducible refine Ext.trans ?_ hb2 | with_reducible refine Ext.alloc ?_ _ | with_reducible refine Ext.drew ?_)
    exact ⟨v5, rfl, hE5.trans hb5, ownsRow_base (ho5 : w5.ownsRow w4.heap.size 5 1 v5 38 (bs (encode ch f))) hE5.size⟩)
end Go.Proofs.Ytgdlombjhbfbiaa
