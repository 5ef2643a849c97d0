/-
  Walks: law 19's live question.
-/
import Derived.Test.YtgdlombjhbfbiaaWy
namespace Go.Proofs.Ytgdlombjhbfbiaa
set_option linter.unusedVariables false
set_option linter.unusedSimpArgs false
open Go.RowKit
attribute [local go_sem ↓] ldOut_eq

theorem Out.zero_not : Sp.Out.zero.right = false := by decide
theorem some_right : (someUpto 8).right = true := by decide
theorem some_failed : (someUpto 8).failed = 1 := by decide

/-- All that law 19's live question asks. -/
theorem alive19_facts : ∃ (sc zc : Array Value) (eb : List Int), sc.size = 41 ∧ zc.size = 41 ∧ (∀ v ∈ sc.toList, v.oneCell' = true) ∧ (∀ v ∈ zc.toList, v.oneCell' = true) ∧
    (Try.prog.info? 50).map (·.zero) = some (some (.agg zc)) ∧ Try.prog.built 50 [] = some zc ∧
    (∀ W, Calls Try.prog 69 #[] W fun e w' => e = .returned (.agg sc) ∧ Ext W w') ∧
    (∀ W, Calls Try.prog 22 #[.agg sc] W fun e w' => ∃ v, e = .returned (.tuple #[v, .int .i64 0]) ∧ Ext W w' ∧ w'.ownsRow W.heap.size 5 1 v 54 (bs eb)) ∧
    (∀ A c W, RdW W A (bs eb) → 54 ≤ c → c ≤ maxLen → Calls Try.prog 25 #[.slice A 54 c] W fun e w' => e = .returned (.tuple #[.agg sc, .int .i64 0]) ∧ Ext W w') ∧
    (∀ W, Calls Try.prog 22 #[.agg zc] W fun e w' => e = .returned (.tuple #[.slice none 0 0, .int .i64 1]) ∧ Ext W w') ∧
    (∀ A c W, Calls Try.prog 25 #[.slice A 53 c] W fun e w' => e = .returned (.tuple #[.agg zc, .int .i64 3]) ∧ Ext W w') ∧
    (∀ W, Calls Try.prog 29 #[.agg sc] W fun e w' => e = .returned (.int .i64 1) ∧ Ext W w') ∧
    (∀ W, Calls Try.prog 27 #[.agg sc] W fun e w' => e = .returned (.bool true) ∧ Ext W w') ∧
    (∀ W, (binOp .eql 50 (.agg sc) (.agg sc)).run Try.prog W = .ok (.bool true) W) ∧
    eb[0]? = some 90 ∧ eb[1]? = some 1 ∧ eb[2]? = some 2 ∧ eb[3]? = some 3 ∧ eb[7]? = some 252 ∧ eb[36]? = some 7 ∧ eb[37]? = some 7 ∧ eb[50]? = some 15 ∧ eb[51]? = some 0 := by
  have hw := some_wf 8
  have hb : Sp.Bytes (someUpto 8).enc := Sp.Out.enc_bytes hw some_right
  refine ⟨(someUpto 8).cells, Sp.Out.zero.cells, (someUpto 8).enc, Out.size hw, Out.size Out.zero_wf, Out.one, Out.one, Out.zero_info, Out.zero_built, fun W => some_calls W, fun W => outEncode_yes _ hw W some_right, ?_,
    fun W => outEncode_no _ Out.zero_wf W Out.zero_not, fun A c W => outDecode_len A 53 c W (by decide), ?_, ?_, fun W => out_eql hw hw (Out.small_of_right some_right) (Out.small_of_right some_right) W true (by simp), rfl, rfl, rfl, rfl, rfl, rfl, rfl, rfl, rfl⟩
  · intro A c W h hc hm
    have := outDecode_calls A 54 c _ W hb h (Sp.Out.enc_length hw) hc hm
    unfold decVal at this
    rw [Sp.outDec_enc hw some_right] at this
    exact this
  · intro W
    have := outFailed_calls _ hw W
    rw [some_failed] at this
    exact this
  · intro W
    have := outRight_calls _ hw W
    rw [some_right] at this
    exact this

set_option maxRecDepth 100000 in
set_option maxHeartbeats 4000000 in
theorem alive19_calls (w : World) : Calls Try.prog 21 #[] w fun e w' => e = .returned (.bool true) ∧ Ext w w' := by
  obtain ⟨sc, zc, eb, hs, hz, h1, hz1, hzi, hzb, f1, f2, f3, f4, f5, f6, f7, f8, b0, b1, b2, b3, b7, b36, b37, b50, b51⟩ := alive19_facts
  have F1 := Lib.hid f1
  have F2 := Lib.hid f2
  have F3 := Lib.hid f3
  have F4 := Lib.hid f4
  have F5 := Lib.hid f5
  have F6 := Lib.hid f6
  have F7 := Lib.hid f7
  have H1 := Lib.hid h1
  have HZ1 := Lib.hid hz1
  have HZI := Lib.hid hzi
  have HZB := Lib.hid hzb
  have hwh := Lib.hid (whole_ hs)
  have HB : Hid (∀ (g : Nat) (W : World), RdW W (some ⟨g, 0, none⟩) (bs eb) → W.cell? ⟨g, 0, none⟩ = some (.int .u8 90) ∧ W.cell? ⟨g, 1, none⟩ = some (.int .u8 1) ∧ W.cell? ⟨g, 2, none⟩ = some (.int .u8 2) ∧ W.cell? ⟨g, 3, none⟩ = some (.int .u8 3) ∧ W.cell? ⟨g, 7, none⟩ = some (.int .u8 252) ∧ W.cell? ⟨g, 36, none⟩ = some (.int .u8 7) ∧ W.cell? ⟨g, 37, none⟩ = some (.int .u8 7) ∧ W.cell? ⟨g, 50, none⟩ = some (.int .u8 15) ∧ W.cell? ⟨g, 51, none⟩ = some (.int .u8 0)) := fun g W h => by
    have at_ : ∀ (i : Nat) (x : Int), eb[i]? = some x → W.cell? ⟨g, i, none⟩ = some (.int .u8 x) := fun i x hx => by
      have := h.cell i (v := .int .u8 x) (by unfold bs; rw [List.getElem?_map, hx]; rfl)
      rwa [Nat.zero_add] at this
    exact ⟨at_ _ _ b0, at_ _ _ b1, at_ _ _ b2, at_ _ _ b3, at_ _ _ b7, at_ _ _ b36, at_ _ _ b37, at_ _ _ b50, at_ _ _ b51⟩
  have HNE : Hid (bs eb ≠ []) := by intro e; have := bs_eq_nil e; rw [this] at b0; simp at b0
  have hi : Hid ((Try.prog.info? 50).map (·.size) = some sc.size) := by show _ = _; rw [hs]; kernel_rfl
  have hzs : Hid ((Try.prog.info? 50).map (·.size) = some zc.size) := by show _ = _; rw [hz]; kernel_rfl
  have hl : Hid (0 + sc.size ≤ zc.size) := by show _ ≤ _; omega
  have hlz : Hid (0 + zc.size ≤ zc.size) := by show _ ≤ _; omega
  have hpw : Hid (putAt zc 0 sc = sc) := putAt_whole (by omega)
  have hgd := out_guard
  clear f1 f2 f3 f4 f5 f6 f7 h1 hz1 hzi hzb b0 b1 b2 b3 b7 b36 b37 b50 b51
  have F8 := Lib.hid f8
  clear f8
  go_enter Try.func21, Try.ntmps21
  go_upto_region 2 with (first
    | (go_at_call 69; refine (F1.out _).mono ?_; rintro e w1 ⟨rfl, hE1⟩)
    | (go_at_call 22; refine (F2.out _).mono ?_; rintro e w2 ⟨v2, rfl, hE2, ho2⟩; obtain ⟨g1, c1, rfl, _, _, hc1, hm1⟩ := own_slice_pos ho2 (by decide)))
  have HR2 : Hid (RdW w2 (some ⟨g1, 0, none⟩) (bs eb)) := RdW.own ho2
  have HE2 : Hid (Ext w w2) := hE1.trans hE2
  clear ho2 hE1 hE2
  go_upto_region 3 with (first
    | (go_at_call 25; refine (F3.out _ _ _ HR2.out hc1 hm1).mono ?_; rintro e w3 ⟨rfl, hE3⟩; have HE3 : Hid (Ext w2 w3) := hE3; clear hE3)
    | (refine wpList_fresh rfl 50 rfl zc HZI.out ?_)
    | (refine wpList_put rfl 50 _ _ rfl w3.heap.size 0 sc rfl rfl 50 zc (Bk.new _ _ _) hi.out hl.out H1.out ?_; intro w4 hp4 hB4; rw [hpw.out] at hB4; have HB4 : Hid (Bk w4 w3.heap.size 50 sc) := hB4; have HR4 : Hid (RdW w4 (some ⟨g1, 0, none⟩) (bs eb)) := hp4.rd ((HR2.out.ext HE3.out).alloc _) (by obtain ⟨_, _, e, hlt, _⟩ := HR2.out HNE.out; cases e; have := HE3.out.size; omega); have HE4 : Hid (Ext w w4) := hp4.ext (by have := (HE2.out.trans HE3.out).size; omega) ((HE2.out.trans HE3.out).alloc _); clear hp4 hB4))
  have hg3 : w.heap.size ≤ w3.heap.size := (HE2.out.trans HE3.out).size
  generalize w3.heap.size = g3 at *
  go_upto_region 4 with (first
    | (refine wpList_zero rfl 50 rfl zc HZB.out ?_)
    | (go_at_call 22; refine (F4.out _).mono ?_; rintro e w5 ⟨rfl, hE5⟩; have HB5 : Hid (Bk w5 g3 50 sc) := HB4.out.ext hE5; have HR5 : Hid (RdW w5 (some ⟨g1, 0, none⟩) (bs eb)) := HR4.out.ext hE5; have HE5 : Hid (Ext w w5) := HE4.out.trans hE5; clear hE5))
  have hmm : c1 ≤ 2 ^ 63 - 1 := by unfold maxLen at hm1; exact hm1
  go_upto_region 5 with (first
    | (go_at_call 25; refine (F5.out _ _ _).mono ?_; rintro e w6 ⟨rfl, hE6⟩; have HE6 : Hid (Ext w5 w6) := hE6; clear hE6)
    | (refine wpList_fresh rfl 50 rfl zc HZI.out ?_)
    | (refine wpList_put rfl 50 _ _ rfl w6.heap.size 0 zc rfl rfl 50 zc (Bk.new _ _ _) hzs.out hlz.out HZ1.out ?_; intro w7 hp7 _; have HB7 : Hid (Bk w7 g3 50 sc) := hp7.bk ((HB5.out.ext HE6.out).alloc _) (by have := HB5.out.lt; have := HE6.out.size; omega); have HR7 : Hid (RdW w7 (some ⟨g1, 0, none⟩) (bs eb)) := hp7.rd ((HR5.out.ext HE6.out).alloc _) (by obtain ⟨_, _, e, hlt, _⟩ := HR5.out HNE.out; cases e; have := HE6.out.size; omega); have HE7 : Hid (Ext w w7) := hp7.ext (by have := (HE5.out.trans HE6.out).size; omega) ((HE5.out.trans HE6.out).alloc _); clear hp7))
  have hld : Hid (∀ W, Bk W g3 50 sc → (ldOut (.pointer (some ⟨g3, 0, none⟩))).run Try.prog W = .ok (.agg sc) W) := fun W hW => by
    have := run_loadAt_mid (P := Try.prog) W g3 0 50 sc.toList _ (fun j v hv => by rw [Nat.zero_add, hW.cell j]; simpa using hv) Try.underlying50 rfl (by rw [Array.length_toList]; exact hi.out)
    rwa [Array.toArray_toList] at this
  have KP : Hid (∀ W, Bk W g3 50 sc → RdW W (some ⟨g1, 0, none⟩) (bs eb) → (ldOut (.pointer (some ⟨g3, 0, none⟩))).run Try.prog W = .ok (.agg sc) W ∧ W.cell? ⟨g1, 0, none⟩ = some (.int .u8 90) ∧ W.cell? ⟨g1, 1, none⟩ = some (.int .u8 1) ∧ W.cell? ⟨g1, 2, none⟩ = some (.int .u8 2) ∧ W.cell? ⟨g1, 3, none⟩ = some (.int .u8 3) ∧ W.cell? ⟨g1, 7, none⟩ = some (.int .u8 252) ∧ W.cell? ⟨g1, 36, none⟩ = some (.int .u8 7) ∧ W.cell? ⟨g1, 37, none⟩ = some (.int .u8 7) ∧ W.cell? ⟨g1, 50, none⟩ = some (.int .u8 15) ∧ W.cell? ⟨g1, 51, none⟩ = some (.int .u8 0)) := fun W h1 h2 => ⟨hld.out W h1, HB.out g1 W h2⟩
  go_upto_region 7 with fail
  have hq := F8.out
  simp only [List.append_eq, List.cons_append, List.nil_append]
  go_region_held3 (fun W => (ldOut (.pointer (some ⟨g3, 0, none⟩))).run Try.prog W = .ok (.agg sc) W ∧ W.cell? ⟨g1, 0, none⟩ = some (.int .u8 90) ∧ W.cell? ⟨g1, 1, none⟩ = some (.int .u8 1) ∧ W.cell? ⟨g1, 2, none⟩ = some (.int .u8 2) ∧ W.cell? ⟨g1, 3, none⟩ = some (.int .u8 3) ∧ W.cell? ⟨g1, 7, none⟩ = some (.int .u8 252) ∧ W.cell? ⟨g1, 36, none⟩ = some (.int .u8 7) ∧ W.cell? ⟨g1, 37, none⟩ = some (.int .u8 7) ∧ W.cell? ⟨g1, 50, none⟩ = some (.int .u8 15) ∧ W.cell? ⟨g1, 51, none⟩ = some (.int .u8 0))
    (focus ((refine KP.out _ ?_ ?_); (focus (repeat (first | (with_reducible exact HB7.out) | (with_reducible refine Bk.drew ?_) | (with_reducible refine Bk.ext ?_ hb10) | (with_reducible refine Bk.ext ?_ hb9) | (with_reducible refine Bk.ext ?_ hb8)))); (focus (repeat (first | (with_reducible exact HR7.out) | (with_reducible refine RdW.drew ?_) | (with_reducible refine RdW.ext ?_ hb10) | (with_reducible refine RdW.ext ?_ hb9) | (with_reducible refine RdW.ext ?_ hb8)))); done))
    (first
      | (go_at_call 69; refine (F1.out _).mono ?_; rintro e w8 ⟨rfl, hb8⟩)
      | (go_at_call 29; refine (F6.out _).mono ?_; rintro e w9 ⟨rfl, hb9⟩)
      | (go_at_call 27; refine (F7.out _).mono ?_; rintro e w10 ⟨rfl, hb10⟩))
  all_goals go_wp2_with fail
  all_goals go_ret
  all_goals (
    refine ⟨rfl, ?_⟩
    repeat (first | (with_reducible exact HE7.out) | (with_reducible refine Ext.trans ?_ hb10) | (with_reducible refine Ext.trans ?_ hb9) | (with_reducible refine Ext.trans ?_ hb8) | (with_reducible refine Ext.drew ?_)))
end Go.Proofs.Ytgdlombjhbfbiaa
