/-
  Walks: New, Take, Last and Counts of a track.
-/
import Derived.Test.YtgdlombjhbfbiaaWh
import Derived.Deep.RegionWith
namespace Go.Proofs.Ytgdlombjhbfbiaa
set_option linter.unusedVariables false
set_option linter.unusedSimpArgs false
open Go.RowKit

def Trk.new (ch : Int) : Trk := ⟨ch, 0, false, 0, 0, 0, 0, 0, 0, 0⟩
/-- A slot comes: the track behind it. -/
def Trk.take (T : Trk) (is : Bool) (l : List Int) : Trk := (T.step is l).1.bump (T.step is l).2.2.toNat

theorem new_calls (ch : Int) (w : World) (h0 : 0 ≤ ch) (h1 : ch < 4) :
    Calls Try.prog 16 #[.int .i64 ch] w fun e w' => e = .returned (.tuple #[.pointer (some ⟨w.heap.size, 0, none⟩), .int .i64 0]) ∧ w' = w.alloc (.cells (Trk.new ch).cells 144) := by
  go_enter Try.func16, Try.ntmps16
  go_wp2_with fail
  all_goals go_ret2
  all_goals exact ⟨rfl, rfl⟩

theorem new_no (ch : Int) (w : World) (h : ¬ (0 ≤ ch ∧ ch < 4)) :
    Calls Try.prog 16 #[.int .i64 ch] w fun e w' => e = .returned (.tuple #[.pointer none, .int .i64 1]) ∧ w' = w := by
  by_cases h0 : 0 ≤ ch
  · have h1 : 4 ≤ ch := by omega
    clear h
    go_enter Try.func16, Try.ntmps16
    go_wp2_with fail
    all_goals go_ret2
    all_goals exact ⟨rfl, rfl⟩
  · clear h
    go_enter Try.func16, Try.ntmps16
    go_wp2_with fail
    all_goals go_ret2
    all_goals exact ⟨rfl, rfl⟩

theorem last_calls (T : Trk) (t : Nat) (w : World) (hT : Bk w t 144 T.cells) :
    Calls Try.prog 20 #[.pointer (some ⟨t, 0, none⟩)] w fun e w' => e = .returned (.tuple #[.int .i64 T.last, .bool T.begun]) ∧ ∃ n, w' = w.drewN n := by
  obtain ⟨t0, t1, t2, _, _, _, _, _, _, _, tz⟩ := Bk.c10 hT
  clear hT
  go_enter Try.func20, Try.ntmps20
  go_wp2_with fail
  go_quiet (fail)
  go_wp2_with fail
  go_ret2
  exact ⟨rfl, _, rfl⟩

theorem counts_calls (T : Trk) (t : Nat) (w : World) (hT : Bk w t 144 T.cells) :
    Calls Try.prog 19 #[.pointer (some ⟨t, 0, none⟩)] w fun e w' => e = .returned (.agg (T.counts.map (Value.int .i64)).toArray) ∧ Ext w w' := by
  obtain ⟨t0, t1, t2, t3, t4, t5, t6, t7, t8, t9, tz⟩ := Bk.c10 hT
  have htl := hT.lt
  have hne : w.heap.size ≠ t := by omega
  clear hT
  go_enter Try.func19, Try.ntmps19
  go_wp2_with fail
  go_returns
  refine ⟨rfl, ?_⟩
  repeat (first | with_reducible exact Ext.refl _ | (with_reducible refine Ext.setCell ?_ (by simp) _) | with_reducible refine Ext.alloc ?_ _)

theorem reject_range (ch : Int) (is : Bool) (l : List Int) : 0 ≤ reject ch is l ∧ reject ch is l < 6 := by
  unfold reject
  repeat' split
  all_goals decide
theorem step_range (T : Trk) (is : Bool) (l : List Int) : ∃ k : Nat, k < 7 ∧ (T.step is l).2.2 = (k : Int) := by
  have := reject_range T.ch is l
  refine ⟨(T.step is l).2.2.toNat, ?_⟩
  unfold Trk.step
  split
  · dsimp only; omega
  · split <;> simp
theorem bump_cells (T : Trk) (k : Nat) (hk : k < 7) : ∃ v, T.cells[3 + k]? = some (.int .i64 v) ∧ (T.bump k).cells = T.cells.setIfInBounds (3 + k) (.int .i64 (v + 1)) ∧ v ∈ T.counts := by
  match k, hk with
  | 0, _ => exact ⟨T.c0, rfl, by simp [Trk.cells, Trk.bump], by simp [Trk.counts]⟩
  | 1, _ => exact ⟨T.c1, rfl, by simp [Trk.cells, Trk.bump], by simp [Trk.counts]⟩
  | 2, _ => exact ⟨T.c2, rfl, by simp [Trk.cells, Trk.bump], by simp [Trk.counts]⟩
  | 3, _ => exact ⟨T.c3, rfl, by simp [Trk.cells, Trk.bump], by simp [Trk.counts]⟩
  | 4, _ => exact ⟨T.c4, rfl, by simp [Trk.cells, Trk.bump], by simp [Trk.counts]⟩
  | 5, _ => exact ⟨T.c5, rfl, by simp [Trk.cells, Trk.bump], by simp [Trk.counts]⟩
  | 6, _ => exact ⟨T.c6, rfl, by simp [Trk.cells, Trk.bump], by simp [Trk.counts]⟩
theorem step_counts (T : Trk) (is : Bool) (l : List Int) : (T.step is l).1.counts = T.counts := by
  unfold Trk.step; split <;> rfl

set_option maxHeartbeats 2000000 in
theorem Take_calls (T : Trk) (t : Nat) (is : Bool) (A : Option Addr) (n c : Nat) (l : List Int) (w : World) (hl : Sp.Bytes l) (h : RdW w A (bs l)) (hn : l.length = n) (hc : n ≤ c) (hcm : c ≤ maxLen)
    (hT : Bk w t 144 T.cells) (hq : T.begun = true → Sp.isSeq T.last = true) (hs : ∀ x ∈ T.counts, 0 ≤ x ∧ x < 1000000) :
    Calls Try.prog 17 #[.pointer (some ⟨t, 0, none⟩), .agg #[.bool is, .slice A n c]] w fun e w' =>
      e = .returned (.tuple #[.agg (T.step is l).2.1.cells, .int .i64 (T.step is l).2.2]) ∧ Keep (fun i => i = t) w w' ∧ Bk w' t 144 (T.take is l).cells := by
  have htl := hT.lt
  obtain ⟨k, hk, hR⟩ := step_range T is l
  obtain ⟨T1, hT1⟩ : ∃ T1, (T.step is l).1 = T1 := ⟨_, rfl⟩
  obtain ⟨F, hF⟩ : ∃ F : Fr, (T.step is l).2.1 = F := ⟨_, rfl⟩
  have ho : Hid (∀ W, RdW W A (bs l) → Bk W t 144 T.cells → Calls Try.prog 67 #[.pointer (some ⟨t, 0, none⟩), .agg #[.bool is, .slice A n c]] W fun e w' => e = .returned (.tuple #[.agg #[.int .i64 F.seq, .int .i64 F.v0, .int .i64 F.v1, .int .i64 F.v2, .int .i64 F.v3, .int .i64 F.v4, .int .i64 F.v5, .int .i64 F.v6, .int .i64 F.v7], .int .i64 k]) ∧ Keep (fun i => i = t) W w' ∧ Bk w' t 144 T1.cells) := fun W hW hTW => by
    have := take_calls T t is A n c l W hl hW hn hc hcm hTW hq
    rw [hR, hF, hT1] at this
    exact this
  obtain ⟨v, hv1, hv2, hv3⟩ := bump_cells T1 k hk
  have hv4 := hs v (by rw [← step_counts T is l, hT1]; exact hv3)
  have hw : IntKind.i64.wrap (v + 1) = v + 1 := IntWalk.i64_in _ (by omega)
  have hgoal : (T.take is l).cells = T1.cells.setIfInBounds (3 + k) (.int .i64 (v + 1)) := by
    unfold Trk.take; rw [hT1, hR, Int.toNat_natCast]; exact hv2
  rw [hgoal, hF, hR]
  have HT := Lib.hid hT
  have HV := Lib.hid hv1
  have HA : Hid (RdW w A (bs l)) := h
  have hk0 : (0 : Int) ≤ (k : Int) := by omega
  have hk7 : (k : Int) < 7 := by omega
  clear hT hl h hn hF hR hT1 hgoal hv1 hv2 hv3 hv4 hs hq
  go_enter Try.func17, Try.ntmps17
  go_upto_region 3 with fail
  go_cut [6, 7] (fun s6 s7 wx => ∃ g, s6 = .pointer (some ⟨g, 0, none⟩) ∧ w.heap.size + 1 < g ∧ s7 = .int .i64 k ∧ Hid (Keep (fun i => i = t) w wx) ∧ Bk wx g 25 F.cells ∧ Bk wx (w.heap.size + 1) 25 Fr.zero.cells ∧ Bk wx t 144 T1.cells)
  case first =>
    go_wp2_with (go_at_call 67; refine (ho.out _ (RdW.alloc (RdW.alloc HA.out _) _) (Bk.alloc (Bk.alloc HT.out _) _)).mono ?_; rintro e w1 ⟨rfl, hb1, hb2⟩)
    go_meet
    go_light
    have hz := hb1.size
    simp only [World.size_alloc] at hz
    refine ⟨w1.heap.size, rfl, by omega, rfl, ?_, Bk.new_at _ _ _ rfl, ?_, Bk.alloc hb2 _⟩
    · exact Keep.alloc (Keep.trans (Keep.alloc (Keep.alloc (Keep.refl (fun i => i = t) w) _) _) hb1 (fun i _ h => h)) _
    · exact Bk.alloc (Bk.kept (Bk.new_at (n := w.heap.size + 1) _ _ _ (by simp)) hb1 (by show ¬ (w.heap.size + 1 = t); omega)) _
  case rest =>
    obtain ⟨g, rfl, hg, rfl, hE, hF, hB, hT⟩ := hcut
    obtain ⟨f0, f1, f2, f3, f4, f5, f6, f7, f8, fz⟩ := Bk.c9 hF
    obtain ⟨g0, g1, g2, g3, g4, g5, g6, g7, g8, gz⟩ := Bk.c9 hB
    have hck : wc.cell? ⟨t, 3 + k, none⟩ = some (.int .i64 v) := (hT.cell (3 + k)).trans HV.out
    have hfz : wc.frozen? ⟨t, 3 + k, none⟩ = false := hT.frozen _
    have hn3 : t ≠ w.heap.size + 1 := by omega
    have hn4 : w.heap.size + 1 ≠ t := by omega
    have hn5 : t ≠ g := by omega
    have hn6 : g ≠ t := by omega
    have HB := Lib.hid hT
    clear hF hB htl hT hg hk
    go_upto_region 4 with fail
    go_region_with (fail)
    go_wp2_with fail
    (try simp only [Exit.inBlock, Exit.then])
    refine bodyPost_ret (by simp [results, Try.results17, go_sem, *]; try rfl) rfl ?_
    refine ⟨rfl, ?_, ?_⟩
    · refine Keep.drew ?_
      refine Keep.trans (w1 := wc.setCell ⟨t, 3 + k, none⟩ (.int .i64 (v + 1))) (S := fun i => i = t) (T := fun i => i = w.heap.size + 1) ?_ ?_ ?_
      · exact Keep.setCell hE.out (p := ⟨t, 3 + k, none⟩) (fun _ => (rfl : t = t)) _
      · exact Keep.sets9 _ _ _ _ _ _ _ _ _ _ _
      · intro i hi he; omega
    · exact Bk.drew <| (HB.out.set_ (3 + k) (.int .i64 (v + 1))).far9 hn3 _ _ _ _ _ _ _ _ _
end Go.Proofs.Ytgdlombjhbfbiaa
