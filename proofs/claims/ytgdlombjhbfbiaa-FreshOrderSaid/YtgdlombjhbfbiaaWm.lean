/-
  Walks: law 06's live question.
-/
import Derived.Test.YtgdlombjhbfbiaaWl
namespace Go.Proofs.Ytgdlombjhbfbiaa
set_option linter.unusedVariables false
set_option linter.unusedSimpArgs false
open Go.RowKit

theorem alive06_facts : ∃ la lb, (∀ W, Calls Try.prog 14 #[.int .i64 1, .agg #[.int .i64 65535, .int .i64 0, .int .i64 0, .int .i64 0, .int .i64 0, .int .i64 0, .int .i64 0, .int .i64 0, .int .i64 0]] W fun e w' => ∃ v, e = .returned (.tuple #[v, .int .i64 0]) ∧ Ext W w' ∧ w'.ownsRow W.heap.size 5 1 v 38 (bs la)) ∧ (∀ W, Calls Try.prog 14 #[.int .i64 1, .agg #[.int .i64 0, .int .i64 0, .int .i64 0, .int .i64 0, .int .i64 9, .int .i64 0, .int .i64 0, .int .i64 0, .int .i64 0]] W fun e w' => ∃ v, e = .returned (.tuple #[v, .int .i64 0]) ∧ Ext W w' ∧ w'.ownsRow W.heap.size 5 1 v 38 (bs lb)) ∧ (∀ t A c w, 38 ≤ c → c ≤ maxLen → RdW w A (bs la) → Bk w t 144 a0.cells → Calls Try.prog 17 #[.pointer (some ⟨t, 0, none⟩), .agg #[.bool true, .slice A 38 c]] w fun e w' => e = .returned (.tuple #[.agg #[.int .i64 65535, .int .i64 0, .int .i64 0, .int .i64 0, .int .i64 0, .int .i64 0, .int .i64 0, .int .i64 0, .int .i64 0], .int .i64 0]) ∧ Keep (fun i => i = t) w w' ∧ Bk w' t 144 a1.cells) ∧ (∀ t A c w, 38 ≤ c → c ≤ maxLen → RdW w A (bs lb) → Bk w t 144 a2.cells → Calls Try.prog 17 #[.pointer (some ⟨t, 0, none⟩), .agg #[.bool true, .slice A 38 c]] w fun e w' => e = .returned (.tuple #[.agg #[.int .i64 0, .int .i64 0, .int .i64 0, .int .i64 0, .int .i64 9, .int .i64 0, .int .i64 0, .int .i64 0, .int .i64 0], .int .i64 0]) ∧ Keep (fun i => i = t) w w' ∧ Bk w' t 144 a3.cells) ∧ (∀ t A c w, 38 ≤ c → c ≤ maxLen → RdW w A (bs lb) → Bk w t 144 a3.cells → Calls Try.prog 17 #[.pointer (some ⟨t, 0, none⟩), .agg #[.bool true, .slice A 38 c]] w fun e w' => e = .returned (.tuple #[.agg #[.int .i64 0, .int .i64 0, .int .i64 0, .int .i64 0, .int .i64 0, .int .i64 0, .int .i64 0, .int .i64 0, .int .i64 0], .int .i64 6]) ∧ Keep (fun i => i = t) w w' ∧ Bk w' t 144 a4.cells) :=
  ⟨encode 1 f1, encode 1 f2, fun W => frEncode_yes 1 f1 W (by decide) (by decide) (by decide), fun W => frEncode_yes 1 f2 W (by decide) (by decide) (by decide), fun t A c w hc hcm h hT => al1 t A c w hc hcm h hT, fun t A c w hc hcm h hT => al3 t A c w hc hcm h hT, fun t A c w hc hcm h hT => al4 t A c w hc hcm h hT⟩

theorem al7 (w : World) : (binOp .eql 41 (.agg #[.int .i64 2, .int .i64 1, .int .i64 0, .int .i64 0, .int .i64 0, .int .i64 0, .int .i64 1]) (.agg #[.int .i64 2, .int .i64 1, .int .i64 0, .int .i64 0, .int .i64 0, .int .i64 0, .int .i64 1])).run Try.prog w = .ok (.bool true) w := by
  have u3 := Try.underlying3
  have a3 := Try.isAgg3
  have z3 := Try.sizeOf3
  rw [run_eql_struct, show (10000 : Nat) = 9999 + 1 from rfl, Op.equalIn]
  simp only [Sem.run_bind, run_underlying Try.underlying41, Result.andThen_ok]
  simp only [Std.Legacy.Range.forIn_eq_forIn_range', Std.Legacy.Range.size, Nat.sub_zero, Nat.add_sub_cancel, Nat.div_one, List.range'_succ, List.range'_zero, List.forIn_cons, List.forIn_nil]
  go_simp

theorem al5 (t : Nat) (w : World) (hT : Bk w t 144 a4.cells) :
    Calls Try.prog 20 #[.pointer (some ⟨t, 0, none⟩)] w fun e w' => e = .returned (.tuple #[.int .i64 0, .bool true]) ∧ ∃ n, w' = w.drewN n := last_calls a4 t w hT
theorem al6 (t : Nat) (w : World) (hT : Bk w t 144 a4.cells) :
    Calls Try.prog 19 #[.pointer (some ⟨t, 0, none⟩)] w fun e w' => e = .returned (.agg #[.int .i64 2, .int .i64 1, .int .i64 0, .int .i64 0, .int .i64 0, .int .i64 0, .int .i64 1]) ∧ Ext w w' := counts_calls a4 t w hT

/-- How memory stands between two slots. -/
structure St6 (w0 : World) (ga gb : Nat) (la lb : List Int) (T : Trk) (wx : World) : Prop where
  ext : Ext w0 wx
  trk : Bk wx w0.heap.size 144 T.cells
  ra : RdW wx (some ⟨ga, 0, none⟩) (bs la)
  rb : RdW wx (some ⟨gb, 0, none⟩) (bs lb)
  na : ga ≠ w0.heap.size
  nb : gb ≠ w0.heap.size
theorem St6.next {w0 wx w' : World} {ga gb : Nat} {la lb : List Int} {T T' : Trk} (h : St6 w0 ga gb la lb T wx) (k : Keep (fun i => i = w0.heap.size) wx w') (hT : Bk w' w0.heap.size 144 T'.cells) : St6 w0 ga gb la lb T' w' :=
  ⟨Below.trans h.ext (k.below h.ext.size (fun i hi e => by omega)), hT, RdW.keep h.ra k h.na, RdW.keep h.rb k h.nb, h.na, h.nb⟩
theorem St6.alloc {w0 wx : World} {ga gb : Nat} {la lb : List Int} {T : Trk} (h : St6 w0 ga gb la lb T wx) (o : Obj) : St6 w0 ga gb la lb T (wx.alloc o) :=
  ⟨h.ext.alloc o, h.trk.alloc o, h.ra.alloc o, h.rb.alloc o, h.na, h.nb⟩

set_option maxRecDepth 100000 in
set_option maxHeartbeats 4000000 in
theorem alive06_calls (w : World) :
    Calls Try.prog 15 #[] w fun e w' => e = .returned (.bool true) ∧ Ext w w' := by
  obtain ⟨la, lb, n1, n2, k1, k3, k4⟩ := alive06_facts
  have hq7 := al7
  replace n1 := Lib.hid n1
  replace n2 := Lib.hid n2
  replace k1 := Lib.hid k1
  replace k3 := Lib.hid k3
  replace k4 := Lib.hid k4
  go_enter Try.func15, Try.ntmps15
  go_upto_region 4 with (first
    | (go_at_call 16; refine (new_calls 1 _ (by decide) (by decide)).mono ?_; rintro e w1 ⟨rfl, rfl⟩; obtain ⟨w1, hw1⟩ : ∃ w1, w1 = w.alloc (.cells (Trk.new 1).cells 144) := ⟨_, rfl⟩; rw [← hw1]; have hT1 : Bk w1 w.heap.size 144 a0.cells := hw1 ▸ Bk.new w _ _; have hE1 : Ext w w1 := hw1 ▸ (Ext.refl w).alloc _; have hz1 : w1.heap.size = w.heap.size + 1 := (by rw [hw1]; simp); clear hw1))
  go_upto_region 5 with (first
    | (go_at_call 14; refine (n1.out w1).mono ?_; rintro e w2 ⟨v2, rfl, hE2, ho2⟩; obtain ⟨g2, c2, rfl, hg2, hl2, hc2, hm2⟩ := own_slice_pos ho2 (by decide); have hr2 := RdW.own ho2; clear ho2))
  go_upto_region 6 with (first
    | (go_at_call 14; refine (n2.out w2).mono ?_; rintro e w3 ⟨v3, rfl, hE3, ho3⟩; obtain ⟨g3, c3, rfl, hg3, hl3, hc3, hm3⟩ := own_slice_pos ho3 (by decide); have hr3 := RdW.own ho3; clear ho3))
  have hS : Hid (St6 w g2 g3 la lb a0 w3) := ⟨(hE1.trans hE2).trans hE3, (hT1.old hE2).old hE3, RdW.ext hr2 hE3, hr3, by omega, by have := hE2.size; omega⟩
  clear hT1 hE1 hE2 hr2 hE3 hr3 hz1 hg2 hl2 hg3 hl3
  go_cut [7, 8] (fun s7 s8 wx => ∃ g, s7 = .pointer (some ⟨g, 0, none⟩) ∧ s8 = .int .i64 0 ∧ Hid (St6 w g2 g3 la lb a1 wx))
  case first =>
    go_wp2_with (go_at_call 17; refine (k1.out _ _ _ w3 hc2 hm2 hS.out.ra hS.out.trk).mono ?_; rintro e w4 ⟨rfl, hk4, hb4⟩)
    go_meet
    case rel =>
      go_light
      exact ⟨_, rfl, rfl, (hS.out.next hk4 hb4).alloc _⟩
  case rest =>
    obtain ⟨g7, rfl, rfl, hS1⟩ := hcut
    clear hS
    go_upto_region 7 with fail
    go_cut [9, 10] (fun s9 s10 wx => ∃ g, s9 = .pointer (some ⟨g, 0, none⟩) ∧ s10 = .int .i64 1 ∧ Hid (St6 w g2 g3 la lb a2 wx))
    case first =>
      go_wp2_with (go_at_call 17; refine (al2 _ _ hS1.out.trk).mono ?_; rintro e w4 ⟨rfl, hk4, hb4⟩)
      go_meet
      case rel =>
        go_light
        exact ⟨_, rfl, rfl, (hS1.out.next hk4 hb4).alloc _⟩
    case rest =>
      obtain ⟨g9, rfl, rfl, hS2⟩ := hcut
      clear hS1
      go_upto_region 8 with fail
      go_cut [11, 12] (fun s11 s12 wx => ∃ g, s11 = .pointer (some ⟨g, 0, none⟩) ∧ s12 = .int .i64 0 ∧ Hid (St6 w g2 g3 la lb a3 wx) ∧ wx.cell? ⟨g, 4, none⟩ = some (.int .i64 9) ∧ g ≠ w.heap.size)
      case first =>
        go_wp2_with (go_at_call 17; refine (k3.out _ _ _ _ hc3 hm3 hS2.out.rb hS2.out.trk).mono ?_; rintro e w4 ⟨rfl, hk4, hb4⟩)
        go_meet
        case rel =>
          go_light
          exact ⟨_, rfl, rfl, (hS2.out.next hk4 hb4).alloc _, cell_new rfl, by have := hb4.lt; omega⟩
      case rest =>
        obtain ⟨g11, rfl, rfl, hS3, hx, hne⟩ := hcut
        clear hS2
        have hgl := World.block_lt_of_cell? _ _ hx
        go_upto_region 9 with fail
        go_cut [13, 14] (fun s13 s14 wx => ∃ g, s13 = .pointer (some ⟨g, 0, none⟩) ∧ s14 = .int .i64 6 ∧ Hid (St6 w g2 g3 la lb a4 wx) ∧ wx.cell? ⟨g11, 4, none⟩ = some (.int .i64 9))
        case first =>
          have HN := hS3.out.trk.lt
          go_wp2_with (go_at_call 17; refine (k4.out _ _ _ _ hc3 hm3 hS3.out.rb hS3.out.trk).mono ?_; rintro e w4 ⟨rfl, hk4, hb4⟩)
          go_meet
          case rel =>
            go_light
            refine ⟨_, rfl, rfl, (hS3.out.next hk4 hb4).alloc _, cell_alloc ((hk4.cell (p := ⟨g11, 4, none⟩) hgl ?_).trans hx) _⟩
            exact hne
        case rest =>
          obtain ⟨g13, rfl, rfl, hS4, hy⟩ := hcut
          clear hx hgl hne hS3
          go_wp2_with (first
            | (go_at_call 20; refine (al5 _ _ hS4.out.trk).mono ?_; rintro e w5 ⟨rfl, n5, rfl⟩)
            | (go_at_call 16; refine (new_no 4 _ (by decide)).mono ?_; rintro e w6 ⟨rfl, rfl⟩)
            | (go_at_call 19; refine (al6 _ _ (Bk.drewN hS4.out.trk _)).mono ?_; rintro e w7 ⟨rfl, hE7⟩))
          go_ret
          exact ⟨rfl, (hS4.out.ext.drewN _).trans hE7⟩
end Go.Proofs.Ytgdlombjhbfbiaa
