/-
  Walks: law 19's live question, first part: an output whose last signals failed; two outputs compared; two lists of bytes compared.
-/
import Derived.Test.YtgdlombjhbfbiaaWx
import Derived.Test.YtgdlombjhbfbiaaEq
namespace Go.Proofs.Ytgdlombjhbfbiaa
set_option linter.unusedVariables false
set_option linter.unusedSimpArgs false
open Go.RowKit

section
variable {P : Program} {ops : Array Oper} {rest : List Oper} {o : Oper} {a : Act} {w : World} {Q : Exit → Act → World → Prop}
theorem wpList_made (hgd : o.guard = none) (t : TypeId) (parts : Array (Nat × Operand)) (ho : o.op = .build t parts) (cs : Array Value) (hb : P.built t (parts.map fun (i, x) => (i, a.eval x)).toList = some cs)
    (h : wpList P ops Q rest (a.put o.dst (.agg cs)) w) : wpList P ops Q (o :: rest) a w :=
  wpList_build hgd t parts ho (by rw [hb]; rfl) (by rw [hb]; exact h)
end

theorem wpList_fresh_at {P : Program} {ops : Array Oper} {rest : List Oper} {o : Oper} {a : Act} {w : World} {Q : Exit → Act → World → Prop} (hgd : o.guard = none) (t : TypeId) (ho : o.op = .alloc t) (cs : Array Value) (hz : (P.info? t).map (·.zero) = some (some (.agg cs))) (N : Nat) (hN : w.heap.size = N)
    (h : wpList P ops Q rest (a.put o.dst (.pointer (some ⟨N, 0, none⟩))) (w.alloc (.cells cs t))) : wpList P ops Q (o :: rest) a w := by
  subst hN
  exact wpList_fresh hgd t ho cs hz h

/-! ### outputs compared -/
def stKs : List Kd := [.i .i64, .i .i64, .i .i64, .b]
def outKs : List Kd := .i .i64 :: (List.replicate 8 (.i .i64) ++ (List.replicate 8 stKs).flatten)
/-- All its numbers are ints. -/
def OutSmall (o : Sp.Out) : Prop := (Lit.int .i64 o.seq).wf = true ∧ (∀ n ∈ o.vals, (Lit.int .i64 n).wf = true) ∧ ∀ x ∈ o.sts, (Lit.int .i64 x.i).wf = true ∧ (Lit.int .i64 x.l).wf = true ∧ (Lit.int .i64 x.s).wf = true
theorem stCells_flat (l : List Sp.St) : stCells l = l.flatMap (fun x => [.int .i64 x.i, .int .i64 x.l, .int .i64 x.s, .bool x.f]) := by
  induction l with
  | nil => rfl
  | cons x r ih => rw [List.flatMap_cons, ← ih]; rfl
theorem Out.kinds {o : Sp.Out} (hw : o.Wf) (h : OutSmall o) : Kinds outKs o.cells.toList := by
  obtain ⟨h1, h2, h3⟩ := h
  have k2 := Kinds.ints h2
  rw [hw.1] at k2
  have k3 : Kinds (List.replicate o.sts.length stKs).flatten (stCells o.sts) := by
    rw [stCells_flat]
    exact Kinds.blocks (fun x hx => ⟨⟨_, rfl, (h3 x hx).1⟩, ⟨_, rfl, (h3 x hx).2.1⟩, ⟨_, rfl, (h3 x hx).2.2⟩, ⟨_, rfl⟩, trivial⟩)
  rw [hw.2] at k3
  exact ⟨⟨_, rfl, h1⟩, Kinds.append k2 k3⟩
theorem small_wf {n : Int} (h : -100000000000 ≤ n ∧ n ≤ 100000000000) : (Lit.int .i64 n).wf = true := wf_i64 (by omega)
theorem Out.small_of_right {o : Sp.Out} (h : o.right = true) : OutSmall o := by
  obtain ⟨h1, h2, h3⟩ := Sp.Out.right_parts h
  refine ⟨?_, fun n hn => ?_, fun x hx => ?_⟩
  · simp [Sp.isSeq] at h1; exact small_wf (by omega)
  · have := h2 n hn; simp [Sp.is32] at this; exact small_wf (by omega)
  · have := (Sp.St.right_iff x).1 (h3 x hx)
    exact ⟨small_wf (by omega), small_wf (by omega), small_wf (by omega)⟩
theorem Out.small_zero : OutSmall Sp.Out.zero := by
  refine ⟨small_wf (by decide), fun n hn => ?_, fun x hx => ?_⟩
  · have := List.eq_of_mem_replicate (show n ∈ List.replicate 8 (0 : Int) from hn); subst this; exact small_wf (by decide)
  · have := List.eq_of_mem_replicate (show x ∈ List.replicate 8 Sp.St.zero from hx); subst this; exact ⟨small_wf (by decide), small_wf (by decide), small_wf (by decide)⟩
theorem out_eql {a b : Sp.Out} (hwa : a.Wf) (hwb : b.Wf) (ha : OutSmall a) (hb : OutSmall b) (w : World) (r : Bool) (he : r = true ↔ a.cells = b.cells) :
    (binOp .eql 50 (.agg a.cells) (.agg b.cells)).run Try.prog w = .ok (.bool r) w :=
  plain_eql (m := 9) (d := 9) (ks := outKs) (by kernel_rfl) (by omega) (by kernel_rfl) _ Try.underlying50 rfl (Out.kinds hwa ha) (Out.kinds hwb hb) w r he
theorem out_neq {a b : Sp.Out} (hwa : a.Wf) (hwb : b.Wf) (ha : OutSmall a) (hb : OutSmall b) (w : World) (r : Bool) (he : r = true ↔ a.cells = b.cells) :
    (binOp .neq 50 (.agg a.cells) (.agg b.cells)).run Try.prog w = .ok (.bool (!r)) w :=
  plain_neq (m := 9) (d := 9) (ks := outKs) (by kernel_rfl) (by omega) (by kernel_rfl) _ Try.underlying50 rfl (Out.kinds hwa ha) (Out.kinds hwb hb) w r he
theorem out_guard : Try.prog.eqGuardType Try.prog.depth 50 = false := by kernel_rfl

/-! ### lists of bytes compared -/
theorem same3_calls (A A2 : Option Addr) (c c2 : Nat) (l l2 : List Int) (w : World) (h : RdW w A (bs l)) (h2 : RdW w A2 (bs l2)) (hlen : l.length ≤ 1000000) (hlen2 : l2.length ≤ 1000000) :
    Calls Try.prog 24 #[.slice A l.length c, .slice A2 l2.length c2] w fun e w' => e = .returned (.bool (decide (l = l2))) ∧ ∃ n, w' = w.drewN n := by
  by_cases hn : l.length = l2.length
  · have hne : ((l.length : Int) != (l2.length : Int)) = false := by rw [hn]; simp
    have HN := Lib.hid hn
    have H1 : Hid (RdW w A (bs l)) := h
    have H2 : Hid (RdW w A2 (bs l2)) := h2
    clear hn h h2
    go_enter Try.func24, Try.ntmps24
    go_wp2_with fail
    go_loopw [5] (fun i wr => ∃ k m : Nat, k ≤ l.length ∧ i = .int .i64 k ∧ Hid (l.take k = l2.take k) ∧ wr = w.drewN m) (fun i _ => l.length - (intOf i).toNat)
    case atStart => exact ⟨0, 0, Nat.zero_le _, rfl, rfl, rfl⟩
    case round =>
      obtain ⟨k, m, hk, rfl, HP, rfl⟩ := hrel
      by_cases hlt : k < l.length
      · have hlt2 : k < l2.length := by rw [← HN.out]; exact hlt
        obtain ⟨x, hx⟩ : ∃ x, l[k]? = some x := ⟨_, List.getElem?_eq_getElem hlt⟩
        obtain ⟨y, hy⟩ : ∃ y, l2[k]? = some y := ⟨_, List.getElem?_eq_getElem hlt2⟩
        obtain ⟨b, off, rfl, _, hcx⟩ := Rd.at_ H1.out (k := k) (u := .int .u8 x) (by simp [bs, hx])
        obtain ⟨b2, off2, rfl, _, hcy⟩ := Rd.at_ H2.out (k := k) (u := .int .u8 y) (by simp [bs, hy])
        have HX := Lib.hid hx
        have HY := Lib.hid hy
        clear hx hy H1 H2
        by_cases hxy : x = y
        · subst hxy
          have hb : (x != x) = false := by simp
          go_wp2_with fail
          go_quiet (fail)
          go_wp2_with fail
          go_roundw
          case rel => exact ⟨k + 1, _, by omega, by go_num, by show _ = _; rw [List.take_add_one, List.take_add_one, HX.out, HY.out, HP.out], rfl⟩
          case measure => simp [intOf]; omega
        · have hb : (x != y) = true := by simp [hxy]
          go_wp2_with fail
          go_quiet (fail)
          go_wp2_with fail
          go_ret
          refine ⟨?_, _, World.drewN_drewN _ _ _⟩
          have : l ≠ l2 := by rintro rfl; have := HX.out; rw [HY.out] at this; exact hxy (by injection this with this; exact this.symm)
          simp [this]
      · obtain rfl : k = l.length := by omega
        go_wp2_with fail
        go_ret
        refine ⟨?_, _, rfl⟩
        have e1 := HP.out
        rw [List.take_of_length_le (Nat.le_refl _), HN.out, List.take_of_length_le (Nat.le_refl _)] at e1
        simp [e1]
  · have hne : ((l.length : Int) != (l2.length : Int)) = true := by simp; omega
    go_enter Try.func24, Try.ntmps24
    go_wp2_with fail
    go_ret
    refine ⟨?_, 0, rfl⟩
    have : l ≠ l2 := by rintro rfl; exact hn rfl
    simp [this]

/-! ### an output whose last signals failed -/
def someUpto (k : Nat) : Sp.Out := ⟨515, (List.range 8).map (fun i => if i < k then (i : Int) - 4 else 0), (List.range 8).map (fun i => if i < k then ⟨7 - i, 0, -1, (i : Int) == 7⟩ else Sp.St.zero)⟩
set_option maxRecDepth 100000 in
theorem some_step : ∀ k : Nat, k < 8 → putAt ((someUpto k).cells.setIfInBounds (1 + k) (.int .i64 ((k : Int) - 4))) (9 + k * 4) #[.int .i64 (7 - (k : Int)), .int .i64 0, .int .i64 (-1), .bool ((k : Int) == 7)] = (someUpto (k + 1)).cells
  | 0, _ | 1, _ | 2, _ | 3, _ | 4, _ | 5, _ | 6, _ | 7, _ => rfl
  | k + 8, h => by omega
set_option maxRecDepth 100000 in
theorem some_at : ∀ k : Nat, k < 8 → (someUpto k).cells[1 + k]? = some (.int .i64 0)
  | 0, _ | 1, _ | 2, _ | 3, _ | 4, _ | 5, _ | 6, _ | 7, _ => rfl
  | k + 8, h => by omega
theorem some_wf (k : Nat) : (someUpto k).Wf := ⟨rfl, rfl⟩

set_option maxRecDepth 100000 in
theorem some_calls (w : World) : Calls Try.prog 69 #[] w fun e w' => e = .returned (.agg (someUpto 8).cells) ∧ Ext w w' := by
  have HZ1 := Lib.hid Out.zero_info
  have hs := Out.size Out.zero_wf
  obtain ⟨zc, hzc⟩ : ∃ zc, Sp.Out.zero.cells = zc := ⟨_, rfl⟩
  rw [hzc] at HZ1 hs
  have hb0 : Try.prog.built 50 [(0, .int .i64 515)] = some (someUpto 0).cells := by kernel_rfl
  have HB0 := Lib.hid hb0
  have hs0 : ∀ k, (someUpto k).cells.size = 41 := fun k => Out.size (some_wf k)
  have HS0 := Lib.hid hs0
  have HONE := Lib.hid (fun k => Out.one (o := someUpto k))
  have HST := Lib.hid some_step
  have HAT := Lib.hid some_at
  clear hb0 hs0 hzc
  obtain ⟨oc, hoc⟩ : ∃ f : Nat → Array Value, ∀ k, (someUpto k).cells = f k := ⟨_, fun _ => rfl⟩
  rw [hoc] at HB0 ⊢
  have HOC := Lib.hid hoc
  simp only [hoc] at HS0 HONE HST HAT
  clear hoc
  have hBq : Hid (Bk ((w.alloc (.cells zc 50)).alloc (.cells zc 50)) (w.heap.size + 1) 50 zc) := Bk.new_at _ _ _ (by simp)
  have hBn : Hid (Bk ((w.alloc (.cells zc 50)).alloc (.cells zc 50)) w.heap.size 50 zc) := (Bk.new _ _ _).alloc _
  have hEq : Hid (Ext w ((w.alloc (.cells zc 50)).alloc (.cells zc 50))) := ((Ext.refl w).alloc _).alloc _
  have hi0 : Hid ((Try.prog.info? 50).map (·.size) = some (oc 0).size) := by show _ = _; rw [HS0.out]; kernel_rfl
  have hl0 : Hid (0 + (oc 0).size ≤ zc.size) := by show _ ≤ _; rw [HS0.out, hs]; decide
  go_enter Try.func69, Try.ntmps69
  go_wp2_with (first
    | (refine wpList_fresh_at rfl 50 rfl zc HZ1.out (w.heap.size + 1) ?_ ?_; (focus (simp; done)))
    | (refine wpList_fresh rfl 50 rfl zc HZ1.out ?_)
    | (refine wpList_made rfl 50 _ rfl (oc 0) ?_ ?_; (focus (simp only [List.map_toArray, List.map_cons, List.map_nil]; exact HB0.out)))
    | (refine wpList_put rfl 50 _ _ rfl (w.heap.size + 1) 0 (oc 0) rfl rfl 50 zc hBq.out hi0.out hl0.out (HONE.out 0) ?_; intro w2 hp2 hB2; rw [putAt_whole (by rw [HS0.out, hs])] at hB2; have HB2 : Hid (Bk w2 (w.heap.size + 1) 50 (oc 0)) := hB2; have HE2 : Hid (Ext w w2) := hp2.ext (by omega) hEq.out; have HN2 : Hid (Bk w2 w.heap.size 50 zc) := hp2.bk hBn.out (by omega); clear hp2 hB2))
  go_loopw [2] (fun i wx => ∃ k : Nat, k ≤ 8 ∧ i = .int .i64 k ∧ Hid (Ext w wx) ∧ Hid (Bk wx w.heap.size 50 zc) ∧ Hid (Bk wx (w.heap.size + 1) 50 (oc k))) (fun i _ => 8 - (intOf i).toNat)
  case atStart => exact ⟨0, Nat.zero_le _, rfl, HE2, HN2, HB2⟩
  case round =>
    obtain ⟨k, hk, rfl, HE, HN, HB⟩ := hrel
    by_cases hlt : k < 8
    · have hc0 : wr.cell? ⟨w.heap.size + 1, 1 + k, none⟩ = some (.int .i64 0) := (HB.out.cell (1 + k)).trans (HAT.out k hlt)
      have hf0 : wr.frozen? ⟨w.heap.size + 1, 1 + k, none⟩ = false := HB.out.frozen _
      have hst := Lib.hid (HST.out k hlt)
      have hBs : Hid (Bk (wr.setCell ⟨w.heap.size + 1, 1 + k, none⟩ (.int .i64 ((k : Int) - 4))) (w.heap.size + 1) 50 ((oc k).setIfInBounds (1 + k) (.int .i64 ((k : Int) - 4)))) := HB.out.set_ (1 + k) _
      have hEs : Hid (Ext w (wr.setCell ⟨w.heap.size + 1, 1 + k, none⟩ (.int .i64 ((k : Int) - 4)))) := HE.out.setCell (p := ⟨w.heap.size + 1, 1 + k, none⟩) (by show w.heap.size ≤ w.heap.size + 1; omega) _
      have hNs : Hid (Bk (wr.setCell ⟨w.heap.size + 1, 1 + k, none⟩ (.int .i64 ((k : Int) - 4))) w.heap.size 50 zc) := HN.out.far (p := ⟨w.heap.size + 1, 1 + k, none⟩) (by show w.heap.size ≠ w.heap.size + 1; omega) _
      have hl4 : Hid (9 + k * 4 + (#[Value.int .i64 (7 - (k : Int)), .int .i64 0, .int .i64 (-1), .bool ((k : Int) == 7)] : Array Value).size ≤ ((oc k).setIfInBounds (1 + k) (.int .i64 ((k : Int) - 4))).size) := by
        show _ ≤ _
        rw [Array.size_setIfInBounds, HS0.out]
        simp
        omega
      have h14 : Hid (∀ v ∈ (#[Value.int .i64 (7 - (k : Int)), .int .i64 0, .int .i64 (-1), .bool ((k : Int) == 7)] : Array Value).toList, v.oneCell' = true) := by
        intro v hv
        simp only [List.mem_cons, List.not_mem_nil, or_false] at hv
        rcases hv with rfl | rfl | rfl | rfl <;> rfl
      go_wp2_with (refine wpList_put rfl 47 _ _ rfl (w.heap.size + 1) (9 + k * 4) #[Value.int .i64 (7 - (k : Int)), .int .i64 0, .int .i64 (-1), .bool ((k : Int) == 7)] rfl rfl 50 _ hBs.out (by kernel_rfl) hl4.out h14.out ?_; intro w4 hp4 hB4; rw [hst.out] at hB4; have HB4 : Hid (Bk w4 (w.heap.size + 1) 50 (oc (k + 1))) := hB4; have HE4 : Hid (Ext w w4) := hp4.ext (by omega) hEs.out; have HN4 : Hid (Bk w4 w.heap.size 50 zc) := hp4.bk hNs.out (by omega); clear hp4 hB4)
      go_roundw
      case rel => exact ⟨k + 1, by omega, by go_num, HE4, HN4, HB4⟩
      case measure => simp [intOf]; omega
    · obtain rfl : k = 8 := by omega
      have hwh := Lib.hid (whole_ (HS0.out 8))
      have hi8 : Hid ((Try.prog.info? 50).map (·.size) = some (oc 8).size) := by show _ = _; rw [HS0.out]; kernel_rfl
      have hl8 : Hid (0 + (oc 8).size ≤ zc.size) := by show _ ≤ _; rw [HS0.out, hs]; decide
      go_wp2_with (first
        | (refine wpList_get rfl 50 _ rfl (w.heap.size + 1) 0 41 rfl 50 (oc 8) (oc 8) HB.out hwh.out (HS0.out 8) _ Try.underlying50 rfl (by kernel_rfl) ?_)
        | (refine wpList_put rfl 50 _ _ rfl w.heap.size 0 (oc 8) rfl rfl 50 zc HN.out hi8.out hl8.out (HONE.out 8) ?_; intro w5 hp5 hB5; rw [putAt_whole (by rw [HS0.out, hs])] at hB5; have HB5 := Lib.hid hB5; have HE5 : Hid (Ext w w5) := hp5.ext (Nat.le_refl _) HE.out; clear hp5 hB5))
      (try simp only [Exit.inBlock, Exit.then])
      refine bodyPost_ret (results_bk (p := 0) rfl rfl HB5.out _ Try.underlying50 rfl hi8.out) rfl ?_
      exact ⟨rfl, HE5.out⟩
end Go.Proofs.Ytgdlombjhbfbiaa
