/-
  Walks: the output of bytes that are as many as an output's.
-/
import Derived.Test.YtgdlombjhbfbiaaWv
namespace Go.Proofs.Ytgdlombjhbfbiaa
set_option linter.unusedVariables false
set_option linter.unusedSimpArgs false
open Go.RowKit

/-- How memory stands while an output is read: the bytes, the empty output in block g, the one that is made in block g + 1. -/
structure Dec (w0 : World) (b off : Nat) (l : List Int) (o : Sp.Out) (wx : World) : Prop where
  ext : Ext w0 wx
  row : RdW wx (some ⟨b, off, none⟩) (bs l)
  zer : Bk wx w0.heap.size 50 Sp.Out.zero.cells
  out : Bk wx (w0.heap.size + 1) 50 o.cells

/-- What bytes tell, as it is handed back. -/
def decVal (l : List Int) : Value := .tuple #[.agg ((Sp.outDec l).getD Sp.Out.zero).cells, .int .i64 (if (Sp.outDec l).isSome = true then 0 else 3)]

set_option maxRecDepth 100000 in
set_option maxHeartbeats 4000000 in
theorem outDecode_main (b off c : Nat) (l : List Int) (w : World) (hl : Sp.Bytes l) (h : RdW w (some ⟨b, off, none⟩) (bs l)) (hlen : l.length = 54) (hc : 54 ≤ c) (hcm : c ≤ maxLen) (hbw : b < w.heap.size) :
    Calls Try.prog 25 #[.slice (some ⟨b, off, none⟩) 54 c] w fun e w' => e = .returned (decVal l) ∧ Ext w w' := by
  obtain ⟨x2, g2⟩ : ∃ x, l[2]? = some x := ⟨_, List.getElem?_eq_getElem (by omega)⟩
  obtain ⟨x3, g3⟩ : ∃ x, l[3]? = some x := ⟨_, List.getElem?_eq_getElem (by omega)⟩
  have B2 := Lib.hid (hl x2 (List.mem_of_getElem? g2))
  have B3 := Lib.hid (hl x3 (List.mem_of_getElem? g3))
  have B32 : Hid (Sp.Bytes ((l.drop 4).take 32)) := fun x hx => hl x (List.mem_of_mem_drop (List.mem_of_mem_take hx))
  have H32 : Hid (32 = ((l.drop 4).take 32).length) := by rw [Hid, List.length_take, List.length_drop]; omega
  have T2 : Hid ((l.drop 2).take 2 = [x2, x3]) := by
    rw [Hid]
    apply List.ext_getElem?
    intro i
    rcases i with _ | _ | i
    · simp [List.getElem?_take, List.getElem?_drop, g2]
    · simp [List.getElem?_take, List.getElem?_drop, g3]
    · simp [List.getElem?_take]; intros; omega
  have HOF : Hid (Sp.outOf l = ⟨Sp.get2 x2 x3, Sp.getAll ((l.drop 4).take 32), Sp.stsOf ((l.drop 36).take 16)⟩) := by
    show _ = _
    unfold Sp.outOf
    rw [List.getD_eq_getElem?_getD, List.getD_eq_getElem?_getD, g2, g3]
    rfl
  have HL := Lib.hid hl
  have HN := Lib.hid hlen
  have HR : Hid (RdW w (some ⟨b, off, none⟩) (bs l)) := h
  have hs := Out.size Out.zero_wf
  have HZ1 := Lib.hid Out.zero_info
  have HZ2 := Lib.hid Out.zero_built
  have hz0 : Sp.Out.zero.cells[0]? = some (.int .i64 0) := rfl
  clear hl hlen h g2 g3
  obtain ⟨zc, hzc⟩ : ∃ zc, Sp.Out.zero.cells = zc := ⟨_, rfl⟩
  rw [hzc] at HZ1 HZ2 hs hz0
  have HZC := Lib.hid hzc
  clear hzc
  go_enter Try.func25, Try.ntmps25
  go_upto_region 4 with (refine wpList_fresh rfl 50 rfl zc HZ1.out ?_)
  have HD0 : Hid (Dec w b off l Sp.Out.zero ((w.alloc (.cells zc 50)).alloc (.cells zc 50))) := by
    refine ⟨((Ext.refl w).alloc _).alloc _, (HR.out.alloc _).alloc _, ?_, ?_⟩
    · rw [HZC.out]; exact (Bk.new _ _ _).alloc _
    · rw [HZC.out]; exact Bk.new_at _ _ _ (by simp)
  generalize (w.alloc (.cells zc 50)).alloc (.cells zc 50) = w2 at *
  have hq0 : w2.cell? ⟨w.heap.size + 1, 0, none⟩ = some (.int .i64 0) := (HD0.out.out.cell 0).trans rfl
  have hqf : w2.frozen? ⟨w.heap.size + 1, 0, none⟩ = false := HD0.out.out.frozen 0
  have HG2 : Hid (RdW w2 (some ⟨b, off + 2, none⟩) (bs [x2, x3])) := HD0.out.row.sub 2 2 T2.out
  go_upto_region 5 with (go_at_call 75; refine (get2_calls _ _ _ x2 x3 _ B2.out B3.out HG2.out).mono ?_; rintro e w3 ⟨rfl, n3, rfl⟩)
  have HD1 : Hid (Dec w b off l ⟨Sp.get2 x2 x3, List.replicate 8 0, List.replicate 8 Sp.St.zero⟩ ((w2.drewN n3).setCell ⟨w.heap.size + 1, 0, none⟩ (.int .i64 (Sp.get2 x2 x3)))) := by
    have hd := HD0.out
    refine ⟨(hd.ext.drewN n3).setCell (p := ⟨w.heap.size + 1, 0, none⟩) (by show w.heap.size ≤ w.heap.size + 1; omega) _, (hd.row.drewN n3).far (p := ⟨w.heap.size + 1, 0, none⟩) (by show b ≠ w.heap.size + 1; omega) _, (hd.zer.drewN n3).far (p := ⟨w.heap.size + 1, 0, none⟩) (by show w.heap.size ≠ w.heap.size + 1; omega) _, ?_⟩
    have := (hd.out.drewN n3).set_ 0 (.int .i64 (Sp.get2 x2 x3))
    rwa [show Sp.Out.zero = ⟨0, List.replicate 8 0, List.replicate 8 Sp.St.zero⟩ from rfl, Out.put_seq] at this
  clear hq0 hqf HG2 HD0
  generalize (w2.drewN n3).setCell ⟨w.heap.size + 1, 0, none⟩ (.int .i64 (Sp.get2 x2 x3)) = w4 at *
  have HG4 : Hid (RdW w4 (some ⟨b, off + 4, none⟩) (bs ((l.drop 4).take 32))) := HD1.out.row.sub 4 32 rfl
  unfold maxLen at hcm
  go_upto_region 6 with (go_at_call 76; refine (getAll_calls _ 32 _ ((l.drop 4).take 32) _ H32.out (by decide) (by omega) (by unfold maxLen; omega) B32.out HG4.out (by omega) (by omega)).mono ?_; rintro e w5 ⟨v5, rfl, hb5, ho5⟩; obtain ⟨g5, cp5, rfl, hg5, _, _, _⟩ := own_slice_pos ho5 (by omega))
  obtain ⟨vals, hvals⟩ : ∃ v, Sp.getAll ((l.drop 4).take 32) = v := ⟨_, rfl⟩
  rw [hvals] at HOF ho5
  have hvl : Hid (vals.length = 8) := by show _ = _; rw [← hvals]; exact Sp.getAll_length4 8 _ H32.out.symm
  have HR5 : Hid (w5.rangeAt g5 0 (is_ vals)) := fun j v hv => (RdW.own ho5).cell j hv
  have HD2 : Hid (Dec w b off l ⟨Sp.get2 x2 x3, List.replicate 8 0, List.replicate 8 Sp.St.zero⟩ w5) := by
    have hd := HD1.out
    have hb5' : Ext w4 w5 := hb5
    exact ⟨hd.ext.trans hb5', hd.row.ext hb5', hd.zer.ext hb5', hd.out.ext hb5'⟩
  have hln : (is_ vals).length = 8 := by simp [is_, hvl.out]
  have hone : Hid (∀ v ∈ (is_ vals).toArray.toList, v.oneCell' = true) := fun v hv => by
    simp only [is_, List.mem_map] at hv
    obtain ⟨n, _, rfl⟩ := hv
    rfl
  have hqz : Hid ((Sp.Out.mk (Sp.get2 x2 x3) (List.replicate 8 0) (List.replicate 8 Sp.St.zero)).cells.size = 41) := Out.size ⟨rfl, rfl⟩
  have hpv := Lib.hid (Out.put_vals (Sp.get2 x2 x3) (List.replicate 8 0) vals rfl hvl.out (List.replicate 8 Sp.St.zero))
  have HLN := Lib.hid hln
  clear ho5 hb5 HD1 HG4 hvals hln B32 H32
  have hat : ∀ (W : World) (g cp : Nat), (Instr.arrayAt 23 (.slice (some ⟨g, 0, none⟩) 8 cp)).run Try.prog W = .ok (.pointer (some ⟨g, 0, none⟩)) W :=
    fun W g cp => run_arrayAt W _ _ 8 _ 8 cp Try.underlying23 (by decide)
  go_upto_region 7 with (first
    | (refine wpList_load_mid rfl 23 _ rfl g5 0 rfl (is_ vals) _ HR5.out Try.underlying23 rfl (by rw [HLN.out]; kernel_rfl) ?_)
    | (refine wpList_put rfl 23 _ _ rfl (w.heap.size + 1) 1 (is_ vals).toArray rfl rfl 50 _ HD2.out.out (by rw [List.size_toArray, HLN.out]; kernel_rfl) (by rw [List.size_toArray, HLN.out, hqz.out]; decide) hone.out ?_; intro w6 hp6 hB6; rw [hpv.out] at hB6))
  simp only [Act.put]
  have HD3 : Hid (Dec w b off l ⟨Sp.get2 x2 x3, vals, List.replicate 8 Sp.St.zero⟩ w6) := by
    have hd := HD2.out
    exact ⟨hp6.ext (by omega) hd.ext, hp6.rd hd.row (by omega), hp6.bk hd.zer (by omega), hB6⟩
  clear hp6 hB6 HD2 hpv hqz hone HR5 HLN hat hg5 hz0
  obtain ⟨sts, hsts⟩ : ∃ s, Sp.stsOf ((l.drop 36).take 16) = s := ⟨_, rfl⟩
  rw [hsts] at HOF
  have hsl : Hid (sts.length = 8) := by show _ = _; rw [← hsts]; exact Sp.stsOf_length 8 _ (by rw [List.length_take, List.length_drop, HN.out]; rfl)
  have HST := Lib.hid hsts
  clear hsts
  go_wp2_with fail
  go_loopw [33] (fun i wx => ∃ k : Nat, k ≤ 8 ∧ i = .int .i64 k ∧ Hid (Dec w b off l ⟨Sp.get2 x2 x3, vals, sts.take k ++ List.replicate (8 - k) Sp.St.zero⟩ wx)) (fun i _ => 8 - (intOf i).toNat)
  case atStart => exact ⟨0, Nat.zero_le _, rfl, HD3⟩
  case round =>
    obtain ⟨k, hk, rfl, HD⟩ := hrel
    by_cases hlt : k < 8
    · obtain ⟨x, gx⟩ : ∃ x, l[36 + 2 * k]? = some x := ⟨_, List.getElem?_eq_getElem (by rw [HN.out]; omega)⟩
      obtain ⟨y, gy⟩ : ∃ y, l[36 + 2 * k + 1]? = some y := ⟨_, List.getElem?_eq_getElem (by rw [HN.out]; omega)⟩
      have BX := Lib.hid (HL.out x (List.mem_of_getElem? gx))
      have BY := Lib.hid (HL.out y (List.mem_of_getElem? gy))
      have TXY : (l.drop (36 + 2 * k)).take 2 = [x, y] := by
        apply List.ext_getElem?
        intro i
        rcases i with _ | _ | i
        · simp [List.getElem?_take, List.getElem?_drop, gx]
        · simp [List.getElem?_take, List.getElem?_drop, gy]
        · simp [List.getElem?_take]; intros; omega
      have HGk : Hid (RdW wr (some ⟨b, off + (36 + 2 * k), none⟩) (bs [x, y])) := HD.out.row.sub (36 + 2 * k) 2 TXY
      have HSk : Hid (sts[k]? = some (Sp.stOf x y)) := by
        show _ = _
        rw [← HST.out]
        refine stsOf_at _ k x y ?_ ?_
        · rw [List.getElem?_take, if_pos (by omega), List.getElem?_drop]; exact gx
        · rw [List.getElem?_take, if_pos (by omega), List.getElem?_drop, ← Nat.add_assoc]; exact gy
      obtain ⟨r, hps⟩ : ∃ r : Int, ∀ W, Calls Try.prog 77 #[.int .i64 (Sp.get2 x y)] W fun e w' => e = .returned (.tuple #[.agg (Sp.stOf x y).cells, .int .i64 r]) ∧ Ext W w' := ⟨_, fun W => stParse_calls (Sp.get2 x y) W⟩
      have HPS := Lib.hid hps
      have hform : sts.take k ++ List.replicate (8 - k) Sp.St.zero = sts.take k ++ Sp.St.zero :: List.replicate (7 - k) Sp.St.zero := by
        rw [show 8 - k = (7 - k) + 1 from by omega, List.replicate_succ]
      have hlk : (sts.take k).length = k := by rw [List.length_take, hsl.out]; omega
      have hput := Out.put_st (Sp.get2 x2 x3) vals hvl.out (sts.take k) (List.replicate (7 - k) Sp.St.zero) (Sp.stOf x y) Sp.St.zero
      rw [hlk, ← hform] at hput
      have hnext : sts.take k ++ Sp.stOf x y :: List.replicate (7 - k) Sp.St.zero = sts.take (k + 1) ++ List.replicate (8 - (k + 1)) Sp.St.zero := by
        rw [List.take_add_one, HSk.out, Option.toList_some, List.append_assoc, show 8 - (k + 1) = 7 - k from by omega]; rfl
      rw [hnext] at hput
      have HPT := Lib.hid hput
      have hosz : Hid ((Sp.Out.mk (Sp.get2 x2 x3) vals (sts.take k ++ List.replicate (8 - k) Sp.St.zero)).cells.size = 41) := by
        refine Out.size ⟨hvl.out, ?_⟩
        show (sts.take k ++ List.replicate (8 - k) Sp.St.zero).length = 8
        rw [List.length_append, hlk, List.length_replicate]; omega
      have hx4 : Hid (∀ v ∈ (Sp.stOf x y).cells.toList, v.oneCell' = true) := by
        intro v hv
        simp only [Sp.St.cells, List.mem_cons, List.not_mem_nil, or_false] at hv
        rcases hv with rfl | rfl | rfl | rfl <;> rfl
      clear gx gy TXY hps hform hlk hput hnext HD3
      have hxs : (Sp.stOf x y).cells.size = 4 := rfl
      generalize (Sp.stOf x y).cells = xc at *
      go_wp2_with (first
        | (go_at_call 75; refine (get2_calls _ _ _ x y _ BX.out BY.out HGk.out).mono ?_; rintro e w7 ⟨rfl, n7, rfl⟩)
        | (go_at_call 77; refine (HPS.out _).mono ?_; rintro e w8 ⟨rfl, hE8⟩; have HD8 : Hid (Dec w b off l ⟨Sp.get2 x2 x3, vals, sts.take k ++ List.replicate (8 - k) Sp.St.zero⟩ w8) := ⟨(HD.out.ext.drewN n7).trans hE8, (HD.out.row.drewN n7).ext hE8, (HD.out.zer.drewN n7).ext hE8, (HD.out.out.drewN n7).ext hE8⟩; clear hE8)
        | (refine wpList_put rfl 47 _ _ rfl (w.heap.size + 1) (9 + k * 4) xc rfl rfl 50 _ HD8.out.out (by rw [hxs]; kernel_rfl) (by rw [hxs, hosz.out]; omega) hx4.out ?_; intro w9 hp9 hB9; rw [HPT.out] at hB9; have HD9 : Hid (Dec w b off l ⟨Sp.get2 x2 x3, vals, sts.take (k + 1) ++ List.replicate (8 - (k + 1)) Sp.St.zero⟩ w9) := ⟨hp9.ext (by omega) HD8.out.ext, hp9.rd HD8.out.row (by omega), hp9.bk HD8.out.zer (by omega), hB9⟩; clear hp9 hB9 HD8))
      go_roundw
      case rel => exact ⟨k + 1, by omega, by go_num, HD9⟩
      case measure => simp [intOf]; omega
    · obtain rfl : k = 8 := by omega
      have hO : (Sp.Out.mk (Sp.get2 x2 x3) vals (sts.take 8 ++ List.replicate (8 - 8) Sp.St.zero)) = Sp.outOf l := by
        rw [HOF.out, List.take_of_length_le (by rw [hsl.out]; exact Nat.le_refl _)]
        simp
      rw [hO] at HD
      have hwf := Sp.outOf_wf HN.out
      have hos := Out.size hwf
      have HWF := Lib.hid hwf
      have hwh := Lib.hid (whole_ hos)
      have hone := Lib.hid (Out.one (o := Sp.outOf l))
      have hzone := Lib.hid (Out.one (o := Sp.Out.zero))
      rw [HZC.out] at hzone
      have HZB : Hid (Bk wr w.heap.size 50 zc) := by have := HD.out.zer; rwa [HZC.out] at this
      have HQB : Hid (Bk wr (w.heap.size + 1) 50 (Sp.outOf l).cells) := HD.out.out
      have HE : Hid (Ext w wr) := HD.out.ext
      have HRW : Hid (RdW wr (some ⟨b, off, none⟩) (bs l)) := HD.out.row
      clear hO hwf HD3 HST hsl HOF hvl T2 B2 B3 HR HD
      cases hr : (Sp.outOf l).right with
      | false =>
        have hd : Sp.outDec l = none := by unfold Sp.outDec; rw [if_neg (by simp [hr])]
        have HEN := Lib.hid (fun W => outEncode_no (Sp.outOf l) HWF.out W hr)
        have HDD := Lib.hid hd
        clear hd hr
        generalize hoc : (Sp.outOf l).cells = oc at *
        have HOC := Lib.hid hoc
        clear hoc
        go_wp2_with (first
          | (refine wpList_get rfl 50 _ rfl (w.heap.size + 1) 0 41 rfl 50 oc oc HQB.out hwh.out hos _ Try.underlying50 rfl (by kernel_rfl) ?_)
          | (go_at_call 22; refine (HEN.out _).mono ?_; rintro e w7 ⟨rfl, hE7⟩; have HZ7 : Hid (Bk w7 w.heap.size 50 zc) := HZB.out.ext hE7; have HE7 : Hid (Ext w w7) := HE.out.trans hE7; clear hE7)
          | (refine wpList_zero rfl 50 rfl zc HZ2.out ?_)
          | (refine wpList_put rfl 50 _ _ rfl w.heap.size 0 zc rfl rfl 50 zc HZ7.out (by rw [hs]; kernel_rfl) (by omega) hzone.out ?_; intro w8 hp8 hB8; rw [putAt_whole rfl] at hB8; have HB8 := Lib.hid hB8; have HP8 := Lib.hid hp8; clear hp8 hB8))
        (try simp only [Exit.inBlock, Exit.then])
        refine bodyPost_ret (results_bk2 (p := 2) (q := 3) rfl rfl rfl HB8.out _ Try.underlying50 rfl (by rw [hs]; kernel_rfl)) rfl ?_
        exact ⟨by unfold decVal; rw [HDD.out]; simp [HZC.out], HP8.out.ext (Nat.le_refl _) HE7.out⟩
      | true =>
        have HEN := Lib.hid (fun W => outEncode_yes (Sp.outOf l) HWF.out W hr)
        have hel := Sp.Out.enc_length HWF.out
        by_cases heq : (Sp.outOf l).enc = l
        · have hd : Sp.outDec l = some (Sp.outOf l) := by unfold Sp.outDec; rw [if_pos ⟨HN.out, hr, heq⟩]
          have HEQ : Hid (∀ (A1 : Option Addr) (c1 : Nat) (W : World), RdW W A1 (bs (Sp.outOf l).enc) → RdW W (some ⟨b, off, none⟩) (bs l) → Calls Try.prog 78 #[.slice A1 54 c1, .slice (some ⟨b, off, none⟩) 54 c] W fun e w' => e = .returned (.bool true) ∧ ∃ n, w' = W.drewN n) := fun A1 c1 W h1 h2 => by
            have := equal8_calls A1 (some ⟨b, off, none⟩) c1 c W.heap.size _ l W h1 h2 (by rw [hel]; unfold maxLen; omega) (by rw [HN.out]; unfold maxLen; omega)
            rw [hel, HN.out, decide_eq_true heq] at this
            exact this
          have HDD := Lib.hid hd
          generalize (Sp.outOf l).enc = eb at *
          clear hd hr heq
          generalize hoc : (Sp.outOf l).cells = oc at *
          have HOC := Lib.hid hoc
          clear hoc
          go_wp2_with (first
            | (refine wpList_get rfl 50 _ rfl (w.heap.size + 1) 0 41 rfl 50 oc oc HQB.out hwh.out hos _ Try.underlying50 rfl (by kernel_rfl) ?_)
            | (go_at_call 22; refine (HEN.out _).mono ?_; rintro e w7 ⟨v7, rfl, hE7, ho7⟩; obtain ⟨g7, c7, rfl, _, _, _, _⟩ := own_slice_pos ho7 (by decide); have HR7 : Hid (RdW w7 (some ⟨g7, 0, none⟩) (bs eb)) := RdW.own ho7; have HZ7 : Hid (Bk w7 w.heap.size 50 zc) := HZB.out.ext hE7; have HQ7 : Hid (Bk w7 (w.heap.size + 1) 50 oc) := HQB.out.ext hE7; have HRB7 : Hid (RdW w7 (some ⟨b, off, none⟩) (bs l)) := HRW.out.ext hE7; have HE7 : Hid (Ext w w7) := HE.out.trans hE7; clear hE7 ho7)
            | (go_at_call 78; refine (HEQ.out _ _ _ HR7.out HRB7.out).mono ?_; rintro e w8 ⟨rfl, n8, rfl⟩)
            | (refine wpList_get rfl 50 _ rfl (w.heap.size + 1) 0 41 rfl 50 oc oc (HQ7.out.drewN n8) hwh.out hos _ Try.underlying50 rfl (by kernel_rfl) ?_)
            | (refine wpList_put rfl 50 _ _ rfl w.heap.size 0 oc rfl rfl 50 zc (HZ7.out.drewN n8) (by rw [hos]; kernel_rfl) (by omega) hone.out ?_; intro w9 hp9 hB9; rw [putAt_whole (by omega)] at hB9; have HB9 := Lib.hid hB9; have HP9 := Lib.hid hp9; clear hp9 hB9))
          (try simp only [Exit.inBlock, Exit.then])
          refine bodyPost_ret (results_bk2 (p := 2) (q := 3) rfl rfl rfl HB9.out _ Try.underlying50 rfl (by rw [hos]; kernel_rfl)) rfl ?_
          exact ⟨by unfold decVal; rw [HDD.out]; simp [HOC.out], HP9.out.ext (Nat.le_refl _) (HE7.out.drewN n8)⟩
        · have hd : Sp.outDec l = none := by unfold Sp.outDec; rw [if_neg (fun e => heq e.2.2)]
          have HEQ : Hid (∀ (A1 : Option Addr) (c1 : Nat) (W : World), RdW W A1 (bs (Sp.outOf l).enc) → RdW W (some ⟨b, off, none⟩) (bs l) → Calls Try.prog 78 #[.slice A1 54 c1, .slice (some ⟨b, off, none⟩) 54 c] W fun e w' => e = .returned (.bool false) ∧ ∃ n, w' = W.drewN n) := fun A1 c1 W h1 h2 => by
            have := equal8_calls A1 (some ⟨b, off, none⟩) c1 c W.heap.size _ l W h1 h2 (by rw [hel]; unfold maxLen; omega) (by rw [HN.out]; unfold maxLen; omega)
            rw [hel, HN.out, decide_eq_false heq] at this
            exact this
          have HDD := Lib.hid hd
          generalize (Sp.outOf l).enc = eb at *
          clear hd hr heq
          generalize hoc : (Sp.outOf l).cells = oc at *
          have HOC := Lib.hid hoc
          clear hoc
          go_wp2_with (first
            | (refine wpList_get rfl 50 _ rfl (w.heap.size + 1) 0 41 rfl 50 oc oc HQB.out hwh.out hos _ Try.underlying50 rfl (by kernel_rfl) ?_)
            | (go_at_call 22; refine (HEN.out _).mono ?_; rintro e w7 ⟨v7, rfl, hE7, ho7⟩; obtain ⟨g7, c7, rfl, _, _, _, _⟩ := own_slice_pos ho7 (by decide); have HR7 : Hid (RdW w7 (some ⟨g7, 0, none⟩) (bs eb)) := RdW.own ho7; have HZ7 : Hid (Bk w7 w.heap.size 50 zc) := HZB.out.ext hE7; have HRB7 : Hid (RdW w7 (some ⟨b, off, none⟩) (bs l)) := HRW.out.ext hE7; have HE7 : Hid (Ext w w7) := HE.out.trans hE7; clear hE7 ho7)
            | (go_at_call 78; refine (HEQ.out _ _ _ HR7.out HRB7.out).mono ?_; rintro e w8 ⟨rfl, n8, rfl⟩)
            | (refine wpList_zero rfl 50 rfl zc HZ2.out ?_)
            | (refine wpList_put rfl 50 _ _ rfl w.heap.size 0 zc rfl rfl 50 zc (HZ7.out.drewN n8) (by rw [hs]; kernel_rfl) (by omega) hzone.out ?_; intro w9 hp9 hB9; rw [putAt_whole rfl] at hB9; have HB9 := Lib.hid hB9; have HP9 := Lib.hid hp9; clear hp9 hB9))
          (try simp only [Exit.inBlock, Exit.then])
          refine bodyPost_ret (results_bk2 (p := 2) (q := 3) rfl rfl rfl HB9.out _ Try.underlying50 rfl (by rw [hs]; kernel_rfl)) rfl ?_
          exact ⟨by unfold decVal; rw [HDD.out]; simp [HZC.out], HP9.out.ext (Nat.le_refl _) (HE7.out.drewN n8)⟩

/-- The output of any bytes. -/
theorem outDecode_calls (A : Option Addr) (n c : Nat) (l : List Int) (w : World) (hl : Sp.Bytes l) (h : RdW w A (bs l)) (hlen : l.length = n) (hc : n ≤ c) (hcm : c ≤ maxLen) :
    Calls Try.prog 25 #[.slice A n c] w fun e w' => e = .returned (decVal l) ∧ Ext w w' := by
  by_cases h54 : n = 54
  · subst h54
    obtain ⟨b, off, rfl, hb, _⟩ := h (by intro e; have := congrArg List.length e; rw [bs_length, hlen] at this; simp at this)
    exact outDecode_main b off c l w hl h hlen hc hcm hb
  · have hd : Sp.outDec l = none := by unfold Sp.outDec; rw [if_neg (fun e => h54 (by rw [← hlen]; exact e.1))]
    unfold decVal
    rw [hd]
    exact outDecode_len A n c w h54
end Go.Proofs.Ytgdlombjhbfbiaa
