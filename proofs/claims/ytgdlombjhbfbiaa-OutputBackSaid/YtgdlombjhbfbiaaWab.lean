/-
  Walks: law 19's OutputBack, where the output may be.
-/
import Derived.Test.YtgdlombjhbfbiaaWaa
import Derived.Deep.RegionWith
namespace Go.Proofs.Ytgdlombjhbfbiaa
set_option linter.unusedVariables false
set_option linter.unusedSimpArgs false
open Go.RowKit

set_option maxRecDepth 100000 in
set_option maxHeartbeats 4000000 in
theorem ob_yes (o : Sp.Out) (hw : o.Wf) (hr : o.right = true) (A : Option Addr) (c : Nat) (l : List Int) (x y : Int) (w : World) (hl : Sp.Bytes l) (h : RdW w A (bs l)) (hlen : l.length ≤ 300) (hc : l.length ≤ c) (hcm : c ≤ maxLen)
    (hx0 : 0 ≤ x) (hx1 : x ≤ 255) (hy0 : 0 ≤ y) (hy1 : y ≤ 255) :
    Calls Try.prog 5 #[.agg o.cells, .slice A l.length c, .agg #[.int .u8 x, .int .u8 y]] w fun e w' => e = .returned (.bool true) ∧ Ext w w' := by
  have hs := Out.size hw
  have HEO := Lib.hid (fun W => outEncode_yes o hw W hr)
  have HRO := Lib.hid (fun W => outRight_calls o hw W)
  rw [hr] at HRO
  have hel := Sp.Out.enc_length hw
  have heb := Sp.Out.enc_bytes hw hr
  have HDO : Hid (∀ (A1 : Option Addr) (c1 : Nat) (W : World), RdW W A1 (bs o.enc) → 54 ≤ c1 → c1 ≤ maxLen → Calls Try.prog 25 #[.slice A1 54 c1] W fun e w' => e = .returned (.tuple #[.agg o.cells, .int .i64 0]) ∧ Ext W w') := fun A1 c1 W h1 h2 h3 => by
    have := outDecode_calls A1 54 c1 _ W heb h1 hel h2 h3
    unfold decVal at this
    rw [Sp.outDec_enc hw hr] at this
    exact this
  have HNQ : Hid (∀ W, (binOp .neq 50 (.agg o.cells) (.agg o.cells)).run Try.prog W = .ok (.bool false) W) := fun W => out_neq hw hw (Out.small_of_right hr) (Out.small_of_right hr) W true (by simp)
  obtain ⟨k, hk, hk54⟩ : ∃ k : Nat, x.tmod 54 = (k : Int) ∧ k < 54 := by
    refine ⟨(x.tmod 54).toNat, ?_, ?_⟩
    · rw [Int.tmod_eq_emod_of_nonneg hx0]; omega
    · rw [Int.tmod_eq_emod_of_nonneg hx0]; omega
  obtain ⟨z, hz⟩ : ∃ z, o.enc[k]? = some z := ⟨_, List.getElem?_eq_getElem (by rw [hel]; exact hk54)⟩
  have hzb := heb z (List.mem_of_getElem? hz)
  unfold Sp.IsByte at hzb
  obtain ⟨y', hy'⟩ : ∃ y', IntKind.u8.wrap (z + y) = y' := ⟨_, rfl⟩
  have hyb : 0 ≤ y' ∧ y' ≤ 255 := by rw [← hy', IntKind.wrap_u8]; omega
  have hyn : y ≠ 0 → y' ≠ z := by rw [← hy', IntKind.wrap_u8]; omega
  obtain ⟨d2, r2, hdv2, hds2, hn2, _⟩ := decVal_form (o.enc.set k y')
  have hr2 : y ≠ 0 → r2 = 3 := fun e => (hn2 (Sp.outDec_changed hw hr hk54 (by rw [hz]; intro e2; injection e2 with e2; exact hyn e e2.symm))).1
  have HD2 : Hid (∀ (A1 : Option Addr) (c1 : Nat) (W : World), RdW W A1 (bs (o.enc.set k y')) → 54 ≤ c1 → c1 ≤ maxLen → Calls Try.prog 25 #[.slice A1 54 c1] W fun e w' => e = .returned (.tuple #[.agg d2.cells, .int .i64 r2]) ∧ Ext W w') := fun A1 c1 W h1 h2 h3 => by
    have := outDecode_calls A1 54 c1 _ W (fun v hv => by
      rcases List.mem_or_eq_of_mem_set hv with hv | rfl
      · exact heb v hv
      · exact hyb) h1 (by rw [List.length_set]; exact hel) h2 h3
    rw [hdv2] at this
    exact this
  have hd21 := Lib.hid (Out.one (o := d2))
  have hd2i : Hid ((Try.prog.info? 50).map (·.size) = some d2.cells.size) := by show _ = _; rw [hds2]; kernel_rfl
  have ho1 := Lib.hid (Out.one (o := o))
  have hoi : Hid ((Try.prog.info? 50).map (·.size) = some o.cells.size) := by show _ = _; rw [hs]; kernel_rfl
  have hO0 : Hid (Ob w o.cells A l x y ((w.alloc (.cells o.cells 50)).alloc (.cells #[.int .u8 x, .int .u8 y] 59))) :=
    ⟨((Ext.refl w).alloc _).alloc _, (Bk.new _ _ _).alloc _, Bk.new_at _ _ _ (by simp), (h.alloc _).alloc _⟩

  have HZI := Lib.hid Out.zero_info
  have HZB := Lib.hid Out.zero_built
  have hzs := Out.size Out.zero_wf
  have hz1 := Lib.hid (Out.one (o := Sp.Out.zero))
  have hzq := out_zero_eql
  obtain ⟨q, r, hdv, hqs, hnone, hsome⟩ := decVal_form l
  have hq1 := Lib.hid (Out.one (o := q))
  have HDV : Hid (∀ W, RdW W A (bs l) → Calls Try.prog 25 #[.slice A l.length c] W fun e w' => e = .returned (.tuple #[.agg q.cells, .int .i64 r]) ∧ Ext W w') := fun W hW => by
    have := outDecode_calls A l.length c l W hl hW rfl hc hcm
    rw [hdv] at this
    exact this
  have hqi : Hid ((Try.prog.info? 50).map (·.size) = some q.cells.size) := by show _ = _; rw [hqs]; kernel_rfl
  have hwh := Lib.hid (whole_ hs)
  have hqwh := Lib.hid (whole_ hqs)
  have hgd := out_guard
  have hlo : Hid (0 + o.cells.size ≤ Sp.Out.zero.cells.size) := by show _ ≤ _; omega
  have hld : Hid (0 + d2.cells.size ≤ Sp.Out.zero.cells.size) := by show _ ≤ _; omega
  have hpo : Hid (putAt Sp.Out.zero.cells 0 o.cells = o.cells) := putAt_whole (by omega)
  have HK := Lib.hid hk
  have HZ := Lib.hid hz
  have HY := Lib.hid hy'
  have HEL := Lib.hid hel
  have HR2 := Lib.hid hr2
  have HZQ := Lib.hid hzq
  clear hw hr h heb hdv2 hn2 hk hz hy' hyn hr2 hel hzq hyb
  obtain ⟨eb, heb⟩ : ∃ eb, o.enc = eb := ⟨_, rfl⟩
  rw [heb] at HEO HDO HD2 HZ HEL
  clear heb
  obtain ⟨oc, hoc⟩ : ∃ oc, o.cells = oc := ⟨_, rfl⟩
  rw [hoc] at HEO HRO HDO HNQ hO0 hs hwh ho1 hoi hlo hpo ⊢
  clear hoc
  obtain ⟨dc, hdc⟩ : ∃ dc, d2.cells = dc := ⟨_, rfl⟩
  rw [hdc] at HD2 hds2 hd21 hd2i hld
  clear hdc
  go_enter Try.func5, Try.ntmps5
  go_upto_region 6 with (first
    | (refine wpList_get rfl 50 _ rfl w.heap.size 0 41 rfl 50 oc oc hO0.out.out hwh.out hs _ Try.underlying50 rfl (by kernel_rfl) ?_)
    | (go_at_call 22; refine (HEO.out _).mono ?_; rintro e w2 ⟨v2, rfl, hE2, ho2⟩; obtain ⟨g2, c2, rfl, _, _, hc2, hm2⟩ := own_slice_pos ho2 (by decide); have HR2' : Hid (RdW w2 (some ⟨g2, 0, none⟩) (bs eb)) := RdW.own ho2; have HO2 := Lib.hid (hO0.out.more hE2); clear hE2 ho2)
    | (refine wpList_get rfl 50 _ rfl w.heap.size 0 41 rfl 50 oc oc HO2.out.out hwh.out hs _ Try.underlying50 rfl (by kernel_rfl) ?_)
    | (go_at_call 27; refine (HRO.out _).mono ?_; rintro e w3 ⟨rfl, hE3⟩; have HO3 := Lib.hid (HO2.out.more hE3); have HR3 : Hid (RdW w3 (some ⟨g2, 0, none⟩) (bs eb)) := HR2'.out.ext hE3; clear hE3))
  go_upto_if 34 with fail
  go_cut [] (fun wx => Hid (Ob w oc A l x y wx))
  case first =>
    have hnq := HNQ.out
    generalize Sp.Out.zero.cells = zc at *
    go_upto_region 8 with (first
      | (go_at_call 25; refine (HDO.out _ _ _ HR3.out hc2 hm2).mono ?_; rintro e wd ⟨rfl, hEd⟩; have HOd := Lib.hid (HO3.out.more hEd); have HRd : Hid (RdW wd (some ⟨g2, 0, none⟩) (bs eb)) := HR3.out.ext hEd; clear hEd)
      | (refine wpList_fresh rfl 50 rfl zc HZI.out ?_)
      | (refine wpList_put rfl 50 _ _ rfl wd.heap.size 0 oc rfl rfl 50 zc (Bk.new _ _ _) hoi.out hlo.out ho1.out ?_; intro we hpe hBe; rw [hpo.out] at hBe; have HBe : Hid (Bk we wd.heap.size 50 oc) := hBe; have hEe : Ext wd we := hpe.ext (Nat.le_refl _) ((Ext.refl wd).alloc _); have HOe := Lib.hid (HOd.out.more hEe); have HRe : Hid (RdW we (some ⟨g2, 0, none⟩) (bs eb)) := HRd.out.ext hEe; clear hpe hBe hEe))
    generalize wd.heap.size = gp at *
    go_upto_region 11 with (first
      | (refine wpList_get_g rfl 50 _ rfl gp 0 41 rfl 50 oc oc HBe.out hwh.out hs _ Try.underlying50 rfl (by kernel_rfl) ?_)
      | (refine wpList_get_g rfl 50 _ rfl w.heap.size 0 41 rfl 50 oc oc HOe.out.out hwh.out hs _ Try.underlying50 rfl (by kernel_rfl) ?_)
      | (at_builtin; refine wpList_app elemU8 rfl _ _ rfl we.heap.size (.slice (some ⟨we.heap.size, 0, none⟩) 0 0) 0 [] rfl (own_lit we 5 1 0 #[] (Nat.zero_le _) rfl) (we.heap.size + 1) (some ⟨g2, 0, none⟩) 54 c2 (bs eb) rfl (by rw [bs_length, HEL.out]) (Rd.more (HRe.out.alloc _) (by simp)) (bs_one _) (by unfold maxLen; omega) (by omega) (by simp) ?_; intro v6 w6 ho6 hg6))
    obtain ⟨g6, c6, rfl, hg6b, hg6l, hc6, hm6⟩ := own_slice_pos ho6 (by omega)
    have hx6 : Ext we w6 := ((Ext.refl we).alloc _).grown hg6 (fun q hq => by simp [Value.ownBlock] at hq; omega)
    have HO6 := Lib.hid (HOe.out.more hx6)
    have hR6 : RdW w6 (some ⟨g6, 0, none⟩) (bs eb) := by have := RdW.own ho6; simpa using this
    have HR6 : Hid (RdW w6 (some ⟨g6, 0, none⟩) (bs eb)) := hR6
    have ck : w6.cell? ⟨g6, k, none⟩ = some (.int .u8 z) := by
      have := hR6.cell k (v := .int .u8 z) (by unfold bs; rw [List.getElem?_map, HZ.out]; rfl)
      rwa [Nat.zero_add] at this
    have fk : w6.frozen? ⟨g6, k, none⟩ = false := own_frozen ho6 k
    obtain ⟨cx0, cx1, _⟩ := Bk.c2 HO6.out.chg
    have hxw : IntKind.i64.wrap x = x := IntWalk.i64_in x (by omega)
    have hkm := HK.out
    have hkm2 : x % 54 = (k : Int) := by rw [← hkm, Int.tmod_eq_emod_of_nonneg hx0]
    have hyw := HY.out
    have hk0 : (0 : Int) ≤ (k : Int) := by omega
    have hk5 : (k : Int) < 54 := by omega
    have HX6 : Hid (w.heap.size ≤ we.heap.size) := HOe.out.ext.size
    have HG6 : Hid (we.heap.size ≤ g6) := hg6b
    have HEX := Lib.hid hx6
    clear ho6 hg6 hx6 hR6 hg6b
    go_cut [] (fun wx => Hid (Ob w oc A l x y wx) ∧ Hid (RdW wx (some ⟨g6, 0, none⟩) (bs (eb.set k y'))))
    case first =>
      have hex : Ob w oc A l x y ((w6.setCell ⟨g6, k, none⟩ (.int .u8 y')).drew) := HOe.out.more ((HEX.out.setCell (p := ⟨g6, k, none⟩) HG6.out _).drew)
      have hrr : RdW ((w6.setCell ⟨g6, k, none⟩ (.int .u8 y')).drew) (some ⟨g6, 0, none⟩) (bs (eb.set k y')) := HR6.out.set_ k (by rw [HEL.out]; omega) y'
      have hexR : Hid (Ob w oc A l x y ((w6.setCell ⟨g6, k, none⟩ (.int .u8 y')).drew)) := hex
      have hrrR : Hid (RdW ((w6.setCell ⟨g6, k, none⟩ (.int .u8 y')).drew) (some ⟨g6, 0, none⟩) (bs (eb.set k y'))) := hrr
      clear hex hrr
      go_region_with (fail)
      all_goals go_wp2_with fail
      all_goals go_meet
      all_goals go_light
      all_goals exact ⟨hexR, hrrR⟩
    case rest =>
      obtain ⟨HO7, HR7⟩ := hcut
      have hchg := HO7.out.chg
      obtain ⟨cy0, cy1, _⟩ := Bk.c2 HO7.out.chg
      have hr3 := HR2.out
      by_cases hy00 : y = 0
      · have hyb0 : (y != 0) = false := by simp [hy00]
        clear hr3 hy00
        go_wp2_with (first
          | (go_at_call 25; refine (HD2.out _ _ _ HR7.out hc6 hm6).mono ?_; rintro e wm ⟨rfl, hEm⟩; have HO8 := Lib.hid (HO7.out.more hEm); obtain ⟨cm0, cm1, _⟩ := Bk.c2 HO8.out.chg; clear hEm)
          | (refine wpList_fresh rfl 50 rfl zc HZI.out ?_)
          | (refine wpList_put rfl 50 _ _ rfl wm.heap.size 0 dc rfl rfl 50 zc (Bk.new _ _ _) hd2i.out hld.out hd21.out ?_; intro wn hpn hBn; have HO9 := Lib.hid (HO8.out.more (hpn.ext (Nat.le_refl _) ((Ext.refl wm).alloc _))); obtain ⟨cn0, cn1, _⟩ := Bk.c2 HO9.out.chg; clear hpn hBn))
        go_meet
        case rel =>
          go_light
          exact HO9
      · have hyb0 : (y != 0) = true := by simp [hy00]
        have hr33 := hr3 hy00
        subst hr33
        go_wp2_with (first
          | (go_at_call 25; refine (HD2.out _ _ _ HR7.out hc6 hm6).mono ?_; rintro e wm ⟨rfl, hEm⟩; have HO8 := Lib.hid (HO7.out.more hEm); obtain ⟨cm0, cm1, _⟩ := Bk.c2 HO8.out.chg; clear hEm)
          | (refine wpList_fresh rfl 50 rfl zc HZI.out ?_)
          | (refine wpList_put rfl 50 _ _ rfl wm.heap.size 0 dc rfl rfl 50 zc (Bk.new _ _ _) hd2i.out hld.out hd21.out ?_; intro wn hpn hBn; have HO9 := Lib.hid (HO8.out.more (hpn.ext (Nat.le_refl _) ((Ext.refl wm).alloc _))); obtain ⟨cn0, cn1, _⟩ := Bk.c2 HO9.out.chg; clear hpn hBn))
        go_meet
        case rel =>
          go_light
          exact HO9
  case rest =>
    have HO := hcut
    have hzq := HZQ.out
    clear hcut HO3 HR3 HDO HD2 HEO HRO hO0
    cases hd : Sp.outDec l with
    | none =>
      obtain ⟨rfl, rfl⟩ := hnone hd
      have HZQ := Lib.hid hzq
      clear hnone hsome hd hdv hzq
      generalize Sp.Out.zero.cells = zc at *
      have hpz : Hid (putAt zc 0 zc = zc) := putAt_whole rfl
      have hlz : Hid (0 + zc.size ≤ zc.size) := by show _ ≤ _; omega
      have hzq := HZQ.out
      go_wp2_with (first
        | (go_at_call 25; refine (HDV.out _ HO.out.row).mono ?_; rintro e wd ⟨rfl, hEd⟩; have HOd := Lib.hid (HO.out.more hEd); clear hEd)
        | (refine wpList_fresh rfl 50 rfl zc HZI.out ?_)
        | (refine wpList_put rfl 50 _ _ rfl wd.heap.size 0 zc rfl rfl 50 zc (Bk.new _ _ _) hqi.out hlz.out hz1.out ?_; intro we hpe hBe; rw [hpz.out] at hBe; have HBe : Hid (Bk we wd.heap.size 50 zc) := hBe; have HOe := Lib.hid (HOd.out.more (hpe.ext (Nat.le_refl _) ((Ext.refl wd).alloc _))); clear hpe hBe)
        | (go_at_call 21; refine (alive19_calls _).mono ?_; rintro e wf ⟨rfl, hEf⟩; have HBf : Hid (Bk wf wd.heap.size 50 zc) := HBe.out.ext hEf; have HEf : Hid (Ext w wf) := HOe.out.ext.trans hEf; clear hEf)
        | (refine wpList_get rfl 50 _ rfl wd.heap.size 0 41 rfl 50 zc zc HBf.out hqwh.out hzs _ Try.underlying50 rfl (by kernel_rfl) ?_)
        | (refine wpList_get_g rfl 50 _ rfl wd.heap.size 0 41 rfl 50 zc zc HBf.out hqwh.out hzs _ Try.underlying50 rfl (by kernel_rfl) ?_)
        | (refine wpList_zero rfl 50 rfl zc HZB.out ?_)
        | (refine wpList_zero_g rfl 50 rfl zc HZB.out ?_))
      go_ret
      exact ⟨rfl, HEf.out⟩
    | some p =>
      obtain ⟨rfl, rfl, hpw, hpr, hpe⟩ := hsome p hd
      have HEN := Lib.hid (fun W => outEncode_yes q hpw W hpr)
      rw [hpe] at HEN
      have HSM : Hid (∀ (A1 : Option Addr) (c1 : Nat) (W : World), RdW W A1 (bs l) → RdW W A (bs l) → Calls Try.prog 24 #[.slice A1 54 c1, .slice A l.length c] W fun e w' => e = .returned (.bool true) ∧ ∃ n, w' = W.drewN n) := fun A1 c1 W h1 h2 => by
        have hl54 : l.length = 54 := by rw [← hpe]; exact Sp.Out.enc_length hpw
        have := same3_calls A1 A c1 c l l W h1 h2 (by omega) (by omega)
        rw [decide_eq_true rfl] at this
        rw [hl54] at this ⊢
        exact this
      clear hnone hsome hd hdv hpw hpr hpe hzq
      generalize hqc : q.cells = qc at *
      clear hqc
      generalize Sp.Out.zero.cells = zc at *
      have hpz : Hid (putAt zc 0 qc = qc) := putAt_whole (by omega)
      have hlz : Hid (0 + qc.size ≤ zc.size) := by show _ ≤ _; omega
      go_wp2_with (first
        | (go_at_call 25; refine (HDV.out _ HO.out.row).mono ?_; rintro e wd ⟨rfl, hEd⟩; have HOd := Lib.hid (HO.out.more hEd); clear hEd)
        | (refine wpList_fresh rfl 50 rfl zc HZI.out ?_)
        | (refine wpList_put rfl 50 _ _ rfl wd.heap.size 0 qc rfl rfl 50 zc (Bk.new _ _ _) hqi.out hlz.out hq1.out ?_; intro we hpe hBe; rw [hpz.out] at hBe; have HBe : Hid (Bk we wd.heap.size 50 qc) := hBe; have HOe := Lib.hid (HOd.out.more (hpe.ext (Nat.le_refl _) ((Ext.refl wd).alloc _))); clear hpe hBe)
        | (refine wpList_get rfl 50 _ rfl wd.heap.size 0 41 rfl 50 qc qc HBe.out hqwh.out hqs _ Try.underlying50 rfl (by kernel_rfl) ?_)
        | (go_at_call 22; refine (HEN.out _).mono ?_; rintro e wg ⟨vg, rfl, hEg, hog⟩; obtain ⟨gg, cg, rfl, _, _, _, _⟩ := own_slice_pos hog (by decide); have HRg : Hid (RdW wg (some ⟨gg, 0, none⟩) (bs l)) := RdW.own hog; have HOg := Lib.hid (HOe.out.more hEg); clear hEg hog)
        | (go_at_call 24; refine (HSM.out _ _ _ HRg.out HOg.out.row).mono ?_; rintro e wh ⟨rfl, nh, rfl⟩)
        | (go_at_call 21; refine (alive19_calls _).mono ?_; rintro e wf ⟨rfl, hEf⟩; have HEf : Hid (Ext w wf) := (HOg.out.ext.drewN nh).trans hEf; clear hEf))
      go_ret
      exact ⟨rfl, HEf.out⟩
end Go.Proofs.Ytgdlombjhbfbiaa
