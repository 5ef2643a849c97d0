/-
  Walks: law 19's OutputBack.
-/
import Derived.Test.YtgdlombjhbfbiaaWz
import Derived.Deep.RegionWith
import Derived.Test.YtgdlombjhbfbiaaRowC
namespace Go.Proofs.Ytgdlombjhbfbiaa
set_option linter.unusedVariables false
set_option linter.unusedSimpArgs false
open Go.RowKit

theorem RdW.set_ {w : World} {g : Nat} {l : List Int} (h : RdW w (some ⟨g, 0, none⟩) (bs l)) (k : Nat) (hk : k < l.length) (y : Int) : RdW (w.setCell ⟨g, k, none⟩ (.int .u8 y)) (some ⟨g, 0, none⟩) (bs (l.set k y)) := fun hn => by
  have hne : bs l ≠ [] := by intro e; have := bs_eq_nil e; subst this; simp at hk
  obtain ⟨b, off, e, hb, hc⟩ := h hne
  cases e
  refine ⟨g, 0, rfl, by rw [World.size_setCell]; exact hb, fun j u hu => ?_⟩
  rw [Nat.zero_add]
  unfold bs at hu
  rw [List.getElem?_map, List.getElem?_set] at hu
  obtain ⟨v, hv⟩ : ∃ v, l[k]? = some v := ⟨_, List.getElem?_eq_getElem hk⟩
  have hck := hc k (.int .u8 v) (by unfold bs; rw [List.getElem?_map, hv]; rfl)
  rw [Nat.zero_add] at hck
  by_cases hj : k = j
  · subst hj
    rw [if_pos rfl, if_pos hk] at hu
    simp at hu
    subst hu
    exact World.cell?_setCell_same _ _ _ hck
  · rw [if_neg hj] at hu
    have := hc j u (by unfold bs; rw [List.getElem?_map]; exact hu)
    rw [Nat.zero_add] at this
    rw [World.cell?_setCell_other _ _ _ _ (by simp [hj])]
    exact this
theorem own_frozen {w : World} {base : Nat} {e : TypeId} {size n g c : Nat} {xs : List Value} (h : w.ownsRow base e size (.slice (some ⟨g, 0, none⟩) n c) n xs) (i : Nat) : w.frozen? ⟨g, i, none⟩ = false := by
  rcases h.2 with ⟨hv, _⟩ | ⟨g', cap, cur, hv, _, hh, _⟩
  · cases hv
  · cases hv
    exact frozen_of_row w g i cur e hh
/-- What bytes tell: an output, or the empty one and the error. -/
theorem decVal_form (l : List Int) : ∃ (d : Sp.Out) (r : Int), decVal l = .tuple #[.agg d.cells, .int .i64 r] ∧ d.cells.size = 41 ∧ (Sp.outDec l = none → r = 3 ∧ d = Sp.Out.zero) ∧ (∀ p, Sp.outDec l = some p → r = 0 ∧ d = p ∧ p.Wf ∧ p.right = true ∧ p.enc = l) := by
  cases h : Sp.outDec l with
  | none => exact ⟨Sp.Out.zero, 3, by unfold decVal; rw [h]; rfl, Out.size Out.zero_wf, fun _ => ⟨rfl, rfl⟩, fun p hp => by cases hp⟩
  | some p =>
    obtain ⟨h1, h2, h3⟩ := Sp.outDec_some h
    have hwf : p.Wf := by
      unfold Sp.outDec at h
      split at h
      · rename_i hc
        injection h with h
        rw [← h]
        exact Sp.outOf_wf hc.1
      · cases h
    exact ⟨p, 0, by unfold decVal; rw [h]; rfl, Out.size hwf, (fun e => by cases e), (fun q hq => by cases hq; exact ⟨rfl, rfl, hwf, h1, h2⟩)⟩
theorem out_zero_eql (W : World) : (binOp .eql 50 (.agg Sp.Out.zero.cells) (.agg Sp.Out.zero.cells)).run Try.prog W = .ok (.bool true) W :=
  out_eql Out.zero_wf Out.zero_wf Out.small_zero Out.small_zero W true (by simp)

theorem ob_long (oc : Array Value) (A : Option Addr) (n c : Nat) (x y : Int) (w : World) (h : 300 < n) :
    Calls Try.prog 5 #[.agg oc, .slice A n c, .agg #[.int .u8 x, .int .u8 y]] w fun e w' => e = .returned (.bool true) ∧ Ext w w' := by
  have hn : (300 : Int) < (n : Int) := by omega
  go_enter Try.func5, Try.ntmps5
  go_wp2_with (go_at_call 21; refine (alive19_calls _).mono ?_; rintro e w1 ⟨rfl, hE1⟩)
  go_ret
  exact ⟨rfl, (((Ext.refl w).alloc _).alloc _).trans hE1⟩

/-- How memory stands: the output in block n, the change in block n + 1, the bytes that came in. -/
structure Ob (w0 : World) (oc : Array Value) (A : Option Addr) (l : List Int) (x y : Int) (wx : World) : Prop where
  ext : Ext w0 wx
  out : Bk wx w0.heap.size 50 oc
  chg : Bk wx (w0.heap.size + 1) 59 #[.int .u8 x, .int .u8 y]
  row : RdW wx A (bs l)
theorem Ob.more {w0 wx w' : World} {oc : Array Value} {A : Option Addr} {l : List Int} {x y : Int} (h : Ob w0 oc A l x y wx) (k : Ext wx w') : Ob w0 oc A l x y w' :=
  ⟨h.ext.trans k, h.out.ext k, h.chg.ext k, h.row.ext k⟩
theorem Ob.put {w0 wx w' : World} {oc : Array Value} {A : Option Addr} {l : List Int} {x y : Int} {g : Nat} (h : Ob w0 oc A l x y wx) (p : Put g wx w') (hg : w0.heap.size + 1 < g) (hr : ∀ b o, A = some ⟨b, o, none⟩ → l ≠ [] → b ≠ g) : Ob w0 oc A l x y w' := by
  refine ⟨p.ext (by omega) h.ext, p.bk h.out (by omega), p.bk h.chg (by omega), fun hx => ?_⟩
  obtain ⟨b, o, rfl, hb, hc⟩ := h.row hx
  exact p.rd h.row (hr b o rfl (fun e => hx (by rw [e]; rfl))) hx

set_option maxRecDepth 100000 in
set_option maxHeartbeats 4000000 in
theorem ob_no (o : Sp.Out) (hw : o.Wf) (hr : o.right = false) (A : Option Addr) (c : Nat) (l : List Int) (x y : Int) (w : World) (hl : Sp.Bytes l) (h : RdW w A (bs l)) (hlen : l.length ≤ 300) (hc : l.length ≤ c) (hcm : c ≤ maxLen) :
    Calls Try.prog 5 #[.agg o.cells, .slice A l.length c, .agg #[.int .u8 x, .int .u8 y]] w fun e w' => e = .returned (.bool true) ∧ Ext w w' := by
  have hs := Out.size hw
  have HEO := Lib.hid (fun W => outEncode_no o hw W hr)
  have HRO := Lib.hid (fun W => outRight_calls o hw W)
  rw [hr] at HRO
  have hO0 : Hid (Ob w o.cells A l x y ((w.alloc (.cells o.cells 50)).alloc (.cells #[.int .u8 x, .int .u8 y] 59))) :=
    ⟨((Ext.refl w).alloc _).alloc _, (Bk.new _ _ _).alloc _, Bk.new_at _ _ _ (by simp), (h.alloc _).alloc _⟩

  have HZI := Lib.hid Out.zero_info
  have HZB := Lib.hid Out.zero_built
  have hzs := Out.size Out.zero_wf
  have hz1 := Lib.hid (Out.one (o := Sp.Out.zero))
  have hzq := out_zero_eql
  obtain ⟨q, r, hdv, hqs, hnone, hsome⟩ := decVal_form l
  have hq1 := Lib.hid (Out.one (o := q))
  have HDV : Hid (∀ W, RdW W A (bs l) → Calls Try.prog 25 #[.slice A l.length c] W fun e w' => e = .returned (.tuple #[.agg q.cells, .int .i64 r]) ∧ Ext W w') := fun W hW => by
    have := outDecode_calls A l.length c l W hl hW rfl hc hcm
    rw [hdv] at this
    exact this
  have hqi : Hid ((Try.prog.info? 50).map (·.size) = some q.cells.size) := by show _ = _; rw [hqs]; kernel_rfl
  have hwh := Lib.hid (whole_ hs)
  have hqwh := Lib.hid (whole_ hqs)
  have hgd := out_guard
  generalize o.cells = oc at *
  clear hw hr h
  go_enter Try.func5, Try.ntmps5
  go_upto_region 15 with (first
    | (refine wpList_get rfl 50 _ rfl w.heap.size 0 41 rfl 50 oc oc hO0.out.out hwh.out hs _ Try.underlying50 rfl (by kernel_rfl) ?_)
    | (go_at_call 22; refine (HEO.out _).mono ?_; rintro e w2 ⟨rfl, hE2⟩; have HO2 := Lib.hid (hO0.out.more hE2); clear hE2)
    | (refine wpList_get rfl 50 _ rfl w.heap.size 0 41 rfl 50 oc oc HO2.out.out hwh.out hs _ Try.underlying50 rfl (by kernel_rfl) ?_)
    | (go_at_call 27; refine (HRO.out _).mono ?_; rintro e w3 ⟨rfl, hE3⟩; have HO := Lib.hid (HO2.out.more hE3); clear hE3))
  cases hd : Sp.outDec l with
  | none =>
    obtain ⟨rfl, rfl⟩ := hnone hd
    have HZQ := Lib.hid hzq
    clear hnone hsome hd hdv hzq
    generalize Sp.Out.zero.cells = zc at *
    have hpz : Hid (putAt zc 0 zc = zc) := putAt_whole rfl
    have hlz : Hid (0 + zc.size ≤ zc.size) := by show _ ≤ _; omega
    have hzq := HZQ.out
    go_wp2_with (first
      | (go_at_call 25; refine (HDV.out _ HO.out.row).mono ?_; rintro e wd ⟨rfl, hEd⟩; have HOd := Lib.hid (HO.out.more hEd); clear hEd)
      | (refine wpList_fresh rfl 50 rfl zc HZI.out ?_)
      | (refine wpList_put rfl 50 _ _ rfl wd.heap.size 0 zc rfl rfl 50 zc (Bk.new _ _ _) hqi.out hlz.out hz1.out ?_; intro we hpe hBe; rw [hpz.out] at hBe; have HBe : Hid (Bk we wd.heap.size 50 zc) := hBe; have HOe := Lib.hid (HOd.out.more (hpe.ext (Nat.le_refl _) ((Ext.refl wd).alloc _))); clear hpe hBe)
      | (go_at_call 21; refine (alive19_calls _).mono ?_; rintro e wf ⟨rfl, hEf⟩; have HBf : Hid (Bk wf wd.heap.size 50 zc) := HBe.out.ext hEf; have HEf : Hid (Ext w wf) := HOe.out.ext.trans hEf; clear hEf)
      | (refine wpList_get rfl 50 _ rfl wd.heap.size 0 41 rfl 50 zc zc HBf.out hqwh.out hzs _ Try.underlying50 rfl (by kernel_rfl) ?_)
      | (refine wpList_get_g rfl 50 _ rfl wd.heap.size 0 41 rfl 50 zc zc HBf.out hqwh.out hzs _ Try.underlying50 rfl (by kernel_rfl) ?_)
      | (refine wpList_zero rfl 50 rfl zc HZB.out ?_)
      | (refine wpList_zero_g rfl 50 rfl zc HZB.out ?_))
    go_ret
    exact ⟨rfl, HEf.out⟩
  | some p =>
    obtain ⟨rfl, rfl, hpw, hpr, hpe⟩ := hsome p hd
    have HEN := Lib.hid (fun W => outEncode_yes q hpw W hpr)
    rw [hpe] at HEN
    have HSM : Hid (∀ (A1 : Option Addr) (c1 : Nat) (W : World), RdW W A1 (bs l) → RdW W A (bs l) → Calls Try.prog 24 #[.slice A1 54 c1, .slice A l.length c] W fun e w' => e = .returned (.bool true) ∧ ∃ n, w' = W.drewN n) := fun A1 c1 W h1 h2 => by
      have hl54 : l.length = 54 := by rw [← hpe]; exact Sp.Out.enc_length hpw
      have := same3_calls A1 A c1 c l l W h1 h2 (by omega) (by omega)
      rw [decide_eq_true rfl] at this
      rw [hl54] at this ⊢
      exact this
    clear hnone hsome hd hdv hpw hpr hpe hzq
    generalize hqc : q.cells = qc at *
    clear hqc
    generalize Sp.Out.zero.cells = zc at *
    have hpz : Hid (putAt zc 0 qc = qc) := putAt_whole (by omega)
    have hlz : Hid (0 + qc.size ≤ zc.size) := by show _ ≤ _; omega
    go_wp2_with (first
      | (go_at_call 25; refine (HDV.out _ HO.out.row).mono ?_; rintro e wd ⟨rfl, hEd⟩; have HOd := Lib.hid (HO.out.more hEd); clear hEd)
      | (refine wpList_fresh rfl 50 rfl zc HZI.out ?_)
      | (refine wpList_put rfl 50 _ _ rfl wd.heap.size 0 qc rfl rfl 50 zc (Bk.new _ _ _) hqi.out hlz.out hq1.out ?_; intro we hpe hBe; rw [hpz.out] at hBe; have HBe : Hid (Bk we wd.heap.size 50 qc) := hBe; have HOe := Lib.hid (HOd.out.more (hpe.ext (Nat.le_refl _) ((Ext.refl wd).alloc _))); clear hpe hBe)
      | (refine wpList_get rfl 50 _ rfl wd.heap.size 0 41 rfl 50 qc qc HBe.out hqwh.out hqs _ Try.underlying50 rfl (by kernel_rfl) ?_)
      | (go_at_call 22; refine (HEN.out _).mono ?_; rintro e wg ⟨vg, rfl, hEg, hog⟩; obtain ⟨gg, cg, rfl, _, _, _, _⟩ := own_slice_pos hog (by decide); have HRg : Hid (RdW wg (some ⟨gg, 0, none⟩) (bs l)) := RdW.own hog; have HOg := Lib.hid (HOe.out.more hEg); clear hEg hog)
      | (go_at_call 24; refine (HSM.out _ _ _ HRg.out HOg.out.row).mono ?_; rintro e wh ⟨rfl, nh, rfl⟩)
      | (go_at_call 21; refine (alive19_calls _).mono ?_; rintro e wf ⟨rfl, hEf⟩; have HEf : Hid (Ext w wf) := (HOg.out.ext.drewN nh).trans hEf; clear hEf))
    go_ret
    exact ⟨rfl, HEf.out⟩
end Go.Proofs.Ytgdlombjhbfbiaa
