/-
  Walks: law 06's FreshOrder, where all fits.
-/
import Derived.Test.YtgdlombjhbfbiaaWo
import Derived.Test.YtgdlombjhbfbiaaEq
namespace Go.Proofs.Ytgdlombjhbfbiaa
set_option linter.unusedVariables false
set_option linter.unusedSimpArgs false
open Go.RowKit

/-- How memory stands between two slots: the track T in block t, the frame F in its box. -/
structure Fo (w0 : World) (t : Nat) (T : Trk) (F : Fr) (wx : World) : Prop where
  ext : Ext w0 wx
  trk : Bk wx t 144 T.cells
  box : Bk wx w0.heap.size 25 F.cells
  ne : w0.heap.size < t
theorem Fo.next {w0 wx w' : World} {t : Nat} {T T' : Trk} {F : Fr} (h : Fo w0 t T F wx) (k : Keep (fun i => i = t) wx w') (hT : Bk w' t 144 T'.cells) : Fo w0 t T' F w' :=
  ⟨Below.trans h.ext (k.below h.ext.size (fun i hi e => by have := h.ne; omega)), hT, h.box.kept k (fun e => by have := h.ne; omega), h.ne⟩
theorem Fo.more {w0 wx w' : World} {t : Nat} {T : Trk} {F : Fr} (h : Fo w0 t T F wx) (k : Ext wx w') : Fo w0 t T F w' :=
  ⟨h.ext.trans k, h.trk.old k, h.box.old k, h.ne⟩

theorem Fr.right_next {G : Fr} (h : G.right = true) : ({ G with seq := Sp.next G.seq } : Fr).right = true := by
  unfold Fr.right at *
  simp only [Bool.and_eq_true] at *
  exact ⟨next_seq _, h.2⟩
theorem is32_wf {n : Int} (h : Sp.is32 n = true) : (Lit.int .i64 n).wf = true := by
  simp [Sp.is32] at h
  exact wf_i64 (by omega)
theorem isSeq_wf {n : Int} (h : Sp.isSeq n = true) : (Lit.int .i64 n).wf = true := by
  simp [Sp.isSeq] at h
  exact wf_i64 (by omega)
theorem Fr.kinds {f : Fr} (h : f.right = true) : Kinds (List.replicate 9 (.i .i64)) f.cells.toList :=
  Kinds.ints (l := f.seq :: f.vals) (fun n hn => by
    rcases List.mem_cons.1 hn with rfl | hn
    · exact isSeq_wf (Fr.right_seq h)
    · exact is32_wf (Fr.right_vals h n hn))
theorem fr_neq_self (f : Fr) (h : f.right = true) (W : World) : (binOp .neq 25 (.agg f.cells) (.agg f.cells)).run Try.prog W = .ok (.bool false) W :=
  plain_neq (m := 5) (d := 5) (by kernel_rfl) (by omega) (by kernel_rfl) _ Try.underlying25 rfl (Fr.kinds h) (Fr.kinds h) W true (by simp)
/-- The sum of the first ones. -/
def psum : List Int → Nat → Int
  | _, 0 => 0
  | [], _ + 1 => 0
  | x :: l, n + 1 => x + psum l n
theorem psum_succ : ∀ {l : List Int} {j : Nat} {x : Int}, l[j]? = some x → psum l (j + 1) = psum l j + x
  | [], _, _, h => by simp at h
  | y :: l, 0, x, h => by simp at h; subst h; simp [psum]
  | y :: l, j + 1, x, h => by
    have := psum_succ (l := l) (j := j) (x := x) (by simpa using h)
    simp only [psum] at this ⊢
    omega
theorem psum_bound : ∀ {l : List Int} (j : Nat), (∀ x ∈ l, 0 ≤ x ∧ x < 1000000) → 0 ≤ psum l j ∧ psum l j ≤ 1000000 * j
  | _, 0, _ => by simp [psum]
  | [], j + 1, _ => by simp [psum]; omega
  | y :: l, j + 1, h => by
    have h1 := psum_bound (l := l) j (fun x hx => h x (List.mem_cons_of_mem _ hx))
    have h2 := h y List.mem_cons_self
    simp only [psum]
    omega
theorem fr_guard : Try.prog.eqGuardType Try.prog.depth 25 = false := by kernel_rfl

set_option maxRecDepth 100000 in
set_option maxHeartbeats 8000000 in
theorem fo_yes (A : Option Addr) (c : Nat) (ss : List SlotV) (f : Fr) (n : Int) (w : World) (h : RdW w A (slotCells ss)) (hok : SlotsOk w ss) (hc : ss.length ≤ c) (hcm : c ≤ maxLen) (hn0 : 0 ≤ n) (hn1 : n ≤ 255)
    (hyes : f.right = true) (hfit : fits ss = true) :
    Calls Try.prog 3 #[.slice A ss.length c, .agg f.cells, .int .u8 n] w fun e w' => e = .returned (.bool true) ∧ Ext w w' := by
  have hen : ∀ W, Calls Try.prog 14 #[.int .i64 2, .agg f.cells] W fun e w' => ∃ v, e = .returned (.tuple #[v, .int .i64 0]) ∧ Ext W w' ∧ w'.ownsRow W.heap.size 5 1 v 38 (bs (encode 2 f)) := fun W => frEncode_yes 2 f W (by decide) (by decide) hyes
  have hfi := fits_calls A c ss (w.alloc (.cells f.cells 25)) (h.alloc _)
  unfold Fr.cells at hen hfi ⊢
  rw [hfit] at hfi
  have HEN := Lib.hid hen
  have HFI := Lib.hid hfi
  have HF := Lib.hid hfit
  have HY := Lib.hid hyes
  have HOK := Lib.hid hok
  have HR : Hid (RdW w A (slotCells ss)) := h
  clear h hen hyes hfi hfit hok
  go_enter Try.func3, Try.ntmps3
  go_upto_region 8 with (first
    | (go_at_call 13; refine HFI.out.mono ?_; rintro e w1 ⟨rfl, rfl⟩)
    | (go_at_call 14; refine (HEN.out _).mono ?_; rintro e w2 ⟨v2, rfl, hE2, ho2⟩; obtain ⟨gb, cb, rfl, hgb, hlb, hcb, hmb⟩ := own_slice_pos ho2 (by decide); have hrb : Hid (RdW w2 (some ⟨gb, 0, none⟩) (bs (encode 2 f))) := RdW.own ho2; clear ho2)
    | (go_at_call 16; refine (new_calls 2 _ (by decide) (by decide)).mono ?_; rintro e w3 ⟨rfl, rfl⟩))
  have hne : w.heap.size < w2.heap.size := by have := hE2.size; simp at this; omega
  have hS : Hid (Fo w w2.heap.size (Trk.new 2) f (w2.alloc (.cells (Trk.new 2).cells 144))) :=
    ⟨(((Ext.refl w).alloc _).trans hE2).alloc _, Bk.new _ _ _, ((Bk.new w 25 f.cells).old hE2).alloc _, hne⟩
  have hrb' : Hid (RdW (w2.alloc (.cells (Trk.new 2).cells 144)) (some ⟨gb, 0, none⟩) (bs (encode 2 f))) := hrb.out.alloc _
  have hgt : gb ≠ w2.heap.size := by omega
  clear hE2 hgb hlb hrb hne
  generalize w2.alloc (.cells (Trk.new 2).cells 144) = w3 at *
  generalize w2.heap.size = t at *
  go_wp2_with fail
  go_loopw [12] (fun s12 wx => ∃ k : Nat, k ≤ ss.length ∧ s12 = .int .i64 k ∧ Hid (Fo w t ((Trk.new 2).run (ss.take k)) f wx) ∧ Hid (RdW wx (some ⟨gb, 0, none⟩) (bs (encode 2 f)))) (fun s12 _ => ss.length - (intOf s12).toNat)
  case atStart => exact ⟨0, Nat.zero_le _, rfl, hS, hrb'⟩
  case round =>
    obtain ⟨k, hk, rfl, hFo, hrow⟩ := hrel
    by_cases hlt : k < ss.length
    · obtain ⟨s, hs⟩ : ∃ s, ss[k]? = some s := ⟨_, List.getElem?_eq_getElem hlt⟩
      obtain ⟨e1, e2⟩ := slotCells_at ss k s hs
      obtain ⟨b, off, rfl, _, hcx⟩ := (RdW.ext HR.out hFo.out.ext).at_ e1
      have hcy := (RdW.ext HR.out hFo.out.ext).cell (k * 2 + 1) e2
      rw [← Nat.add_assoc] at hcy
      have hmem := List.mem_of_getElem? hs
      have hT : Hid (Ran ((Trk.new 2).run (ss.take k)) k) := by
        have := Ran.run (ss.take k) Ran.new (fun x hx => (HOK.out x (List.mem_of_mem_take hx)).1)
        rw [List.length_take, Nat.min_eq_left hk, Nat.zero_add] at this
        exact this
      have h60 : ss.length ≤ 60 := by have := HF.out; unfold fits at this; simp at this; exact this.1
      obtain ⟨o1, o2, o3, o4⟩ := HOK.out s hmem
      have HT := Lib.hid (Take_calls ((Trk.new 2).run (ss.take k)) t s.is s.A s.l.length s.c s.l wr o1 (o2.ext hFo.out.ext) rfl o3 o4 hFo.out.trk hT.out.seq (hT.out.small (by omega)))
      have HN := Lib.hid (run_next (Trk.new 2) ss k s hs)
      clear hs e1 e2 hmem o1 o2 o3 o4 hT
      go_wp2_with (go_at_call 17; refine HT.out.mono ?_; rintro e w4 ⟨rfl, hk4, hb4⟩)
      go_roundw
      case rel =>
        refine ⟨k + 1, by omega, by go_num, ?_, RdW.keep hrow.out hk4 hgt⟩
        rw [HN.out]
        exact hFo.out.next hk4 hb4
      case measure => simp [intOf]; omega
    · obtain rfl : k = ss.length := by omega
      rw [List.take_of_length_le (Nat.le_refl _)] at hFo
      have hT : Hid (Ran ((Trk.new 2).run ss) ss.length) := by
        have := Ran.run ss Ran.new (fun x hx => (HOK.out x hx).1)
        rwa [Nat.zero_add] at this
      have h60 : ss.length ≤ 60 := by have := HF.out; unfold fits at this; simp at this; exact this.1
      have HT : Hid (∃ (F : Fr) (r : Int) (T1 : Trk), (r = 0 ∨ r = 6) ∧ Ran T1 (ss.length + 1) ∧ T1.begun = true ∧ T1.last = f.seq ∧ Calls Try.prog 17 #[.pointer (some ⟨t, 0, none⟩), .agg #[.bool true, .slice (some ⟨gb, 0, none⟩) 38 cb]] wr fun e w' =>
          e = .returned (.tuple #[.agg #[.int .i64 F.seq, .int .i64 F.v0, .int .i64 F.v1, .int .i64 F.v2, .int .i64 F.v3, .int .i64 F.v4, .int .i64 F.v5, .int .i64 F.v6, .int .i64 F.v7], .int .i64 r]) ∧ Keep (fun i => i = t) wr w' ∧ Bk w' t 144 T1.cells) := by
        have hch := hT.out.ch
        refine ⟨_, _, _, ?_, ?_, ?_, ?_, Take_enc ((Trk.new 2).run ss) t f (some ⟨gb, 0, none⟩) cb wr HY.out (by rw [hch]; decide) (by rw [hch]; decide) (by rw [hch]; exact hrow.out) hcb hmb hFo.out.trk hT.out.seq (hT.out.small (by omega))⟩
        · split
          · exact Or.inl rfl
          · exact Or.inr rfl
        · exact (hT.out.seen f (Fr.right_seq HY.out)).bump _
        · rw [(Trk.bump_same _ _).2.2]; rfl
        · rw [(Trk.bump_same _ _).2.1]; rfl
      obtain ⟨F, r, T1, hr, hR1, hb1, hl1, hcall⟩ := HT.out
      have HC := Lib.hid hcall
      have HR1 := Lib.hid hR1
      have HB1 := Lib.hid hb1
      have HL1 := Lib.hid hl1
      clear HT hcall hR1 hb1 hl1 hT
      rcases hr with rfl | rfl
      all_goals (
        go_upto_region 16 with (go_at_call 17; refine HC.out.mono ?_; rintro e w4 ⟨rfl, hk4, hb4⟩)
        have HF4 : Hid (Fo w t T1 f (w4.alloc (.cells F.cells 25))) := (hFo.out.next hk4 hb4).more ((Ext.refl _).alloc _)
        have hcast : ((ss.length : Int) + 1) = ((ss.length + 1 : Nat) : Int) := by omega
        rw [hcast]
        have hm0 : ss.length + 1 ≤ 61 := by omega
        generalize (ss.length + 1) = m0 at *
        clear hFo hrow hk4 hb4 hcast HEN HFI
        go_wp2_with fail
        go_loopw [15, 16] (fun s15 s16 wx => ∃ (k m : Nat) (G : Fr) (T : Trk), k ≤ 40 ∧ s16 = .int .i64 k ∧ s15 = .int .i64 m ∧ m ≤ 61 + 2 * k ∧ T.begun = true ∧ T.last = G.seq ∧ G.right = true ∧ Hid (Ran T m) ∧ Hid (Fo w t T G wx)) (fun _ s16 _ => 40 - (intOf s16).toNat)
        case atStart => exact ⟨0, m0, f, T1, Nat.zero_le _, rfl, rfl, by omega, HB1.out, HL1.out, HY.out, HR1, HF4⟩
        case round =>
          obtain ⟨k, m, G, T, hk, rfl, rfl, hm, hbg, hls, hgr, hR, hFo⟩ := hrel
          obtain ⟨q, hq, hq40⟩ : ∃ q : Nat, n.tmod 40 = (q : Int) ∧ q < 40 := by
            refine ⟨(n.tmod 40).toNat, ?_, ?_⟩
            · rw [Int.tmod_eq_emod_of_nonneg hn0]; omega
            · rw [Int.tmod_eq_emod_of_nonneg hn0]; omega
          by_cases hlt : k < q
          · have HQ := Lib.hid hq40
            have HK := Lib.hid hlt
            have HH := Lib.hid hm
            go_upto_if 87 with fail
            go_cut [15] (fun s15 wx => ∃ (m : Nat) (T : Trk), s15 = .int .i64 m ∧ Hid (m ≤ 61 + 2 * k + 1) ∧ Hid (T.begun = true) ∧ Hid (T.last = G.seq) ∧ Hid (Ran T m) ∧ Hid (Fo w t T G wx))
            case first =>
              have HL := Lib.hid hls
              have HT3 := Lib.hid (Take_none T t wr hFo.out.trk (fun _ => by rw [hls]; exact Fr.right_seq hgr) (hR.out.small (by omega)))
              clear hls hm
              go_wp2_with (go_at_call 17; refine HT3.out.mono ?_; rintro e w5 ⟨rfl, hk5, hb5⟩)
              · go_meet
                case rel =>
                  go_light
                  have hH := HH.out
                  refine ⟨m + 1, T.bump 1, by rw [IntWalk.wrap64_in _ (by omega)]; rfl, ?_, ?_, ?_, hR.out.bump 1, hFo.out.next hk5 hb5⟩
                  · have := HH.out
                    show m + 1 ≤ 61 + 2 * k + 1
                    omega
                  · exact ((Trk.bump_same _ _).2.2).trans hbg
                  · exact ((Trk.bump_same _ _).2.1).trans HL.out
              · go_meet
                case rel =>
                  go_light
                  refine ⟨m, T, rfl, ?_, hbg, HL.out, hR, hFo⟩
                  have := HH.out
                  show m ≤ 61 + 2 * k + 1
                  omega
            case rest =>
              obtain ⟨m1, T2, rfl, hm1, hbg1, hls1, hR1, hFo1⟩ := hcut
              have hbox := hFo1.out.box
              obtain ⟨x0, _, _, _, _, _, _, _, _, xz⟩ := Bk.c9 hbox
              clear hbox
              have HNX := Lib.hid (next_calls G.seq wc (Fr.right_seq hgr))
              have HM1 := hm1
              go_upto_region 23 with (go_at_call 18; refine HNX.out.mono ?_; rintro e w6 ⟨rfl, rfl⟩)
              clear x0 xz HNX
              obtain ⟨G', hG'⟩ : ∃ G' : Fr, G' = { G with seq := Sp.next G.seq } := ⟨_, rfl⟩
              have hgr' : G'.right = true := by rw [hG']; exact Fr.right_next hgr
              have hfit' : T2.fits G' = true := fits_next T2 G' hbg1.out (by rw [hG', hls1.out])
              have hFo2 : Hid (Fo w t T2 G' (wc.setCell ⟨w.heap.size, 0, none⟩ (.int .i64 (Sp.next G.seq)))) := by
                have hF1 := hFo1.out
                refine ⟨hF1.ext.setCell (p := ⟨w.heap.size, 0, none⟩) (Nat.le_refl _) _, hF1.trk.far (p := ⟨w.heap.size, 0, none⟩) (by have := hF1.ne; show t ≠ w.heap.size; omega) _, ?_, hF1.ne⟩
                have := hF1.box.set_ 0 (.int .i64 (Sp.next G.seq))
                rw [hG']
                simp only [Fr.cells, List.setIfInBounds_toArray, List.set_cons_zero, List.set_cons_succ] at this ⊢
                exact this
              have hseq' : Sp.next G.seq = G'.seq := by rw [hG']
              rw [hseq']  at hFo2 ⊢
              have HEN2 : Hid (∀ W, Calls Try.prog 14 #[.int .i64 2, .agg #[.int .i64 G'.seq, .int .i64 G'.v0, .int .i64 G'.v1, .int .i64 G'.v2, .int .i64 G'.v3, .int .i64 G'.v4, .int .i64 G'.v5, .int .i64 G'.v6, .int .i64 G'.v7]] W fun e w' => ∃ v, e = .returned (.tuple #[v, .int .i64 0]) ∧ Ext W w' ∧ w'.ownsRow W.heap.size 5 1 v 38 (bs (encode 2 G'))) := fun W => frEncode_yes 2 G' W (by decide) (by decide) hgr'
              clear hG' hseq' hFo1
              generalize wc.setCell ⟨w.heap.size, 0, none⟩ (.int .i64 G'.seq) = w8 at *
              obtain ⟨x0, x1, x2, x3, x4, x5, x6, x7, x8, xz⟩ := Bk.c9 hFo2.out.box
              have HG := Lib.hid hgr'
              have HFT := Lib.hid hfit'
              have HLG := Lib.hid hgr
              clear hgr' hfit' hgr hls
              go_upto_region 24 with (go_at_call 14; refine (HEN2.out _).mono ?_; rintro e w7 ⟨v7, rfl, hE7, ho7⟩; obtain ⟨g7, c7, rfl, hg7, hl7, hc7, hm7⟩ := own_slice_pos ho7 (by decide); have hr7 : Hid (RdW w7 (some ⟨g7, 0, none⟩) (bs (encode 2 G'))) := RdW.own ho7; clear ho7)
              have hFo3 : Hid (Fo w t T2 G' w7) := hFo2.out.more hE7
              have hne7 : g7 ≠ t := by have := hFo2.out.trk.lt; omega
              clear hE7 hFo2 x0 x1 x2 x3 x4 x5 x6 x7 x8 xz hg7 hl7 HEN2
              have HT4 : Hid (Calls Try.prog 17 #[.pointer (some ⟨t, 0, none⟩), .agg #[.bool true, .slice (some ⟨g7, 0, none⟩) 38 c7]] w7 fun e w' =>
                  e = .returned (.tuple #[.agg #[.int .i64 G'.seq, .int .i64 G'.v0, .int .i64 G'.v1, .int .i64 G'.v2, .int .i64 G'.v3, .int .i64 G'.v4, .int .i64 G'.v5, .int .i64 G'.v6, .int .i64 G'.v7], .int .i64 0]) ∧ Keep (fun i => i = t) w7 w' ∧ Bk w' t 144 ((T2.seen G').bump 0).cells) := by
                have hch := hR1.out.ch
                have hmm := HM1.out
                have := Take_enc T2 t G' (some ⟨g7, 0, none⟩) c7 w7 HG.out (by rw [hch]; decide) (by rw [hch]; decide) (by rw [hch]; exact hr7.out) hc7 hm7 hFo3.out.trk hR1.out.seq (hR1.out.small (by omega))
                rw [if_pos HFT.out, if_pos HFT.out, if_pos HFT.out] at this
                exact this
              go_upto_region 25 with (go_at_call 17; refine HT4.out.mono ?_; rintro e w9 ⟨rfl, hk9, hb9⟩)
              have hFo4 : Hid (Fo w t ((T2.seen G').bump 0) G' (w9.alloc (.cells #[.int .i64 G'.seq, .int .i64 G'.v0, .int .i64 G'.v1, .int .i64 G'.v2, .int .i64 G'.v3, .int .i64 G'.v4, .int .i64 G'.v5, .int .i64 G'.v6, .int .i64 G'.v7] 25))) := (hFo3.out.next hk9 hb9).more ((Ext.refl _).alloc _)
              have hbx : Bk (w9.alloc (.cells #[.int .i64 G'.seq, .int .i64 G'.v0, .int .i64 G'.v1, .int .i64 G'.v2, .int .i64 G'.v3, .int .i64 G'.v4, .int .i64 G'.v5, .int .i64 G'.v6, .int .i64 G'.v7] 25)) w9.heap.size 25 #[.int .i64 G'.seq, .int .i64 G'.v0, .int .i64 G'.v1, .int .i64 G'.v2, .int .i64 G'.v3, .int .i64 G'.v4, .int .i64 G'.v5, .int .i64 G'.v6, .int .i64 G'.v7] := Bk.new _ _ _
              clear hk9 hb9 hFo3 hr7 HT4
              generalize w9.alloc (.cells #[.int .i64 G'.seq, .int .i64 G'.v0, .int .i64 G'.v1, .int .i64 G'.v2, .int .i64 G'.v3, .int .i64 G'.v4, .int .i64 G'.v5, .int .i64 G'.v6, .int .i64 G'.v7] 25) = w10 at *
              generalize w9.heap.size = g9 at *
              obtain ⟨x0, x1, x2, x3, x4, x5, x6, x7, x8, xz⟩ := Bk.c9 hFo4.out.box
              obtain ⟨y0, y1, y2, y3, y4, y5, y6, y7, y8, yz⟩ := Bk.c9 hbx
              clear hbx
              have hnq := fr_neq_self G' HG.out
              unfold Fr.cells at hnq
              have hgd := fr_guard
              go_wp2_with fail
              have HK1 := HK.out
              have HQ1 := HQ.out
              have HM2 := HM1.out
              go_roundw
              case rel =>
                refine ⟨k + 1, m1 + 1, G', (T2.seen G').bump 0, by omega, by go_num, by rw [IntWalk.wrap64_in _ (by omega)]; rfl, by omega, ?_, ?_, HG.out, ?_, hFo4⟩
                · exact (Trk.bump_same _ _).2.2
                · exact (Trk.bump_same _ _).2.1
                · exact (Ran.seen hR1.out G' (Fr.right_seq HG.out)).bump 0
              case measure => simp [intOf]; omega
          · have HC := Lib.hid (counts_calls T t wr hFo.out.trk)
            have HBG := Lib.hid hbg
            have HLS := Lib.hid hls
            have hsm : Hid (∀ x ∈ T.counts, 0 ≤ x ∧ x < 1000000) := hR.out.small (by omega)
            obtain ⟨l0, l1, l2, l3, l4, l5, l6, hl⟩ : ∃ l0 l1 l2 l3 l4 l5 l6, T.counts = [l0, l1, l2, l3, l4, l5, l6] := ⟨_, _, _, _, _, _, _, rfl⟩
            have hsum : Hid (l0 + l1 + l2 + l3 + l4 + l5 + l6 = m) := by
              have := hR.out.sum
              unfold Trk.counts at hl
              injection hl with e0 hl; injection hl with e1 hl; injection hl with e2 hl; injection hl with e3 hl; injection hl with e4 hl; injection hl with e5 hl; injection hl with e6 hl
              subst e0 e1 e2 e3 e4 e5 e6
              exact this
            rw [hl] at HC hsm
            simp only [List.map_cons, List.map_nil] at HC
            clear hbg hls hl
            go_upto_region 30 with (go_at_call 19; refine HC.out.mono ?_; rintro e w4 ⟨rfl, hE4⟩)
            have hbc : Hid (Bk (w4.alloc (.cells #[.int .i64 l0, .int .i64 l1, .int .i64 l2, .int .i64 l3, .int .i64 l4, .int .i64 l5, .int .i64 l6] 41)) w4.heap.size 41 #[.int .i64 l0, .int .i64 l1, .int .i64 l2, .int .i64 l3, .int .i64 l4, .int .i64 l5, .int .i64 l6]) := Bk.new _ _ _
            have hFo5 : Hid (Fo w t T G (w4.alloc (.cells #[.int .i64 l0, .int .i64 l1, .int .i64 l2, .int .i64 l3, .int .i64 l4, .int .i64 l5, .int .i64 l6] 41))) := (hFo.out.more hE4).more ((Ext.refl _).alloc _)
            clear hE4 hFo HC
            generalize w4.alloc (.cells #[.int .i64 l0, .int .i64 l1, .int .i64 l2, .int .i64 l3, .int .i64 l4, .int .i64 l5, .int .i64 l6] 41) = w5 at *
            generalize w4.heap.size = gc at *
            have HL : Hid (∀ j x, [l0, l1, l2, l3, l4, l5, l6][j]? = some x → w5.cell? ⟨gc, j, none⟩ = some (.int .i64 x)) := fun j x hx => by
              rw [hbc.out.cell j]
              have : (#[Value.int .i64 l0, .int .i64 l1, .int .i64 l2, .int .i64 l3, .int .i64 l4, .int .i64 l5, .int .i64 l6] : Array Value) = ([l0, l1, l2, l3, l4, l5, l6].map (Value.int .i64)).toArray := rfl
              rw [this, List.getElem?_toArray, List.getElem?_map, hx]; rfl
            have hpa : Hid (psum [l0, l1, l2, l3, l4, l5, l6] 7 = m) := by
              have := hsum.out
              show psum [l0, l1, l2, l3, l4, l5, l6] 7 = m
              simp only [psum]
              omega
            have hln : Hid ([l0, l1, l2, l3, l4, l5, l6].length = 7) := rfl
            clear hbc hsum
            generalize [l0, l1, l2, l3, l4, l5, l6] = L at *
            go_wp2_with fail
            go_loop [21, 23] (fun s21 s23 => ∃ j : Nat, j ≤ 7 ∧ s23 = .int .i64 j ∧ s21 = .int .i64 (psum L j)) (fun _ s23 => 7 - (intOf s23).toNat)
            case atStart => exact ⟨0, by omega, rfl, by simp [psum]⟩
            case round =>
              obtain ⟨j, hj, rfl, rfl⟩ := hrel
              by_cases hj7 : j < 7
              · obtain ⟨x, hx⟩ : ∃ x, L[j]? = some x := ⟨_, List.getElem?_eq_getElem (by rw [hln.out]; exact hj7)⟩
                have hcj := HL.out j x hx
                obtain ⟨p0, p1⟩ := psum_bound j hsm.out
                obtain ⟨q0, q1⟩ := hsm.out x (List.mem_of_getElem? hx)
                have HS := Lib.hid (psum_succ hx)
                clear hx
                obtain ⟨pj, hpj⟩ : ∃ pj, psum L j = pj := ⟨_, rfl⟩
                rw [hpj] at HS p0 p1 ⊢
                clear hpj
                go_wp2_with fail
                go_round
                case rel => exact ⟨j + 1, by omega, by go_num, by rw [HS.out]⟩
                case measure => simp [intOf]; omega
              · obtain rfl : j = 7 := by omega
                rw [hpa.out]
                have HLC : Hid (Calls Try.prog 20 #[.pointer (some ⟨t, 0, none⟩)] w5 fun e w' => e = .returned (.tuple #[.int .i64 G.seq, .bool true]) ∧ ∃ n, w' = w5.drewN n) := by
                  have := last_calls T t w5 hFo5.out.trk
                  rw [HLS.out, HBG.out] at this
                  exact this
                have HB0 : Hid (∀ n, (w5.drewN n).cell? ⟨w.heap.size, 0, none⟩ = some (.int .i64 G.seq)) := fun n => hFo5.out.box.cell 0
                clear hsm HL
                go_wp2_with (first
                  | (go_at_call 20; refine HLC.out.mono ?_; rintro e w6 ⟨rfl, n6, rfl⟩)
                  | (go_at_call 15; refine (alive06_calls _).mono ?_; rintro e w7 ⟨rfl, hE7⟩; have hb0 := Ext.cell hE7 (HB0.out _)))
                go_ret
                exact ⟨by simp, (hFo5.out.ext.drewN _).trans hE7⟩)
end Go.Proofs.Ytgdlombjhbfbiaa
