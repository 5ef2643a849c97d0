/-
  Walks: lists of bytes copied, joined, compared; bytes with their sum.
-/
import Derived.Test.YtgdlombjhbfbiaaWc
import Derived.WalkSpells
import Derived.Lib.AppendZeros
import Derived.Deep.QuietTactic
import Derived.BigQuiet
namespace Go.Proofs.Ytgdlombjhbfbiaa
set_option linter.unusedVariables false
set_option linter.unusedSimpArgs false
open Go.RowKit

theorem bs_length (l : List Int) : (bs l).length = l.length := by simp [bs]
theorem bs_one (l : List Int) : ∀ u ∈ bs l, u.oneCell' = true := by
  intro u hu; simp only [bs, List.mem_map] at hu; obtain ⟨n, _, rfl⟩ := hu; rfl
theorem bs_append (a b : List Int) : bs (a ++ b) = bs a ++ bs b := by simp [bs]
theorem bs_eq_nil {l : List Int} (h : bs l = []) : l = [] := by cases l with | nil => rfl | cons _ _ => simp [bs] at h

theorem clone8_calls (A : Option Addr) (c : Nat) (l : List Int) (w : World) (h : Rd w w.heap.size A (bs l)) (hlen : l.length ≤ 1000000) :
    Calls Try.prog 128 #[.slice A l.length c] w (Gives w 5 1 l.length (bs l)) := by
  cases A with
  | none =>
    have hl : l = [] := by
      rcases l with _ | ⟨x, l⟩
      · rfl
      · obtain ⟨b, off, h, _⟩ := h (by simp [bs]); cases h
    subst hl
    have hq : ∀ wx : World, (binOp .eql 27 (.slice none 0 c) (.slice none 0 0)).run Try.prog wx = .ok (.bool true) wx := fun wx => Lib.run_eql_slice_nil (P := Try.prog) wx 27 5 none 0 c 0 0 (by kernel_rfl)
    show Calls _ _ #[.slice none 0 c] _ _
    clear h
    go_enter Try.func128, Try.ntmps128
    go_wp2
    go_ret
    exact ⟨_, rfl, Below.refl _ _, World.ownsRow_nil _ _ _ _⟩
  | some ad =>
    have hq : ∀ wx : World, (binOp .eql 27 (.slice (some ad) l.length c) (.slice none 0 0)).run Try.prog wx = .ok (.bool false) wx := fun wx => Lib.run_eql_slice_nil (P := Try.prog) wx 27 5 (some ad) l.length c 0 0 (by kernel_rfl)
    go_enter Try.func128, Try.ntmps128
    go_wp2_with (at_builtin; refine wpList_app elemU8 rfl _ _ rfl w.heap.size (.slice (some ⟨w.heap.size, 0, none⟩) 0 0) 0 [] rfl (own_lit w 5 1 0 #[] (Nat.zero_le _) rfl) w.heap.size (some ad) l.length c (bs l) rfl (by rw [bs_length, Nat.mul_one]) (h.alloc (Nat.le_refl _) _) (bs_one l) (by unfold maxLen; omega) (by omega) (by simp) ?_; intro v' w1 hown' hgrow; obtain ⟨A', c', rfl, _, _⟩ := own_slice hown')
    go_ret
    rw [Nat.zero_add, List.nil_append] at hown'
    exact ⟨_, rfl, ((Below.refl _ w).alloc (Nat.le_refl _) _).grown hgrow (by simp) (fun g hg => by have := ((own_lit w 5 1 0 #[] (Nat.zero_le _) rfl).lt g hg).1; omega), hown'⟩

theorem crcSum_calls (A : Option Addr) (c : Nat) (l : List Int) (w : World) (hl : Sp.Bytes l) (h : Rd w w.heap.size A (bs l)) (hlen : l.length ≤ maxLen) :
    Calls Try.prog 127 #[.slice A l.length c] w fun e w' => e = .returned (.int .i64 (Sp.crc 65535 l)) ∧ Below w.heap.size w w' := by
  have hm := crcMore_calls A c 65535 l w (by unfold Sp.Is16; omega) hl h hlen
  go_enter Try.func127, Try.ntmps127
  go_wp2_with (go_at_call 163; refine hm.mono ?_; rintro e w' ⟨rfl, hb⟩)
  go_ret
  exact ⟨rfl, hb⟩

theorem crcSeal_calls (A : Option Addr) (c : Nat) (l : List Int) (w : World) (hl : Sp.Bytes l) (h : Rd w w.heap.size A (bs l)) (hlen : l.length ≤ 1000000) :
    Calls Try.prog 63 #[.slice A l.length c] w (Gives w 5 1 (l.length + 2) (bs (Sp.withSum l))) := by
  have hm := crcSum_calls A c l w hl h (by unfold maxLen; omega)
  have h16 := Sp.crc_16 hl (s := 65535) (by unfold Sp.Is16; omega)
  unfold Sp.Is16 at h16
  obtain ⟨s, hs⟩ : ∃ s, Sp.crc 65535 l = s := ⟨_, rfl⟩
  rw [hs] at hm h16
  have HS := Lib.hid hs
  clear hs
  obtain ⟨h0, h1⟩ := h16
  go_enter Try.func63, Try.ntmps63
  go_wp2_with (first | (go_at_call 127; refine hm.mono ?_; rintro e w1 ⟨rfl, hb1⟩) | (go_at_call 128; refine (clone8_calls A c l w1 ((h.old hb1 (Nat.le_refl _)).more hb1.size) hlen).mono ?_; rintro e w2 ⟨v2, rfl, hb2, hown2⟩; obtain ⟨A2, c2, rfl, _, _⟩ := own_slice hown2) | (at_builtin; refine wpList_app elemU8 rfl _ _ rfl w1.heap.size (.slice A2 l.length c2) l.length (bs l) rfl (hown2.alloc _) (w2.heap.size + 1) (some ⟨w2.heap.size, 0, none⟩) 2 2 (bs [s / 256, s % 256]) rfl rfl (Rd.new w2 _ _ _ (Nat.lt_succ_self _)) (bs_one _) (by unfold maxLen; omega) (by omega) (by have := hb2.size; simp; omega) ?_; intro v' w3 hown' hgrow; obtain ⟨A', c', rfl, _, _⟩ := own_slice hown'))
  go_ret
  have e1 : bs l ++ bs [s / 256, s % 256] = bs (Sp.withSum l) := by rw [← bs_append]; unfold Sp.withSum; rw [HS.out]
  rw [e1] at hown'
  refine ⟨_, rfl, ?_, ownsRow_base hown' hb1.size⟩
  have hz1 := hb1.size
  have hz2 := hb2.size
  exact ((hb1.trans (hb2.mono hz1)).alloc (by omega) _).grown hgrow (by simp; omega) (fun g hg => by have := (hown2.lt g hg).1; omega)

theorem crcSeal_n (A : Option Addr) (c n : Nat) (l : List Int) (w : World) (hn : l.length = n) (hl : Sp.Bytes l) (h : Rd w w.heap.size A (bs l)) (hlen : n ≤ 1000000) :
    Calls Try.prog 63 #[.slice A n c] w (Gives w 5 1 (n + 2) (bs (Sp.withSum l))) := by
  subst hn
  exact crcSeal_calls A c l w hl h hlen

theorem equal8_calls (A A2 : Option Addr) (c c2 B : Nat) (l l2 : List Int) (w : World) (h : Rd w B A (bs l)) (h2 : Rd w B A2 (bs l2)) (hlen : l.length ≤ maxLen) (hlen2 : l2.length ≤ maxLen) :
    Calls Try.prog 78 #[.slice A l.length c, .slice A2 l2.length c2] w fun e w' => e = .returned (.bool (decide (l = l2))) ∧ ∃ n, w' = w.drewN n := by
  unfold maxLen at hlen hlen2
  by_cases hn : l.length = l2.length
  · have hne : ((l.length : Int) != (l2.length : Int)) = false := by rw [hn]; simp
    have HN := Lib.hid hn
    clear hn
    go_enter Try.func78, Try.ntmps78
    go_wp2_with fail
    go_loopw [13] (fun i wr => ∃ k m : Nat, k ≤ l.length ∧ i = .int .i64 k ∧ l.take k = l2.take k ∧ wr = w.drewN m) (fun i _ => l.length - (intOf i).toNat)
    case atStart => exact ⟨0, 0, Nat.zero_le _, rfl, rfl, rfl⟩
    case round =>
      obtain ⟨k, m, hk, rfl, hpre, rfl⟩ := hrel
      have HP := Lib.hid hpre
      clear hpre
      by_cases hlt : k < l.length
      · have hlt2 : k < l2.length := by rw [← HN.out]; exact hlt
        obtain ⟨x, hx⟩ : ∃ x, l[k]? = some x := ⟨_, List.getElem?_eq_getElem hlt⟩
        obtain ⟨y, hy⟩ : ∃ y, l2[k]? = some y := ⟨_, List.getElem?_eq_getElem hlt2⟩
        obtain ⟨b, off, rfl, _, hcx⟩ := h.at_ (k := k) (u := .int .u8 x) (by simp [bs, hx])
        obtain ⟨b2, off2, rfl, _, hcy⟩ := h2.at_ (k := k) (u := .int .u8 y) (by simp [bs, hy])
        have HX := Lib.hid hx
        have HY := Lib.hid hy
        clear hx hy h h2
        by_cases hxy : x = y
        · subst hxy
          have hb : (x != x) = false := by simp
          go_wp2_with fail
          go_quiet (fail)
          go_wp2_with fail
          go_roundw
          case rel => exact ⟨k + 1, _, by omega, by go_num, by rw [List.take_add_one, List.take_add_one, HX.out, HY.out, HP.out], rfl⟩
          case measure => simp [intOf]; omega
        · have hb : (x != y) = true := by simp [hxy]
          go_wp2_with fail
          go_quiet (fail)
          go_wp2_with fail
          go_ret
          refine ⟨?_, _, World.drewN_drewN _ _ _⟩
          have : l ≠ l2 := by rintro rfl; have := HX.out; rw [HY.out] at this; exact hxy (by injection this with this; exact this.symm)
          simp [this]
      · obtain rfl : k = l.length := by omega
        go_wp2_with fail
        go_ret
        refine ⟨?_, _, rfl⟩
        have e1 := HP.out
        rw [List.take_of_length_le (Nat.le_refl _), HN.out, List.take_of_length_le (Nat.le_refl _)] at e1
        simp [e1]
  · have hne : ((l.length : Int) != (l2.length : Int)) = true := by simp; omega
    go_enter Try.func78, Try.ntmps78
    go_wp2_with fail
    go_ret
    refine ⟨?_, 0, rfl⟩
    have : l ≠ l2 := by rintro rfl; exact hn rfl
    simp [this]

theorem crcOpen_yes (A : Option Addr) (c : Nat) (l : List Int) (w : World) (hl : Sp.Bytes l) (h : Rd w w.heap.size A (bs l)) (h2 : 2 ≤ l.length) (hlen : l.length ≤ 1000000) (hc : l.length ≤ c) (hcm : c ≤ maxLen)
    (heq : Sp.withSum (l.take (l.length - 2)) = l) :
    Calls Try.prog 107 #[.slice A l.length c] w fun e w' => ∃ v, e = .returned (.tuple #[v, .bool true]) ∧ Below w.heap.size w w' ∧ w'.ownsRow w.heap.size 5 1 v (l.length - 2) (bs (l.take (l.length - 2))) := by
  have hneg : decide ((l.length : Int) - 2 < 0) = false := by simp; omega
  have hlt : (l.take (l.length - 2)).length = l.length - 2 := by rw [List.length_take]; omega
  have hrt : Rd w w.heap.size A (bs (l.take (l.length - 2))) := by have := h.take (l.length - 2); unfold bs at this ⊢; rwa [List.map_take]
  obtain ⟨d, hd⟩ : ∃ d, l.take (l.length - 2) = d := ⟨_, rfl⟩
  have hbd : Sp.Bytes d := by rw [← hd]; exact fun x hx => hl x (List.mem_of_mem_take hx)
  have hws : (Sp.withSum d).length = l.length := by rw [Sp.withSum_length, ← hd, hlt]; omega
  rw [hd] at hrt hlt heq
  have hseal := crcSeal_calls A c d w hbd hrt (by omega)
  rw [hlt] at hseal
  have HD := Lib.hid hd
  have HT := Lib.hid hlt
  have HW := Lib.hid hws
  have HE := Lib.hid heq
  unfold maxLen at hcm
  clear hd hlt hws heq
  go_enter Try.func107, Try.ntmps107
  go_wp2_with fail
  refine hseal.mono ?_
  rintro e w1 ⟨v1, rfl, hb1, hown1⟩
  rw [show l.length - 2 + 2 = l.length from by omega] at hown1
  obtain ⟨A1, c1, rfl, h11, h12⟩ := own_slice hown1
  have hr1 := h.old hb1 (Nat.le_refl _)
  have he := equal8_calls A1 A c1 c w1.heap.size (Sp.withSum d) l w1 (Rd.own hown1) (hr1.more hb1.size) (by rw [HW.out]; unfold maxLen; omega) (by unfold maxLen; omega)
  rw [HW.out, decide_eq_true HE.out] at he
  go_wp2_with fail
  refine he.mono ?_
  rintro e w2 ⟨rfl, m, rfl⟩
  go_wp2_with fail
  have hcl := clone8_calls A c d (w1.drewN m) (by rw [← HD.out]; have := (hr1.more hb1.size).take (l.length - 2); unfold bs at this ⊢; rw [List.map_take]; exact this) (by rw [HT.out]; omega)
  rw [HT.out] at hcl
  refine hcl.mono ?_
  rintro e w3 ⟨v3, rfl, hb3, hown3⟩
  go_wp2_with fail
  go_ret2
  rw [HD.out]
  have hz := hb1.size
  exact ⟨v3, rfl, (below_drewN hb1 m).trans (hb3.mono hz), ownsRow_base hown3 hz⟩

theorem crcOpen_no (A : Option Addr) (c : Nat) (l : List Int) (w : World) (hl : Sp.Bytes l) (h : Rd w w.heap.size A (bs l)) (h2 : 2 ≤ l.length) (hlen : l.length ≤ 1000000) (hc : l.length ≤ c) (hcm : c ≤ maxLen)
    (heq : Sp.withSum (l.take (l.length - 2)) ≠ l) :
    Calls Try.prog 107 #[.slice A l.length c] w fun e w' => e = .returned (.tuple #[.slice none 0 0, .bool false]) ∧ Below w.heap.size w w' := by
  have hneg : decide ((l.length : Int) - 2 < 0) = false := by simp; omega
  have hlt : (l.take (l.length - 2)).length = l.length - 2 := by rw [List.length_take]; omega
  have hrt : Rd w w.heap.size A (bs (l.take (l.length - 2))) := by have := h.take (l.length - 2); unfold bs at this ⊢; rwa [List.map_take]
  obtain ⟨d, hd⟩ : ∃ d, l.take (l.length - 2) = d := ⟨_, rfl⟩
  have hbd : Sp.Bytes d := by rw [← hd]; exact fun x hx => hl x (List.mem_of_mem_take hx)
  have hws : (Sp.withSum d).length = l.length := by rw [Sp.withSum_length, ← hd, hlt]; omega
  rw [hd] at hrt hlt heq
  have hseal := crcSeal_calls A c d w hbd hrt (by omega)
  rw [hlt] at hseal
  have HD := Lib.hid hd
  have HT := Lib.hid hlt
  have HW := Lib.hid hws
  have HE := Lib.hid heq
  unfold maxLen at hcm
  clear hd hlt hws heq
  go_enter Try.func107, Try.ntmps107
  go_wp2_with fail
  refine hseal.mono ?_
  rintro e w1 ⟨v1, rfl, hb1, hown1⟩
  rw [show l.length - 2 + 2 = l.length from by omega] at hown1
  obtain ⟨A1, c1, rfl, h11, h12⟩ := own_slice hown1
  have hr1 := h.old hb1 (Nat.le_refl _)
  have he := equal8_calls A1 A c1 c w1.heap.size (Sp.withSum d) l w1 (Rd.own hown1) (hr1.more hb1.size) (by rw [HW.out]; unfold maxLen; omega) (by unfold maxLen; omega)
  rw [HW.out, decide_eq_false HE.out] at he
  go_wp2_with fail
  refine he.mono ?_
  rintro e w2 ⟨rfl, m, rfl⟩
  go_wp2_with fail
  go_ret2
  exact ⟨rfl, below_drewN hb1 m⟩

end Go.Proofs.Ytgdlombjhbfbiaa
