/-
  Walks: the sum of bytes.
-/
import Derived.Test.YtgdlombjhbfbiaaWb
namespace Go.Proofs.Ytgdlombjhbfbiaa
set_option linter.unusedVariables false
set_option linter.unusedSimpArgs false
open Go.RowKit

theorem crcStep_calls (g : Nat) (s : Int) (w : World) (hs : Sp.Is16 s) (h : Bk w g 3 #[.int .i64 s]) :
    Calls Try.prog 185 #[.pointer (some ⟨g, 0, none⟩)] w fun e w' => e = .returned (.tuple #[]) ∧ Keep (fun i => i = g) w w' ∧ Bk w' g 3 #[.int .i64 (Sp.crcBit s)] := by
  unfold Sp.Is16 at hs
  obtain ⟨h0, h1⟩ := hs
  have hc := h.cell 0
  have hf := h.frozen 0
  have ht := Sp.bits_and_32768 h0 h1
  have he := Sp.bits_and_65535 (s * 2)
  by_cases hge : 32768 ≤ s
  · rw [decide_eq_true hge] at ht
    have hx := Sp.bits_xor (a := s * 2 % 65536) (b := 4129) (by omega) (by omega) (by omega) (by omega)
    have hr : Sp.crcBit s = Sp.xorI (s * 2 % 65536) 4129 := by unfold Sp.crcBit; rw [if_pos hge]
    go_enter Try.func185, Try.ntmps185
    clear hr
    go_wp2
    go_end0
    refine ⟨rfl, ((Keep.refl (fun i => i = g) w).setCell (p := ⟨g, 0, none⟩) (fun _ => rfl) _).setCell (p := ⟨g, 0, none⟩) (fun _ => rfl) _, ?_⟩
    unfold Sp.crcBit
    rw [if_pos hge]
    exact (h.set_ 0 _).set_ 0 _
  · rw [decide_eq_false hge] at ht
    go_enter Try.func185, Try.ntmps185
    go_wp2
    go_end0
    refine ⟨rfl, putCell_keep _ _ _ rfl, ?_⟩
    unfold Sp.crcBit
    rw [if_neg (by omega)]
    exact h.set_ 0 _

theorem crcMore_calls (A : Option Addr) (c : Nat) (s : Int) (l : List Int) (w : World) (hs : Sp.Is16 s) (hl : Sp.Bytes l) (h : Rd w w.heap.size A (bs l)) (hlen : l.length ≤ maxLen) :
    Calls Try.prog 163 #[.int .i64 s, .slice A l.length c] w fun e w' => e = .returned (.int .i64 (Sp.crc s l)) ∧ Below w.heap.size w w' := by
  have hs' := hs
  unfold Sp.Is16 at hs'
  obtain ⟨h0, h1⟩ := hs'
  unfold maxLen at hlen
  go_enter Try.func163, Try.ntmps163
  go_wp2_with fail
  go_loopw [17] (fun i wr => ∃ k : Nat, k ≤ l.length ∧ i = .int .i64 k ∧ Bk wr w.heap.size 3 #[.int .i64 (Sp.crc s (l.take k))] ∧ Below w.heap.size w wr)
    (fun i _ => l.length - (intOf i).toNat)
  case atStart => exact ⟨0, Nat.zero_le _, rfl, Bk.new w _ _, (Below.refl _ w).alloc (Nat.le_refl _) _⟩
  case round =>
    obtain ⟨k, hk, rfl, hB, hbel⟩ := hrel
    by_cases hlt : k < l.length
    · obtain ⟨x, hx⟩ : ∃ x, l[k]? = some x := ⟨_, List.getElem?_eq_getElem hlt⟩
      have hxb := hl x (List.mem_of_getElem? hx)
      obtain ⟨b, off, rfl, hbb, hcx⟩ := (h.below hbel).at_ (k := k) (u := .int .u8 x) (by simp [bs, hx])
      have hsx := Sp.crc_16 (l := l.take k) (fun q hq => hl q (List.mem_of_mem_take hq)) hs
      obtain ⟨t, ht⟩ : ∃ t, Sp.crc s (l.take k) = t := ⟨_, rfl⟩
      rw [ht] at hB hsx
      have HT := Lib.hid ht
      have HX := Lib.hid hx
      clear ht hx h
      have hc0 := hB.cell 0
      have hf0 := hB.frozen 0
      unfold Sp.IsByte at hxb
      obtain ⟨hx0, hx1⟩ := hxb
      have hsx' := hsx
      unfold Sp.Is16 at hsx'
      obtain ⟨hs0, hs1⟩ := hsx'
      have hxor := Sp.bits_xor (a := t) (b := x * 256) hs0 hs1 (by omega) (by omega)
      have hxr := Sp.xorI_16 (a := t) (b := x * 256) (by omega) (by omega)
      obtain ⟨wo, rfl⟩ : ∃ wo : World, wo = wr := ⟨_, rfl⟩
      go_wp2_with fail
      go_loopw [26] (fun i wr' => ∃ j : Nat, j ≤ 8 ∧ i = .int .i64 j ∧ Bk wr' w.heap.size 3 #[.int .i64 (Sp.crcBits j (Sp.xorI t (x * 256)))] ∧ Below w.heap.size w wr')
        (fun i _ => 8 - (intOf i).toNat)
      case atStart => exact ⟨0, Nat.zero_le _, rfl, hB.set_ 0 _, hbel.setCell (Nat.le_refl _) _⟩
      case round =>
        obtain ⟨j, hj, rfl, hBj, hbj⟩ := hrel
        by_cases hj8 : j < 8
        · have hst := crcStep_calls w.heap.size (Sp.crcBits j (Sp.xorI t (x * 256))) wr (Sp.crcBits_16 hxr j) hBj
          clear hxor
          go_wp2_with (go_at_call 185; refine hst.mono ?_; rintro e w2 ⟨rfl, hk2, hB2⟩)
          go_roundw
          case rel => exact ⟨j + 1, by omega, by go_num, hB2, hbj.trans (hk2.below (Nat.le_of_lt hBj.lt) (fun i hi => by omega))⟩
          case measure => simp [intOf]; omega
        · obtain rfl : j = 8 := by omega
          go_wp2_with fail
          go_roundw
          case rel => exact ⟨k + 1, by omega, by go_num, by
            have e1 : Sp.crc s (l.take (k + 1)) = Sp.crcByte t x := by rw [List.take_add_one, HX.out, Option.toList_some, Sp.crc_snoc, HT.out]
            rw [e1]; exact hBj, hbj⟩
          case measure => simp [intOf]; omega
    · obtain rfl : k = l.length := by omega
      have hc0 := hB.cell 0
      go_wp2_with fail
      go_ret
      exact ⟨rfl, hbel⟩
end Go.Proofs.Ytgdlombjhbfbiaa
