/-
  Plain mathematics: a sum of bytes tells one changed byte.
-/
import Derived.Test.YtgdlombjhbfbiaaSpecA
namespace Go.Proofs.Ytgdlombjhbfbiaa
set_option linter.unusedVariables false
set_option linter.unusedSimpArgs false
namespace Sp

theorem xorI_cancel {a b c : Int} (ha : 0 ≤ a) (hb : 0 ≤ b) (h : xorI a c = xorI b c) : a = b := by
  unfold xorI at h
  have h' : a.toNat ^^^ c.toNat = b.toNat ^^^ c.toNat := by omega
  have e := congrArg (· ^^^ c.toNat) h'
  simp only [Nat.xor_assoc, Nat.xor_self, Nat.xor_zero] at e
  omega
theorem xorI_comm (a b : Int) : xorI a b = xorI b a := by unfold xorI; rw [Nat.xor_comm]

theorem xorI_odd {a : Int} (h : a % 2 = 0) : xorI a 4129 % 2 = 1 := by
  unfold xorI
  have h1 : (a.toNat ^^^ 4129) % 2 = 1 := by
    rw [Nat.xor_mod_two_eq_one]; omega
  show (((a.toNat ^^^ 4129 : Nat)) : Int) % 2 = 1
  omega

theorem crcBit_inj {s t : Int} (hs : Is16 s) (ht : Is16 t) (h : crcBit s = crcBit t) : s = t := by
  unfold Is16 at *
  unfold crcBit at h
  by_cases h1 : 32768 ≤ s <;> by_cases h2 : 32768 ≤ t
  · rw [if_pos h1, if_pos h2] at h
    have := xorI_cancel (by omega) (by omega) h
    omega
  · rw [if_pos h1, if_neg h2] at h
    have := xorI_odd (a := s * 2 % 65536) (by omega)
    omega
  · rw [if_neg h1, if_pos h2] at h
    have := xorI_odd (a := t * 2 % 65536) (by omega)
    omega
  · rw [if_neg h1, if_neg h2] at h
    omega

theorem crcBits_inj {s t : Int} (hs : Is16 s) (ht : Is16 t) : ∀ k, crcBits k s = crcBits k t → s = t
  | 0, h => h
  | k + 1, h => crcBits_inj hs ht k (crcBit_inj (crcBits_16 hs k) (crcBits_16 ht k) h)

theorem crcByte_inj_s {s t c : Int} (hs : Is16 s) (ht : Is16 t) (hc : IsByte c) (h : crcByte s c = crcByte t c) : s = t := by
  unfold IsByte at hc
  have hs' := hs; have ht' := ht
  unfold Is16 at hs' ht'
  exact xorI_cancel (by omega) (by omega) (crcBits_inj (xorI_16 (by omega) (by omega)) (xorI_16 (by omega) (by omega)) 8 h)

theorem crcByte_inj_c {s c d : Int} (hs : Is16 s) (hc : IsByte c) (hd : IsByte d) (h : crcByte s c = crcByte s d) : c = d := by
  unfold IsByte at hc hd
  unfold Is16 at hs
  have h1 := crcBits_inj (xorI_16 (a := s) (b := c * 256) (by omega) (by omega)) (xorI_16 (a := s) (b := d * 256) (by omega) (by omega)) 8 h
  rw [xorI_comm s, xorI_comm s] at h1
  have := xorI_cancel (by omega) (by omega) h1
  omega

theorem crc_inj : ∀ {l : List Int}, Bytes l → ∀ {s t : Int}, Is16 s → Is16 t → crc s l = crc t l → s = t
  | [], _, _, _, _, _, h => h
  | c :: l, hl, s, t, hs, ht, h => by
    have hc := hl c List.mem_cons_self
    have := crc_inj (fun x hx => hl x (List.mem_cons_of_mem _ hx)) (crcByte_16 hs hc) (crcByte_16 ht hc) h
    exact crcByte_inj_s hs ht hc this

/-- One byte changed: another sum. -/
theorem crc_tells {a b : List Int} {c d s : Int} (ha : Bytes a) (hb : Bytes b) (hc : IsByte c) (hd : IsByte d) (hs : Is16 s)
    (h : crc s (a ++ c :: b) = crc s (a ++ d :: b)) : c = d := by
  unfold crc at h
  rw [List.foldl_append, List.foldl_append, List.foldl_cons, List.foldl_cons] at h
  have h0 : Is16 (a.foldl crcByte s) := crc_16 ha hs
  exact crcByte_inj_c h0 hc hd (crc_inj hb (crcByte_16 h0 hc) (crcByte_16 h0 hd) h)
end Sp
end Go.Proofs.Ytgdlombjhbfbiaa
