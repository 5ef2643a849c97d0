/-
  A frame's bytes come back; tracks that take frames: plain laws.
-/
import Derived.Test.YtgdlombjhbfbiaaWj
namespace Go.Proofs.Ytgdlombjhbfbiaa
set_option linter.unusedVariables false
set_option linter.unusedSimpArgs false
open Go.RowKit

theorem Fr.right_seq {f : Fr} (h : f.right = true) : Sp.isSeq f.seq = true := by unfold Fr.right at h; simp only [Bool.and_eq_true] at h; exact h.1
theorem Fr.right_vals {f : Fr} (h : f.right = true) : ∀ n ∈ f.vals, Sp.is32 n = true := by unfold Fr.right at h; simp only [Bool.and_eq_true, List.all_eq_true] at h; exact h.2

theorem encode_form (ch : Int) (f : Fr) : ∃ a b, encode ch f = 165 :: ch :: (f.seq / 256) :: (f.seq % 256) :: (Sp.putAll f.vals ++ [a, b]) := by
  refine ⟨Sp.crc 65535 ([165, ch] ++ Sp.put2 f.seq ++ Sp.putAll f.vals) / 256, Sp.crc 65535 ([165, ch] ++ Sp.put2 f.seq ++ Sp.putAll f.vals) % 256, ?_⟩
  unfold encode Sp.withSum
  simp [Sp.put2]
theorem encode_bytes (ch : Int) (f : Fr) (h0 : 0 ≤ ch) (h1 : ch < 4) (hf : f.right = true) : Sp.Bytes (encode ch f) := by
  unfold encode
  refine Sp.withSum_bytes (Sp.Bytes.append (Sp.Bytes.append (fun x hx => ?_) (Sp.put2_bytes (Fr.right_seq hf))) (Sp.putAll_bytes _))
  simp at hx; unfold Sp.IsByte; omega
theorem frOf_encode (ch : Int) (f : Fr) (hf : f.right = true) : frOf (encode ch f) = f := by
  obtain ⟨a, b, e⟩ := encode_form ch f
  unfold frOf
  have h32 : ((encode ch f).drop 4).take 32 = Sp.putAll f.vals := by
    rw [e]
    show (Sp.putAll f.vals ++ [a, b]).take 32 = _
    exact List.take_left' (by rw [Sp.putAll_length]; rfl)
  rw [h32, Sp.getAll_putAll (Fr.right_vals hf)]
  have g2 : (encode ch f).getD 2 0 = f.seq / 256 := by rw [e]; rfl
  have g3 : (encode ch f).getD 3 0 = f.seq % 256 := by rw [e]; rfl
  rw [g2, g3, Sp.get2_put2]
  rfl
theorem reject_encode (ch : Int) (f : Fr) : reject ch true (encode ch f) = 0 := by
  obtain ⟨a, b, e⟩ := encode_form ch f
  have hl := encode_length ch f
  have hs : Sp.withSum ((encode ch f).take ((encode ch f).length - 2)) = encode ch f := by
    rw [hl]
    have : (encode ch f).take (38 - 2) = [165, ch] ++ Sp.put2 f.seq ++ Sp.putAll f.vals := by
      unfold encode Sp.withSum
      exact List.take_left' (by rw [List.length_append, List.length_append, Sp.putAll_length]; rfl)
    rw [this]; rfl
  unfold reject
  rw [if_neg (by simp), if_neg (by omega), if_neg (by rw [e]; simp), if_neg (by rw [e]; simp), if_neg (by rw [hs]; simp)]
/-- A frame's bytes come to a track. -/
theorem step_encode (T : Trk) (f : Fr) (hf : f.right = true) : T.step true (encode T.ch f) = (T.seen f, if T.fits f = true then (f, 0) else (Fr.zero, 6)) := by
  unfold Trk.step
  rw [reject_encode, frOf_encode _ _ hf]
  simp
theorem reject_absent (ch : Int) (l : List Int) : reject ch false l = 1 := by unfold reject; simp
theorem step_absent (T : Trk) (l : List Int) : T.step false l = (T, Fr.zero, 1) := by
  unfold Trk.step
  rw [reject_absent]
  simp
end Go.Proofs.Ytgdlombjhbfbiaa
