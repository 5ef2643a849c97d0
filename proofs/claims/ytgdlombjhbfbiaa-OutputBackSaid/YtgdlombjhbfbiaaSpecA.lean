/-
  Plain mathematics of the lower layers: sums of bytes, numbers as bytes, frames. No program in sight.
-/
import Derived.Laws.Bits128
import Derived.Laws.BitsAllLaws
namespace Go.Proofs.Ytgdlombjhbfbiaa
set_option linter.unusedVariables false
set_option linter.unusedSimpArgs false
namespace Sp

/-- The bitwise sum without carry of two numbers that are not negative. -/
def xorI (a b : Int) : Int := ((a.toNat ^^^ b.toNat : Nat) : Int)

theorem xorI_lt {a b : Int} (k : Nat) (ha' : a < (2 ^ k : Nat)) (hb' : b < (2 ^ k : Nat)) : 0 ≤ xorI a b ∧ xorI a b < (2 ^ k : Nat) := by
  unfold xorI
  have hp : 0 < (2:Nat) ^ k := Nat.two_pow_pos k
  have h := Nat.xor_lt_two_pow (x := a.toNat) (y := b.toNat) (n := k) (by omega) (by omega)
  omega

theorem xorI_16 {a b : Int} (ha' : a < 65536) (hb' : b < 65536) : 0 ≤ xorI a b ∧ xorI a b < 65536 :=
  xorI_lt 16 (by simpa using ha') (by simpa using hb')

/-- The model's own word for it. -/
theorem bits_xor {a b : Int} (ha : 0 ≤ a) (ha' : a < 65536) (hb : 0 ≤ b) (hb' : b < 65536) : bits .xor .i64 a b = xorI a b := by
  have h := xorI_16 ha' hb'
  have e : (BitVec.ofInt 64 a ^^^ BitVec.ofInt 64 b).toNat = a.toNat ^^^ b.toNat := by
    rw [BitVec.toNat_xor, BitVec.toNat_ofInt, BitVec.toNat_ofInt]
    congr 1 <;> omega
  show IntKind.i64.wrap ((BitVec.ofInt 64 a ^^^ BitVec.ofInt 64 b).toNat : Nat) = _
  rw [e, IntKind.wrap_i64]
  unfold xorI at *
  omega

theorem bits_and_mask (n : Int) (k m : Nat) (hk : k < 64) (hm : m = 2 ^ k - 1) : bits .and .i64 n (m : Int) = n % ((2 ^ k : Nat) : Int) := by
  have hp : (2:Nat) ^ k ≤ 2 ^ 63 := Nat.pow_le_pow_right (by decide) (by omega)
  have hp0 : 0 < (2:Nat) ^ k := Nat.two_pow_pos k
  have hmm : (BitVec.ofInt 64 (m : Int)).toNat = 2 ^ k - 1 := by
    rw [BitVec.toNat_ofInt]; omega
  have key : (BitVec.ofInt 64 n &&& BitVec.ofInt 64 (m : Int)).toNat = (n % ((2 ^ 64 : Nat) : Int)).toNat % 2 ^ k := by
    rw [BitVec.toNat_and, BitVec.toNat_ofInt, hmm, Nat.and_two_pow_sub_one_eq_mod]
  show IntKind.i64.wrap ((BitVec.ofInt 64 n &&& BitVec.ofInt 64 (m : Int)).toNat : Nat) = _
  rw [key, IntKind.wrap_i64]
  have hd : ((2 ^ k : Nat) : Int) ∣ ((2 ^ 64 : Nat) : Int) := by
    exact_mod_cast Nat.pow_dvd_pow 2 (by omega : k ≤ 64)
  have e1 : n % ((2 ^ 64 : Nat) : Int) % ((2 ^ k : Nat) : Int) = n % ((2 ^ k : Nat) : Int) := Int.emod_emod_of_dvd n hd
  have e2 : ((((n % ((2 ^ 64 : Nat) : Int)).toNat % 2 ^ k : Nat)) : Int) = n % ((2 ^ k : Nat) : Int) := by
    rw [← e1]
    have b0 := Int.emod_nonneg n (show ((2 ^ 64 : Nat) : Int) ≠ 0 by decide)
    generalize n % ((2 ^ 64 : Nat) : Int) = z at b0 ⊢
    obtain ⟨y, rfl⟩ := Int.eq_ofNat_of_zero_le b0
    rw [Int.toNat_natCast, Int.natCast_emod]
  rw [e2]
  have b1 := Int.emod_nonneg n (show ((2 ^ k : Nat) : Int) ≠ 0 by omega)
  have b2 := Int.emod_lt_of_pos n (show (0:Int) < ((2 ^ k : Nat) : Int) by omega)
  omega

theorem bits_and_65535 (n : Int) : bits .and .i64 n 65535 = n % 65536 := bits_and_mask n 16 65535 (by decide) (by decide)
theorem bits_and_1 (n : Int) : bits .and .i64 n 1 = n % 2 := bits_and_mask n 1 1 (by decide) (by decide)
theorem bits_and_15 (n : Int) : bits .and .i64 n 15 = n % 16 := bits_and_mask n 4 15 (by decide) (by decide)
theorem bits_and_7 (n : Int) : bits .and .i64 n 7 = n % 8 := bits_and_mask n 3 7 (by decide) (by decide)

theorem wraps_i64 (n : Int) (h0 : 0 ≤ n) (h1 : n < 2 ^ 62) : IntKind.i64.wrap n = n := by rw [IntKind.wrap_i64]; omega
theorem bits_or_at (i : Nat) (x y : Int) (hx0 : 0 ≤ x) (hx : x % 2 ^ i = 0) (hx1 : x < 2 ^ 62) (hy0 : 0 ≤ y) (hy : y < 2 ^ i) (hy1 : y < 2 ^ 62) : bits .or .i64 x y = x + y :=
  bits_join .i64 62 (by decide) wraps_i64 i x y hx0 hx hx1 hy0 hy hy1
theorem bits_or_256 (x y : Int) (hx : 0 ≤ x ∧ x < 1000000) (hy : 0 ≤ y ∧ y ≤ 255) : bits .or .i64 (x * 256) y = x * 256 + y :=
  bits_or_at 8 _ _ (by omega) (by omega) (by omega) (by omega) (by omega) (by omega)

theorem bits_and_small {a b : Int} (ha : 0 ≤ a) (ha' : a < 65536) (hb : 0 ≤ b) (hb' : b < 65536) : bits .and .i64 a b = ((a.toNat &&& b.toNat : Nat) : Int) := by
  have e : (BitVec.ofInt 64 a &&& BitVec.ofInt 64 b).toNat = a.toNat &&& b.toNat := by
    rw [BitVec.toNat_and, BitVec.toNat_ofInt, BitVec.toNat_ofInt]
    congr 1 <;> omega
  show IntKind.i64.wrap ((BitVec.ofInt 64 a &&& BitVec.ofInt 64 b).toNat : Nat) = _
  have hlt : a.toNat &&& b.toNat ≤ a.toNat := Nat.and_le_left
  rw [e, IntKind.wrap_i64]
  omega
theorem bits_and_32768 {s : Int} (h0 : 0 ≤ s) (h1 : s < 65536) : (bits .and .i64 s 32768 != 0) = decide (32768 ≤ s) := by
  rw [bits_and_small h0 h1 (by omega) (by omega)]
  have : s.toNat &&& (32768 : Int).toNat = s.toNat / 32768 % 2 * 32768 := nat_bit15 s.toNat
  rw [this]
  by_cases h : 32768 ≤ s
  · rw [decide_eq_true h, show s.toNat / 32768 % 2 * 32768 = 32768 from by omega]; rfl
  · rw [decide_eq_false h, show s.toNat / 32768 % 2 * 32768 = 0 from by omega]; rfl

/-! ### the sum of bytes -/

/-- One bit of a sum. -/
def crcBit (s : Int) : Int := if 32768 ≤ s then xorI (s * 2 % 65536) 4129 else s * 2 % 65536
def crcBits : Nat → Int → Int
  | 0, s => s
  | k + 1, s => crcBit (crcBits k s)
/-- One byte of a sum. -/
def crcByte (s c : Int) : Int := crcBits 8 (xorI s (c * 256))
def crc (s : Int) (l : List Int) : Int := l.foldl crcByte s

def IsByte (c : Int) : Prop := 0 ≤ c ∧ c ≤ 255
def Bytes (l : List Int) : Prop := ∀ c ∈ l, IsByte c
def Is16 (s : Int) : Prop := 0 ≤ s ∧ s < 65536

theorem crcBit_16 (s : Int) : Is16 (crcBit s) := by
  unfold crcBit Is16 at *
  split
  · exact xorI_16 (by omega) (by omega)
  · omega

theorem crcBits_16 {s : Int} (h : Is16 s) : ∀ k, Is16 (crcBits k s)
  | 0 => h
  | _ + 1 => crcBit_16 _

theorem crcByte_16 {s c : Int} (h : Is16 s) (hc : IsByte c) : Is16 (crcByte s c) := by
  unfold IsByte at hc; unfold Is16 at h
  exact crcBits_16 (xorI_16 (by omega) (by omega)) 8

theorem crc_16 {l : List Int} (hl : Bytes l) : ∀ {s : Int}, Is16 s → Is16 (crc s l) := by
  induction l with
  | nil => intro s h; exact h
  | cons c l ih =>
    intro s h
    exact ih (fun x hx => hl x (List.mem_cons_of_mem _ hx)) (crcByte_16 h (hl c List.mem_cons_self))

theorem crc_snoc (s : Int) (l : List Int) (c : Int) : crc s (l ++ [c]) = crcByte (crc s l) c := by
  unfold crc; rw [List.foldl_append]; rfl

def withSum (l : List Int) : List Int := l ++ [crc 65535 l / 256, crc 65535 l % 256]

theorem withSum_length (l : List Int) : (withSum l).length = l.length + 2 := by simp [withSum]

theorem withSum_bytes {l : List Int} (hl : Bytes l) : Bytes (withSum l) := by
  have h := crc_16 hl (s := 65535) (by unfold Is16; omega)
  unfold Is16 at h
  intro c hc
  unfold withSum at hc
  rw [List.mem_append] at hc
  rcases hc with hc | hc
  · exact hl c hc
  · simp at hc; unfold IsByte; omega

/-! ### numbers as bytes -/

def put2 (n : Int) : List Int := [n / 256, n % 256]
def put4 (n : Int) : List Int := [n / 16777216 % 256, n / 65536 % 256, n / 256 % 256, n % 256]
def get2 (a b : Int) : Int := a * 256 + b
def get4 (a b c d : Int) : Int := let u := a * 16777216 + b * 65536 + c * 256 + d; if 2147483648 ≤ u then u - 4294967296 else u
def is32 (n : Int) : Bool := decide (-2147483648 ≤ n) && decide (n ≤ 2147483647)
def isSeq (n : Int) : Bool := decide (0 ≤ n) && decide (n < 65536)
def putAll (l : List Int) : List Int := l.flatMap put4
def getAll : List Int → List Int
  | a :: b :: c :: d :: l => get4 a b c d :: getAll l
  | _ => []
/-- The number behind one. -/
def next (n : Int) : Int := (n + 1) % 65536

theorem put4_bytes (n : Int) : Bytes (put4 n) := by
  intro c hc; simp [put4] at hc; unfold IsByte; omega
theorem put2_bytes {n : Int} (h : isSeq n = true) : Bytes (put2 n) := by
  simp [isSeq] at h
  intro c hc; simp [put2] at hc; unfold IsByte; omega
theorem putAll_bytes (l : List Int) : Bytes (putAll l) := by
  intro c hc
  simp only [putAll, List.mem_flatMap] at hc
  obtain ⟨n, _, h⟩ := hc
  exact put4_bytes n c h
theorem putAll_length (l : List Int) : (putAll l).length = 4 * l.length := by
  induction l with
  | nil => rfl
  | cons n l ih => simp only [putAll, List.flatMap_cons, List.length_append, List.length_cons] at *; rw [ih]; simp [put4]; omega
theorem Bytes.append {a b : List Int} (ha : Bytes a) (hb : Bytes b) : Bytes (a ++ b) := by
  intro c hc; rw [List.mem_append] at hc; exact hc.elim (ha c) (hb c)

theorem get4_put4 {n : Int} (h : is32 n = true) : get4 (n / 16777216 % 256) (n / 65536 % 256) (n / 256 % 256) (n % 256) = n := by
  simp [is32] at h
  unfold get4
  simp only
  split <;> omega
theorem getAll_putAll {l : List Int} (h : ∀ n ∈ l, is32 n = true) : getAll (putAll l) = l := by
  induction l with
  | nil => rfl
  | cons n l ih =>
    have e : putAll (n :: l) = (n / 16777216 % 256) :: (n / 65536 % 256) :: (n / 256 % 256) :: (n % 256) :: putAll l := rfl
    rw [e, getAll, get4_put4 (h n List.mem_cons_self), ih (fun x hx => h x (List.mem_cons_of_mem _ hx))]
theorem get4_32 {a b c d : Int} (ha : IsByte a) (hb : IsByte b) (hc : IsByte c) (hd : IsByte d) : is32 (get4 a b c d) = true := by
  unfold IsByte at *
  unfold get4
  simp only
  split <;> simp only [is32, Bool.and_eq_true, decide_eq_true_eq] <;> omega
theorem put4_get4 {a b c d : Int} (ha : IsByte a) (hb : IsByte b) (hc : IsByte c) (hd : IsByte d) : put4 (get4 a b c d) = [a, b, c, d] := by
  unfold IsByte at *
  simp only [put4, get4, List.cons.injEq, and_true]
  split <;> refine ⟨?_, ?_, ?_, ?_⟩ <;> omega
theorem get2_put2 (n : Int) : get2 (n / 256) (n % 256) = n := by unfold get2; omega
theorem put2_get2 {a b : Int} (hb : IsByte b) : put2 (get2 a b) = [a, b] := by
  unfold IsByte at *
  simp only [put2, get2, List.cons.injEq, and_true]; omega
end Sp
end Go.Proofs.Ytgdlombjhbfbiaa
