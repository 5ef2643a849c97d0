/-
  Walks: slots in a list; law 06's Fits.
-/
import Derived.Test.YtgdlombjhbfbiaaWi
namespace Go.Proofs.Ytgdlombjhbfbiaa
set_option linter.unusedVariables false
set_option linter.unusedSimpArgs false
open Go.RowKit

/-- A slot as it lies in memory: whether it bears bytes, where these lie, the capacity, the bytes. -/
structure SlotV where
  is : Bool
  A : Option Addr
  c : Nat
  l : List Int

def slotCells : List SlotV → List Value
  | [] => []
  | s :: r => .bool s.is :: .slice s.A s.l.length s.c :: slotCells r
theorem slotCells_at : ∀ (ss : List SlotV) (k : Nat) (s : SlotV), ss[k]? = some s → (slotCells ss)[k * 2]? = some (.bool s.is) ∧ (slotCells ss)[k * 2 + 1]? = some (.slice s.A s.l.length s.c)
  | [], k, s, h => by simp at h
  | x :: r, 0, s, h => by simp at h; subst h; exact ⟨rfl, rfl⟩
  | x :: r, k + 1, s, h => by
    have := slotCells_at r k s (by simpa using h)
    rw [show (k + 1) * 2 = k * 2 + 2 from by omega, show k * 2 + 2 + 1 = k * 2 + 1 + 2 from by omega]
    exact this
theorem slotCells_length (ss : List SlotV) : (slotCells ss).length = ss.length * 2 := by
  induction ss with
  | nil => rfl
  | cons x r ih => simp [slotCells, ih]; omega
/-- The slots' bytes lie where they say. -/
def SlotsOk (w : World) (ss : List SlotV) : Prop := ∀ s ∈ ss, Sp.Bytes s.l ∧ RdW w s.A (bs s.l) ∧ s.l.length ≤ s.c ∧ s.c ≤ maxLen
def fits (ss : List SlotV) : Bool := decide (ss.length ≤ 60) && ss.all (fun s => decide (s.l.length ≤ 100))

theorem fits_calls (A : Option Addr) (c : Nat) (ss : List SlotV) (w : World) (h : RdW w A (slotCells ss)) :
    Calls Try.prog 13 #[.slice A ss.length c] w fun e w' => e = .returned (.bool (fits ss)) ∧ w = w' := by
  by_cases h60 : ss.length ≤ 60
  · have hf : fits ss = ss.all (fun s => decide (s.l.length ≤ 100)) := by unfold fits; rw [decide_eq_true h60, Bool.true_and]
    rw [hf]
    clear hf
    go_enter Try.func13, Try.ntmps13
    go_wp2_with fail
    go_loop [3] (fun i => ∃ k : Nat, k ≤ ss.length ∧ i = .int .i64 k ∧ (ss.take k).all (fun s => decide (s.l.length ≤ 100)) = true) (fun i => ss.length - (intOf i).toNat)
    case atStart => exact ⟨0, Nat.zero_le _, rfl, rfl⟩
    case round =>
      obtain ⟨k, hk, rfl, hpre⟩ := hrel
      have HP := Lib.hid hpre
      clear hpre
      by_cases hlt : k < ss.length
      · obtain ⟨s, hs⟩ : ∃ s, ss[k]? = some s := ⟨_, List.getElem?_eq_getElem hlt⟩
        obtain ⟨e1, e2⟩ := slotCells_at ss k s hs
        obtain ⟨b, off, rfl, hbb, hcx⟩ := h.at_ e2
        rw [← Nat.add_assoc] at hcx
        have HS := Lib.hid hs
        have HH := Lib.hid h
        clear hs e1 e2 h
        by_cases hl : s.l.length ≤ 100
        · go_wp2_with fail
          go_round
          case rel =>
            refine ⟨k + 1, by omega, by go_num, ?_⟩
            rw [List.take_add_one, HS.out, List.all_append, HP.out]; simp [hl]
          case measure => simp [intOf]; omega
        · go_wp2_with fail
          go_ret
          have hall : ss.all (fun s => decide (s.l.length ≤ 100)) = false := by
            rw [Bool.eq_false_iff]
            intro hall
            rw [List.all_eq_true] at hall
            have := hall s (List.mem_of_getElem? HS.out)
            simp at this; omega
          exact ⟨by rw [hall]; rfl, rfl⟩
      · obtain rfl : k = ss.length := by omega
        go_wp2_with fail
        go_ret
        have := HP.out
        rw [List.take_of_length_le (Nat.le_refl _)] at this
        exact ⟨by rw [this]; rfl, rfl⟩
  · have hf : fits ss = false := by unfold fits; simp; omega
    rw [hf]
    clear hf
    go_enter Try.func13, Try.ntmps13
    go_wp2_with fail
    go_ret
    exact ⟨rfl, rfl⟩
end Go.Proofs.Ytgdlombjhbfbiaa
