/-
  Walks: law 06's FreshOrder.
-/
import Derived.Test.YtgdlombjhbfbiaaWn
namespace Go.Proofs.Ytgdlombjhbfbiaa
set_option linter.unusedVariables false
set_option linter.unusedSimpArgs false
open Go.RowKit

section
variable (A : Option Addr) (c : Nat) (ss : List SlotV) (f : Fr) (n : Int) (w : World) (h : RdW w A (slotCells ss))
include h
theorem fo_not (hno : f.right = false) :
    Calls Try.prog 3 #[.slice A ss.length c, .agg f.cells, .int .u8 n] w fun e w' => e = .returned (.bool true) ∧ Ext w w' := by
  have hen : ∀ W, Calls Try.prog 14 #[.int .i64 2, .agg f.cells] W fun e w' => e = .returned (.tuple #[.slice none 0 0, .int .i64 1]) ∧ Ext W w' := fun W => frEncode_no 2 f W (by simp [hno])
  have hfi := fits_calls A c ss (w.alloc (.cells f.cells 25)) (h.alloc _)
  unfold Fr.cells at hen hfi ⊢
  have HEN := Lib.hid hen
  clear h hno hen
  obtain ⟨b, hb⟩ : ∃ b, fits ss = b := ⟨_, rfl⟩
  rw [hb] at hfi
  have HFI := Lib.hid hfi
  clear hb hfi
  cases b
  all_goals (
    go_enter Try.func3, Try.ntmps3
    go_wp2_with (first
      | (go_at_call 13; refine HFI.out.mono ?_; rintro e w1 ⟨rfl, rfl⟩)
      | (go_at_call 14; refine (HEN.out _).mono ?_; rintro e w2 ⟨rfl, hE2⟩)
      | (go_at_call 15; refine (alive06_calls _).mono ?_; rintro e w3 ⟨rfl, hE3⟩))
    go_ret
    exact ⟨rfl, (((Ext.refl w).alloc _).trans hE2).trans hE3⟩)
theorem fo_long (hyes : f.right = true) (hno : fits ss = false) :
    Calls Try.prog 3 #[.slice A ss.length c, .agg f.cells, .int .u8 n] w fun e w' => e = .returned (.bool true) ∧ Ext w w' := by
  have hen : ∃ la, ∀ W, Calls Try.prog 14 #[.int .i64 2, .agg f.cells] W fun e w' => ∃ v, e = .returned (.tuple #[v, .int .i64 0]) ∧ Ext W w' ∧ w'.ownsRow W.heap.size 5 1 v 38 (bs la) := ⟨encode 2 f, fun W => frEncode_yes 2 f W (by decide) (by decide) hyes⟩
  obtain ⟨la, hen⟩ := hen
  have hfi := fits_calls A c ss (w.alloc (.cells f.cells 25)) (h.alloc _)
  unfold Fr.cells at hen hfi ⊢
  rw [hno] at hfi
  have HEN := Lib.hid hen
  have HFI := Lib.hid hfi
  clear h hno hen hyes hfi
  go_enter Try.func3, Try.ntmps3
  go_wp2_with (first
    | (go_at_call 13; refine HFI.out.mono ?_; rintro e w1 ⟨rfl, rfl⟩)
    | (go_at_call 14; refine (HEN.out _).mono ?_; rintro e w2 ⟨v2, rfl, hE2, ho2⟩)
    | (go_at_call 15; refine (alive06_calls _).mono ?_; rintro e w3 ⟨rfl, hE3⟩))
  go_ret
  exact ⟨rfl, (((Ext.refl w).alloc _).trans hE2).trans hE3⟩
end
end Go.Proofs.Ytgdlombjhbfbiaa
