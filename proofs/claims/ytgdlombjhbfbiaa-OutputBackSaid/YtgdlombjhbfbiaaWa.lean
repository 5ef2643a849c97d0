/-
  Walks: numbers as bytes.
-/
import Derived.Test.YtgdlombjhbfbiaaProg
import Derived.Test.YtgdlombjhbfbiaaSpecA
import Derived.Test.YtgdlombjhbfbiaaMem
import Derived.WalkLawsBesides
import Derived.Deep.QuietTactic
import Derived.BigQuiet
namespace Go.Proofs.Ytgdlombjhbfbiaa
set_option linter.unusedVariables false
set_option linter.unusedSimpArgs false
open Go.RowKit

theorem seq_calls (n : Int) (w : World) :
    Calls Try.prog 68 #[.int .i64 n] w fun e w' => e = .returned (.bool (Sp.isSeq n)) ∧ w = w' := by
  go_enter Try.func68, Try.ntmps68
  go_wp2
  all_goals go_ret
  all_goals exact ⟨by simp [Sp.isSeq, *] <;> omega, rfl⟩

theorem next_calls (n : Int) (w : World) (h : Sp.isSeq n = true) :
    Calls Try.prog 18 #[.int .i64 n] w fun e w' => e = .returned (.int .i64 (Sp.next n)) ∧ w = w' := by
  have h' := h
  simp [Sp.isSeq] at h'
  obtain ⟨h0, h1⟩ := h'
  have hh := seq_calls n w
  rw [h] at hh
  clear h
  go_enter Try.func18, Try.ntmps18
  go_wp2_with (go_at_call 68; refine hh.mono ?_; rintro e w' ⟨rfl, rfl⟩)
  all_goals go_ret
  all_goals exact ⟨rfl, rfl⟩

theorem put2_calls (n : Int) (w : World) (h : Sp.isSeq n = true) :
    Calls Try.prog 65 #[.int .i64 n] w (Gives w 5 1 2 (bs (Sp.put2 n))) := by
  have h' := h
  simp [Sp.isSeq] at h'
  obtain ⟨h0, h1⟩ := h'
  have hh := seq_calls n w
  rw [h] at hh
  clear h
  go_enter Try.func65, Try.ntmps65
  go_wp2_with (go_at_call 68; refine hh.mono ?_; rintro e w' ⟨rfl, rfl⟩)
  all_goals go_ret
  all_goals exact ⟨_, rfl, (Below.refl _ _).alloc (Nat.le_refl _) _, own_lit w _ 1 2 _ (by unfold maxLen; omega) rfl⟩
theorem put4_calls (n : Int) (w : World) (h : Sp.is32 n = true) :
    Calls Try.prog 130 #[.int .i64 n] w (Gives w 5 1 4 (bs (Sp.put4 n))) := by
  have h' := h
  simp [Sp.is32] at h'
  obtain ⟨h0, h1⟩ := h'
  clear h
  go_enter Try.func130, Try.ntmps130
  go_wp2
  all_goals go_ret
  all_goals exact ⟨_, rfl, (Below.refl _ _).alloc (Nat.le_refl _) _, own_lit w _ 1 4 _ (by unfold maxLen; omega) rfl⟩

theorem get2_calls (A : Option Addr) (c B : Nat) (x y : Int) (w : World) (hx : Sp.IsByte x) (hy : Sp.IsByte y) (h : Rd w B A (bs [x, y])) :
    Calls Try.prog 75 #[.slice A 2 c] w fun e w' => e = .returned (.tuple #[.int .i64 (Sp.get2 x y), .bool true]) ∧ ∃ n, w' = w.drewN n := by
  obtain ⟨b, off, rfl, hb, hc⟩ := h (by simp [bs])
  have c0 : w.cell? ⟨b, off, none⟩ = some (.int .u8 x) := hc 0 _ rfl
  have c1 : w.cell? ⟨b, off + 1, none⟩ = some (.int .u8 y) := hc 1 _ rfl
  unfold Sp.IsByte at hx hy
  obtain ⟨hx0, hx1⟩ := hx
  obtain ⟨hy0, hy1⟩ := hy
  clear hc h
  go_enter Try.func75, Try.ntmps75
  go_wp2
  go_quiet (fail)
  go_wp2
  go_ret2
  exact ⟨by rw [Sp.bits_or_256 _ _ (by omega) (by omega)]; rfl, nq, rfl⟩

theorem get4_bits (x y z u : Int) (hx0 : 0 ≤ x) (hx1 : x ≤ 255) (hy0 : 0 ≤ y) (hy1 : y ≤ 255) (hz0 : 0 ≤ z) (hz1 : z ≤ 255) (hu0 : 0 ≤ u) (hu1 : u ≤ 255) :
    wrap64 (wrap32 (bits BinOp.or IntKind.u32 (bits BinOp.or IntKind.u32 (bits BinOp.or IntKind.u32 (x * 16777216) (y * 65536)) (z * 256)) u)) = Sp.get4 x y z u := by
  have hw : ∀ n : Int, 0 ≤ n → n < 2 ^ 32 → IntKind.u32.wrap n = n := fun n h0 h1 => by rw [IntKind.wrap_u32]; omega
  rw [bits_join .u32 32 (by decide) hw 24 (x * 16777216) (y * 65536) (by omega) (by omega) (by omega) (by omega) (by omega) (by omega),
    bits_join .u32 32 (by decide) hw 16 (x * 16777216 + y * 65536) (z * 256) (by omega) (by omega) (by omega) (by omega) (by omega) (by omega),
    bits_join .u32 32 (by decide) hw 8 (x * 16777216 + y * 65536 + z * 256) u (by omega) (by omega) (by omega) (by omega) (by omega) (by omega)]
  unfold wrap64 wrap32 Sp.get4
  simp only
  split <;> omega

theorem get4_calls (A : Option Addr) (c B : Nat) (x y z u : Int) (w : World) (hx : Sp.IsByte x) (hy : Sp.IsByte y) (hz : Sp.IsByte z) (hu : Sp.IsByte u) (h : Rd w B A (bs [x, y, z, u])) :
    Calls Try.prog 135 #[.slice A 4 c] w fun e w' => e = .returned (.tuple #[.int .i64 (Sp.get4 x y z u), .bool true]) ∧ ∃ n, w' = w.drewN n := by
  obtain ⟨b, off, rfl, hb, hc⟩ := h (by simp [bs])
  have c0 : w.cell? ⟨b, off, none⟩ = some (.int .u8 x) := hc 0 _ rfl
  have c1 : w.cell? ⟨b, off + 1, none⟩ = some (.int .u8 y) := hc 1 _ rfl
  have c2 : w.cell? ⟨b, off + 2, none⟩ = some (.int .u8 z) := hc 2 _ rfl
  have c3 : w.cell? ⟨b, off + 3, none⟩ = some (.int .u8 u) := hc 3 _ rfl
  unfold Sp.IsByte at hx hy hz hu
  obtain ⟨hx0, hx1⟩ := hx
  obtain ⟨hy0, hy1⟩ := hy
  obtain ⟨hz0, hz1⟩ := hz
  obtain ⟨hu0, hu1⟩ := hu
  clear hc h
  go_enter Try.func135, Try.ntmps135
  go_wp2
  all_goals go_quiet (fail)
  all_goals go_wp2
  all_goals go_ret2
  all_goals exact ⟨by rw [get4_bits x y z u hx0 hx1 hy0 hy1 hz0 hz1 hu0 hu1]; rfl, nq, rfl⟩
end Go.Proofs.Ytgdlombjhbfbiaa
