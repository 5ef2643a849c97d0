/-
  Walks: bits of masks; statuses as words.
-/
import Derived.Test.YtgdlombjhbfbiaaWa
import Derived.Test.YtgdlombjhbfbiaaRow
import Derived.Test.YtgdlombjhbfbiaaSpecD
namespace Go.Proofs.Ytgdlombjhbfbiaa
set_option linter.unusedVariables false
set_option linter.unusedSimpArgs false
open Go.RowKit

theorem fixRight_calls (n : Int) (w : World) :
    Calls Try.prog 166 #[.int .i64 n] w fun e w' => e = .returned (.bool (Sp.isSeq n)) ∧ w = w' := by
  go_enter Try.func166, Try.ntmps166
  go_wp2
  all_goals go_ret
  all_goals exact ⟨by simp [Sp.isSeq, *] <;> omega, rfl⟩

theorem fixHas_calls (m i : Int) (w : World) :
    Calls Try.prog 136 #[.int .i64 m, .int .i64 i] w fun e w' => e = .returned (.bool (Sp.has m i)) ∧ w = w' := by
  have hr := fixRight_calls m w
  have hb := Sp.bits_and_1 (m / 2 ^ i.toNat)
  by_cases h1 : 0 ≤ m ∧ m < 65536
  · have hs : Sp.isSeq m = true := by simp [Sp.isSeq, h1.1, h1.2]
    rw [hs] at hr
    by_cases h2 : 0 ≤ i
    · by_cases h3 : i < 16
      · have hh : Sp.has m i = (m / 2 ^ i.toNat % 2 == 1) := by
          unfold Sp.has
          rw [decide_eq_true h1.1, decide_eq_true h1.2, decide_eq_true h2, decide_eq_true h3]
          simp only [Bool.true_and]
          rw [Bool.eq_iff_iff]; simp
        rw [hh]
        have HS := Lib.hid hs
        clear hs hh h1
        go_enter Try.func136, Try.ntmps136
        go_wp2_with (go_at_call 166; refine hr.mono ?_; rintro e w' ⟨rfl, rfl⟩)
        go_ret
        exact ⟨rfl, rfl⟩
      · have hh : Sp.has m i = false := by unfold Sp.has; rw [decide_eq_false h3]; simp
        rw [hh]
        clear hh hb hs
        go_enter Try.func136, Try.ntmps136
        go_wp2_with (go_at_call 166; refine hr.mono ?_; rintro e w' ⟨rfl, rfl⟩)
        go_ret
        exact ⟨rfl, rfl⟩
    · have hh : Sp.has m i = false := by unfold Sp.has; rw [decide_eq_false h2]; simp
      rw [hh]
      clear hh hb hs
      go_enter Try.func136, Try.ntmps136
      go_wp2_with (go_at_call 166; refine hr.mono ?_; rintro e w' ⟨rfl, rfl⟩)
      go_ret
      exact ⟨rfl, rfl⟩
  · have hs : Sp.isSeq m = false := by simp [Sp.isSeq]; omega
    have hh : Sp.has m i = false := by
      unfold Sp.has
      by_cases h0 : 0 ≤ m
      · rw [decide_eq_false (by omega : ¬ m < 65536)]; simp
      · rw [decide_eq_false h0]; simp
    rw [hs] at hr
    rw [hh]
    clear hh hb hs h1
    go_enter Try.func136, Try.ntmps136
    go_wp2_with (go_at_call 166; refine hr.mono ?_; rintro e w' ⟨rfl, rfl⟩)
    go_ret
    exact ⟨rfl, rfl⟩

def Sp.St.cells (x : Sp.St) : Array Value := #[.int .i64 x.i, .int .i64 x.l, .int .i64 x.s, .bool x.f]
def mask15 (n : Int) : Bool := decide (0 ≤ n) && decide (n ≤ 15)

theorem masked_calls (n : Int) (w : World) :
    Calls Try.prog 137 #[.int .i64 n] w fun e w' => e = .returned (.bool (mask15 n)) ∧ w = w' := by
  go_enter Try.func137, Try.ntmps137
  go_wp2
  all_goals go_ret
  all_goals exact ⟨by simp [mask15, *] <;> omega, rfl⟩

/-- The suspect may be. -/
def Sp.St.sus (x : Sp.St) : Bool := x.s == -1 || decide (0 ≤ x.s) && decide (x.s < 4) && Sp.has x.i x.s
theorem Sp.St.right_form (x : Sp.St) : x.right = (mask15 x.i && mask15 x.l && (x.f == (x.i == 0)) && x.sus) := by
  unfold Sp.St.right mask15 Sp.St.sus
  simp only [Bool.and_assoc]

theorem stRight_calls (x : Sp.St) (w : World) :
    Calls Try.prog 85 #[.agg x.cells] w fun e w' => e = .returned (.bool x.right) ∧ w.alloc (.cells x.cells 47) = w' := by
  rw [Sp.St.right_form]
  unfold Sp.St.cells Sp.St.sus
  have h1 := Lib.hid (fun W => masked_calls x.i W)
  have h2 := Lib.hid (fun W => masked_calls x.l W)
  have h3 := Lib.hid (fun W => fixHas_calls x.i x.s W)
  obtain ⟨b1, e1⟩ : ∃ b, mask15 x.i = b := ⟨_, rfl⟩
  obtain ⟨b2, e2⟩ : ∃ b, mask15 x.l = b := ⟨_, rfl⟩
  obtain ⟨b3, e3⟩ : ∃ b, Sp.has x.i x.s = b := ⟨_, rfl⟩
  rw [e1] at h1 ⊢
  rw [e2] at h2 ⊢
  rw [e3] at h3 ⊢
  clear e1 e2 e3
  go_enter Try.func85, Try.ntmps85
  go_wp2_with (first
    | (go_at_call 136; refine (h3.out _).mono ?_; rintro e w' ⟨rfl, rfl⟩)
    | (go_at_call 137; first | (with_reducible refine (h1.out _).mono ?_; rintro e w' ⟨rfl, rfl⟩) | (with_reducible refine (h2.out _).mono ?_; rintro e w' ⟨rfl, rfl⟩)))
  all_goals go_ret
  all_goals exact ⟨by simp [*] <;> intros <;> omega, by simp [*]⟩

theorem St_word_or {i l q : Int} (hi : 0 ≤ i ∧ i ≤ 15) (hl : 0 ≤ l ∧ l ≤ 15) (hq : 0 ≤ q ∧ q ≤ 7) :
    bits .or .i64 i (l * 16) = i + l * 16 ∧ bits .or .i64 (i + l * 16) (q * 256) = i + l * 16 + q * 256 ∧ bits .or .i64 (i + l * 16 + q * 256) 2048 = i + l * 16 + q * 256 + 2048 := by
  have comm : ∀ a b : Int, bits .or .i64 a b = bits .or .i64 b a := fun a b => by
    show IntKind.i64.wrap ((BitVec.ofInt 64 a ||| BitVec.ofInt 64 b).toNat : Nat) = IntKind.i64.wrap ((BitVec.ofInt 64 b ||| BitVec.ofInt 64 a).toNat : Nat)
    rw [BitVec.or_comm]
  refine ⟨?_, ?_, ?_⟩
  · rw [comm, Sp.bits_or_at 4 (l * 16) i (by omega) (by omega) (by omega) (by omega) (by omega) (by omega)]; omega
  · rw [comm, Sp.bits_or_at 8 (q * 256) (i + l * 16) (by omega) (by omega) (by omega) (by omega) (by omega) (by omega)]; omega
  · rw [comm, Sp.bits_or_at 11 2048 (i + l * 16 + q * 256) (by omega) (by omega) (by omega) (by omega) (by omega) (by omega)]; omega

theorem stWord_no (x : Sp.St) (w : World) (h : x.right = false) :
    Calls Try.prog 132 #[.agg x.cells] w fun e w' => e = .returned (.tuple #[.int .i64 0, .int .i64 1]) ∧ Ext w w' := by
  have hr := fun W => stRight_calls x W
  rw [h] at hr
  have HR := Lib.hid hr
  clear h hr
  unfold Sp.St.cells at HR ⊢
  go_enter Try.func132, Try.ntmps132
  go_wp2_with (go_at_call 85; refine (HR.out _).mono ?_; rintro e w' ⟨rfl, rfl⟩)
  go_ret2
  exact ⟨rfl, ((Ext.refl w).alloc _).alloc _⟩

theorem stWord_yes (x : Sp.St) (w : World) (h : x.right = true) :
    Calls Try.prog 132 #[.agg x.cells] w fun e w' => e = .returned (.tuple #[.int .i64 x.word, .int .i64 0]) ∧ Ext w w' := by
  have hr := fun W => stRight_calls x W
  rw [h] at hr
  have HR := Lib.hid hr
  rw [Sp.St.right_iff] at h
  obtain ⟨a, b, c, d, e, h⟩ := h
  obtain ⟨q, hq, q0, q1⟩ : ∃ q : Int, (if x.s < 0 then 7 else x.s) = q ∧ 0 ≤ q ∧ q ≤ 7 := by refine ⟨_, rfl, ?_⟩; split <;> omega
  obtain ⟨o1, o2, o3⟩ := St_word_or ⟨a, b⟩ ⟨c, d⟩ ⟨q0, q1⟩
  obtain ⟨i, l, s, f⟩ := x
  dsimp only at a b c d e h hq o1 o2 o3
  have hw : (Sp.St.mk i l s f).word = i + l * 16 + q * 256 + (if f = true then 2048 else 0) := by unfold Sp.St.word; dsimp only; rw [hq]
  rw [hw]
  have HQ := Lib.hid hq
  have hs : -1 ≤ s ∧ s < 4 := by omega
  clear e h hr hw hq
  unfold Sp.St.cells at HR ⊢
  dsimp only at HR ⊢
  by_cases hs0 : s < 0
  · obtain rfl : q = 7 := by have := HQ.out; rw [if_pos hs0] at this; omega
    simp only [Int.reduceMul] at o2 o3 ⊢
    cases f
    all_goals (
      go_enter Try.func132, Try.ntmps132
      go_wp2_with (go_at_call 85; refine (HR.out _).mono ?_; rintro e w' ⟨rfl, rfl⟩)
      go_ret2
      exact ⟨by simp, ((Ext.refl w).alloc _).alloc _⟩)
  · obtain rfl : q = s := by have := HQ.out; rw [if_neg hs0] at this; omega
    have hs1 : 0 ≤ q := by omega
    cases f
    all_goals (
      go_enter Try.func132, Try.ntmps132
      go_wp2_with (go_at_call 85; refine (HR.out _).mono ?_; rintro e w' ⟨rfl, rfl⟩)
      go_ret2
      exact ⟨by simp, ((Ext.refl w).alloc _).alloc _⟩)
theorem stParse_out (n : Int) (w : World) (h : ¬ (0 ≤ n ∧ n < 4096)) :
    Calls Try.prog 77 #[.int .i64 n] w fun e w' => e = .returned (.tuple #[.agg Sp.St.zero.cells, .int .i64 3]) ∧ Ext w w' := by
  by_cases h0 : n < 0
  · clear h
    go_enter Try.func77, Try.ntmps77
    go_wp2_with fail
    go_returns
    refine ⟨rfl, ?_⟩
    repeat (first | with_reducible exact Ext.refl w | (with_reducible refine Ext.setCell ?_ (by simp) _) | with_reducible refine Ext.alloc ?_ _)
  · have h1 : 4096 ≤ n := by omega
    clear h
    go_enter Try.func77, Try.ntmps77
    go_wp2_with fail
    go_returns
    refine ⟨rfl, ?_⟩
    repeat (first | with_reducible exact Ext.refl w | (with_reducible refine Ext.setCell ?_ (by simp) _) | with_reducible refine Ext.alloc ?_ _)

theorem stParse_in (n : Int) (b : Bool) (w : World) (h0 : 0 ≤ n) (h1 : n < 4096) (hb : (Sp.St.parts n).right = b) :
    Calls Try.prog 77 #[.int .i64 n] w fun e w' => e = .returned (.tuple #[.agg (if b = true then Sp.St.parts n else Sp.St.zero).cells, .int .i64 (if b = true then 0 else 3)]) ∧ Ext w w' := by
  have e1 := Sp.bits_and_15 n
  have e2 := Sp.bits_and_15 (n / 16)
  have e3 := Sp.bits_and_7 (n / 256)
  have hh : Sp.has n 11 = decide (2048 ≤ n) := by
    have := Sp.has_nat (m := n) (i := 11) h0 (by omega) (by decide)
    rw [show ((11 : Nat) : Int) = 11 from rfl] at this
    rw [this, Bool.eq_iff_iff]
    simp only [decide_eq_true_eq]
    rw [show ((2 : Int) ^ 11) = 2048 from rfl]
    omega
  have hf := fun W => fixHas_calls n 11 W
  rw [hh] at hf
  have HF := Lib.hid hf
  have hr := fun W => stRight_calls (Sp.St.parts n) W
  rw [hb] at hr
  clear hb hh hf
  unfold Sp.St.parts at hr ⊢
  unfold Sp.St.cells at hr ⊢
  dsimp only at hr
  obtain ⟨p0, g0⟩ : ∃ p, n % 16 = p := ⟨_, rfl⟩
  obtain ⟨p1, g1⟩ : ∃ p, n / 16 % 16 = p := ⟨_, rfl⟩
  obtain ⟨p2, g2⟩ : ∃ p, n / 256 % 8 = p := ⟨_, rfl⟩
  obtain ⟨p3, g3⟩ : ∃ p, decide (2048 ≤ n) = p := ⟨_, rfl⟩
  rw [g0] at e1
  rw [g1] at e2
  rw [g2] at e3
  rw [g0, g1, g2, g3] at hr
  rw [g3] at HF
  have HR := Lib.hid hr
  rw [g0, g1, g2, g3]
  clear g0 g1 g2 g3 hr
  by_cases h7 : p2 = 7
  · subst h7
    simp only [if_true] at HR ⊢
    cases b
    all_goals (
      go_enter Try.func77, Try.ntmps77
      go_wp2_with (first | (go_at_call 136; refine (HF.out _).mono ?_; rintro e w' ⟨rfl, rfl⟩) | (go_at_call 85; refine (HR.out _).mono ?_; rintro e w' ⟨rfl, rfl⟩))
      go_returns
      refine ⟨rfl, ?_⟩
      repeat (first | with_reducible exact Ext.refl w | (with_reducible refine Ext.setCell ?_ (by simp) _) | with_reducible refine Ext.alloc ?_ _))
  · simp only [if_neg h7] at HR ⊢
    cases b
    all_goals (
      go_enter Try.func77, Try.ntmps77
      go_wp2_with (first | (go_at_call 136; refine (HF.out _).mono ?_; rintro e w' ⟨rfl, rfl⟩) | (go_at_call 85; refine (HR.out _).mono ?_; rintro e w' ⟨rfl, rfl⟩))
      go_returns
      refine ⟨rfl, ?_⟩
      repeat (first | with_reducible exact Ext.refl w | (with_reducible refine Ext.setCell ?_ (by simp) _) | with_reducible refine Ext.alloc ?_ _))

/-- The status of a word, or none. -/
theorem stParse_calls (n : Int) (w : World) :
    Calls Try.prog 77 #[.int .i64 n] w fun e w' => e = .returned (.tuple #[.agg ((Sp.St.parse n).getD Sp.St.zero).cells, .int .i64 (if (Sp.St.parse n).isSome = true then 0 else 3)]) ∧ Ext w w' := by
  unfold Sp.St.parse
  by_cases h : 0 ≤ n ∧ n < 4096
  · have := stParse_in n _ w h.1 h.2 rfl
    cases hb : (Sp.St.parts n).right with
    | true => rw [hb] at this; simpa [h.1, h.2] using this
    | false => rw [hb] at this; simpa using this
  · rw [if_neg (fun e => h ⟨e.1, e.2.1⟩)]
    exact stParse_out n w h
end Go.Proofs.Ytgdlombjhbfbiaa
