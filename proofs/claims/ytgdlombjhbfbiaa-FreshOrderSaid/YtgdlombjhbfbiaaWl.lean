/-
  Walks: a frame's bytes come to a track; law 06's live question.
-/
import Derived.Test.YtgdlombjhbfbiaaWk
import Derived.Test.YtgdlombjhbfbiaaWf1
namespace Go.Proofs.Ytgdlombjhbfbiaa
set_option linter.unusedVariables false
set_option linter.unusedSimpArgs false
open Go.RowKit

theorem RdW.keep {w w' : World} {g o : Nat} {xs : List Value} {S : Nat → Prop} (h : RdW w (some ⟨g, o, none⟩) xs) (k : Keep S w w') (hs : ¬ S g) : RdW w' (some ⟨g, o, none⟩) xs := fun hn => by
  obtain ⟨b, off, e, hb, hc⟩ := h hn
  cases e
  exact ⟨g, o, rfl, Nat.lt_of_lt_of_le hb k.size, fun j v hv => (k.cell (p := ⟨g, o + j, none⟩) hb hs).trans (hc j v hv)⟩

theorem Take_enc (T : Trk) (t : Nat) (f : Fr) (A : Option Addr) (c : Nat) (w : World) (hf : f.right = true) (hc0 : 0 ≤ T.ch) (hc1 : T.ch < 4) (h : RdW w A (bs (encode T.ch f))) (hc : 38 ≤ c) (hcm : c ≤ maxLen)
    (hT : Bk w t 144 T.cells) (hq : T.begun = true → Sp.isSeq T.last = true) (hs : ∀ x ∈ T.counts, 0 ≤ x ∧ x < 1000000) :
    Calls Try.prog 17 #[.pointer (some ⟨t, 0, none⟩), .agg #[.bool true, .slice A 38 c]] w fun e w' =>
      e = .returned (.tuple #[.agg (if T.fits f = true then f else Fr.zero).cells, .int .i64 (if T.fits f = true then 0 else 6)]) ∧ Keep (fun i => i = t) w w' ∧ Bk w' t 144 ((T.seen f).bump (if T.fits f = true then 0 else 6)).cells := by
  have := Take_calls T t true A 38 c (encode T.ch f) w (encode_bytes _ _ hc0 hc1 hf) h (encode_length _ _) hc hcm hT hq hs
  have e1 := step_encode T f hf
  unfold Trk.take at this
  rw [e1] at this
  by_cases hfit : T.fits f = true
  · rw [if_pos hfit] at this ⊢
    rw [if_pos hfit, if_pos hfit]
    exact this
  · rw [if_neg hfit] at this ⊢
    rw [if_neg hfit, if_neg hfit]
    exact this
theorem Take_none (T : Trk) (t : Nat) (w : World) (hT : Bk w t 144 T.cells) (hq : T.begun = true → Sp.isSeq T.last = true) (hs : ∀ x ∈ T.counts, 0 ≤ x ∧ x < 1000000) :
    Calls Try.prog 17 #[.pointer (some ⟨t, 0, none⟩), .agg #[.bool false, .slice none 0 0]] w fun e w' =>
      e = .returned (.tuple #[.agg Fr.zero.cells, .int .i64 1]) ∧ Keep (fun i => i = t) w w' ∧ Bk w' t 144 (T.bump 1).cells := by
  have := Take_calls T t false none 0 0 [] w (fun x hx => by simp at hx) (Rd.nil _ _ _) rfl (Nat.le_refl _) (Nat.zero_le _) hT hq hs
  unfold Trk.take at this
  rw [step_absent] at this
  exact this

def f1 : Fr := ⟨65535, 0, 0, 0, 0, 0, 0, 0, 0⟩
def f2 : Fr := ⟨0, 0, 0, 0, 9, 0, 0, 0, 0⟩
def a0 : Trk := ⟨1, 0, false, 0, 0, 0, 0, 0, 0, 0⟩
def a1 : Trk := ⟨1, 65535, true, 1, 0, 0, 0, 0, 0, 0⟩
def a2 : Trk := ⟨1, 65535, true, 1, 1, 0, 0, 0, 0, 0⟩
def a3 : Trk := ⟨1, 0, true, 2, 1, 0, 0, 0, 0, 0⟩
def a4 : Trk := ⟨1, 0, true, 2, 1, 0, 0, 0, 0, 1⟩

section
variable (t : Nat) (A : Option Addr) (c : Nat) (w : World) (hc : 38 ≤ c) (hcm : c ≤ maxLen)
include hc hcm
theorem al1 (h : RdW w A (bs (encode 1 f1))) (hT : Bk w t 144 a0.cells) :
    Calls Try.prog 17 #[.pointer (some ⟨t, 0, none⟩), .agg #[.bool true, .slice A 38 c]] w fun e w' =>
      e = .returned (.tuple #[.agg #[.int .i64 65535, .int .i64 0, .int .i64 0, .int .i64 0, .int .i64 0, .int .i64 0, .int .i64 0, .int .i64 0, .int .i64 0], .int .i64 0]) ∧ Keep (fun i => i = t) w w' ∧ Bk w' t 144 a1.cells :=
  Take_enc a0 t f1 A c w (by decide) (by decide) (by decide) h hc hcm hT (by decide) (by decide)
theorem al3 (h : RdW w A (bs (encode 1 f2))) (hT : Bk w t 144 a2.cells) :
    Calls Try.prog 17 #[.pointer (some ⟨t, 0, none⟩), .agg #[.bool true, .slice A 38 c]] w fun e w' =>
      e = .returned (.tuple #[.agg #[.int .i64 0, .int .i64 0, .int .i64 0, .int .i64 0, .int .i64 9, .int .i64 0, .int .i64 0, .int .i64 0, .int .i64 0], .int .i64 0]) ∧ Keep (fun i => i = t) w w' ∧ Bk w' t 144 a3.cells :=
  Take_enc a2 t f2 A c w (by decide) (by decide) (by decide) h hc hcm hT (by decide) (by decide)
theorem al4 (h : RdW w A (bs (encode 1 f2))) (hT : Bk w t 144 a3.cells) :
    Calls Try.prog 17 #[.pointer (some ⟨t, 0, none⟩), .agg #[.bool true, .slice A 38 c]] w fun e w' =>
      e = .returned (.tuple #[.agg #[.int .i64 0, .int .i64 0, .int .i64 0, .int .i64 0, .int .i64 0, .int .i64 0, .int .i64 0, .int .i64 0, .int .i64 0], .int .i64 6]) ∧ Keep (fun i => i = t) w w' ∧ Bk w' t 144 a4.cells :=
  Take_enc a3 t f2 A c w (by decide) (by decide) (by decide) h hc hcm hT (by decide) (by decide)
end
theorem al2 (t : Nat) (w : World) (hT : Bk w t 144 a1.cells) :
    Calls Try.prog 17 #[.pointer (some ⟨t, 0, none⟩), .agg #[.bool false, .slice none 0 0]] w fun e w' =>
      e = .returned (.tuple #[.agg #[.int .i64 0, .int .i64 0, .int .i64 0, .int .i64 0, .int .i64 0, .int .i64 0, .int .i64 0, .int .i64 0, .int .i64 0], .int .i64 1]) ∧ Keep (fun i => i = t) w w' ∧ Bk w' t 144 a2.cells :=
  Take_none a1 t w hT (by decide) (by decide)
end Go.Proofs.Ytgdlombjhbfbiaa
