/-
  Walks: is any number of a list such a one; frames that may be.
-/
import Derived.Test.YtgdlombjhbfbiaaWe
import Derived.Deep.RegionHeld3
namespace Go.Proofs.Ytgdlombjhbfbiaa
set_option linter.unusedVariables false
set_option linter.unusedSimpArgs false
open Go.RowKit

/-- A function value that tells of each number whether it is such a one. -/
def Tells (P : Program) (gf : FuncId) (p : Int → Bool) : Prop :=
  (∀ args w, (callFunc gf args).run P w = .ok (.enter gf args) w) ∧ ∀ (x : Int) (W : World), Calls P gf #[.int .i64 x] W fun e W' => e = .returned (.bool (p x)) ∧ W = W'

theorem indexFunc_calls (gf : FuncId) (p : Int → Bool) (hp : Tells Try.prog gf p) (A : Option Addr) (c : Nat) (l : List Int) (B : Nat) (w : World) (h : Rd w B A (is_ l)) (hlen : l.length ≤ 1000000) :
    Calls Try.prog 138 #[.slice A l.length c, .func (.func gf) #[] #[]] w fun e w' => ∃ r : Int, e = .returned (.int .i64 r) ∧ decide (0 ≤ r) = l.any p ∧ w = w' := by
  obtain ⟨eg, hp⟩ := hp
  go_enter Try.func138, Try.ntmps138
  go_wp2_with fail
  go_loop [8] (fun i => ∃ k : Nat, k ≤ l.length ∧ i = .int .i64 k ∧ (l.take k).any p = false) (fun i => l.length - (intOf i).toNat)
  case atStart => exact ⟨0, Nat.zero_le _, rfl, rfl⟩
  case round =>
    obtain ⟨k, hk, rfl, hpre⟩ := hrel
    have HP := Lib.hid hpre
    clear hpre
    by_cases hlt : k < l.length
    · obtain ⟨x, hx⟩ : ∃ x, l[k]? = some x := ⟨_, List.getElem?_eq_getElem hlt⟩
      obtain ⟨b, off, rfl, hbb, hcx⟩ := h.at_ (k := k) (u := .int .i64 x) (by simp [is_, hx])
      have hpx := hp x w
      have HX := Lib.hid hx
      have HPP := Lib.hid hp
      clear hx h hp
      go_wp2_with fail
      refine hpx.mono ?_
      rintro e w1 ⟨rfl, rfl⟩
      cases hb : p x with
      | true =>
        have HB := Lib.hid hb
        clear hb
        go_wp2_with fail
        go_ret
        refine ⟨k, rfl, ?_, rfl⟩
        rw [decide_eq_true (by omega)]
        symm
        rw [List.any_eq_true]
        exact ⟨x, List.mem_of_getElem? HX.out, HB.out⟩
      | false =>
        have HB := Lib.hid hb
        clear hb
        go_wp2_with fail
        go_round
        case rel => exact ⟨k + 1, by omega, by go_num, by rw [List.take_add_one, HX.out, List.any_append, HP.out]; simp [HB.out]⟩
        case measure => simp [intOf]; omega
    · obtain rfl : k = l.length := by omega
      go_wp2_with fail
      go_ret
      refine ⟨-1, rfl, ?_, rfl⟩
      have := HP.out
      rw [List.take_of_length_le (Nat.le_refl _)] at this
      rw [this]; rfl

theorem containsFunc_calls (gf : FuncId) (p : Int → Bool) (hp : Tells Try.prog gf p) (A : Option Addr) (c : Nat) (l : List Int) (B : Nat) (w : World) (h : Rd w B A (is_ l)) (hlen : l.length ≤ 1000000) :
    Calls Try.prog 86 #[.slice A l.length c, .func (.func gf) #[] #[]] w fun e w' => e = .returned (.bool (l.any p)) ∧ w = w' := by
  have hi := indexFunc_calls gf p hp A c l B w h hlen
  clear hp
  go_enter Try.func86, Try.ntmps86
  go_wp2_with fail
  refine hi.mono ?_
  rintro e w1 ⟨r, rfl, hr, rfl⟩
  have HR := Lib.hid hr
  clear hr hi
  go_wp2_with fail
  go_ret
  exact ⟨by rw [← HR.out]; rfl, rfl⟩

/-- A frame: its number, and the values of all signals. -/
structure Fr where
  seq : Int
  v0 : Int
  v1 : Int
  v2 : Int
  v3 : Int
  v4 : Int
  v5 : Int
  v6 : Int
  v7 : Int
def Fr.vals (f : Fr) : List Int := [f.v0, f.v1, f.v2, f.v3, f.v4, f.v5, f.v6, f.v7]
def Fr.cells (f : Fr) : Array Value := #[.int .i64 f.seq, .int .i64 f.v0, .int .i64 f.v1, .int .i64 f.v2, .int .i64 f.v3, .int .i64 f.v4, .int .i64 f.v5, .int .i64 f.v6, .int .i64 f.v7]
def Fr.right (f : Fr) : Bool := Sp.isSeq f.seq && f.vals.all Sp.is32
def Fr.zero : Fr := ⟨0, 0, 0, 0, 0, 0, 0, 0, 0⟩

theorem frWrong_calls (x : Int) (W : World) : Calls Try.prog 126 #[.int .i64 x] W fun e W' => e = .returned (.bool (!Sp.is32 x)) ∧ W = W' := by
  by_cases h1 : x < -2147483648
  · go_enter Try.func126, Try.ntmps126
    go_wp2
    go_ret
    exact ⟨by simp [Sp.is32]; omega, rfl⟩
  · by_cases h2 : 2147483647 < x
    · go_enter Try.func126, Try.ntmps126
      go_wp2
      go_ret
      exact ⟨by simp [Sp.is32]; omega, rfl⟩
    · go_enter Try.func126, Try.ntmps126
      go_wp2
      go_ret
      exact ⟨by simp [Sp.is32]; omega, rfl⟩
theorem frWrong_tells : Tells Try.prog 126 (fun x => !Sp.is32 x) := ⟨enters_ Try.func126 (by kernel_rfl) rfl, frWrong_calls⟩

theorem Fr.rd (f : Fr) (w : World) (t : TypeId) : Rd (w.alloc (.cells f.cells t)) (w.heap.size + 1) (some ⟨w.heap.size, 1, none⟩) (is_ f.vals) := fun _ =>
  ⟨w.heap.size, 1, rfl, Nat.lt_succ_self _, fun j u hu => by
    rw [cell_of_row _ _ (1 + j) _ t (0, 0) (heap_alloc_new w _), Nat.add_comm]
    have : (f.cells)[j + 1]? = (is_ f.vals)[j]? := by simp [Fr.cells, is_, Fr.vals]
    rw [this]; exact hu⟩

theorem frRight_calls (f : Fr) (w : World) :
    Calls Try.prog 62 #[.agg f.cells] w fun e w' => e = .returned (.bool f.right) ∧ Below w.heap.size w w' := by
  have hcf := containsFunc_calls 126 (fun x => !Sp.is32 x) frWrong_tells (some ⟨w.heap.size, 1, none⟩) 8 f.vals (w.heap.size + 1) _ (f.rd w 25) (by simp [Fr.vals])
  have hany : f.vals.any (fun x => !Sp.is32 x) = !f.vals.all Sp.is32 := by simp [List.all_eq_not_any_not]
  rw [hany] at hcf
  unfold Fr.right Sp.isSeq
  unfold Fr.cells at hcf ⊢
  obtain ⟨q, hq⟩ : ∃ q, f.vals.all Sp.is32 = q := ⟨_, rfl⟩
  rw [hq] at hcf ⊢
  clear hany hq
  by_cases h1 : 0 ≤ f.seq
  · by_cases h2 : f.seq < 65536
    · go_enter Try.func62, Try.ntmps62
      go_wp2_with (go_at_call 86; refine hcf.mono ?_; rintro e w1 ⟨rfl, rfl⟩)
      go_ret
      exact ⟨by simp [h1, h2], (Below.refl _ w).alloc (Nat.le_refl _) _⟩
    · go_enter Try.func62, Try.ntmps62
      go_wp2_with fail
      go_ret
      exact ⟨by simp; omega, (Below.refl _ w).alloc (Nat.le_refl _) _⟩
  · go_enter Try.func62, Try.ntmps62
    go_wp2_with fail
    go_ret
    exact ⟨by simp; omega, (Below.refl _ w).alloc (Nat.le_refl _) _⟩

def encode (ch : Int) (f : Fr) : List Int := Sp.withSum ([165, ch] ++ Sp.put2 f.seq ++ Sp.putAll f.vals)
theorem encode_length (ch : Int) (f : Fr) : (encode ch f).length = 38 := by
  unfold encode
  rw [Sp.withSum_length, List.length_append, List.length_append, Sp.putAll_length]
  rfl

end Go.Proofs.Ytgdlombjhbfbiaa
