/-
  Arguments opened: numbers in an array, chunks of cells, bytes in a slice.
-/
import Derived.Test.YtgdlombjhbfbiaaApp
import Derived.ProofKit
import Derived.OpenShut
import Derived.Deep.Slices
namespace Go.Proofs.Ytgdlombjhbfbiaa
set_option linter.unusedVariables false
set_option linter.unusedSimpArgs false
open Go.RowKit Go.ChangeShapes Go.WideShapes

theorem chunks_of {α : Type} (f : α → List Value) (m : Nat) (q : α → Prop) : ∀ (n : Nat) (l : List Value), l.length = n * m → (∀ i, i < n → ∃ x, (l.drop (i * m)).take m = f x ∧ q x) →
    ∃ xs : List α, l = xs.flatMap f ∧ xs.length = n ∧ ∀ x ∈ xs, q x
  | 0, l, h, _ => ⟨[], by simpa using h, rfl, by simp⟩
  | n + 1, l, h, hi => by
    obtain ⟨x, hx, hq⟩ := hi 0 (by omega)
    rw [Nat.zero_mul, List.drop_zero] at hx
    obtain ⟨xs, e, hl, ha⟩ := chunks_of f m q n (l.drop m) (by rw [List.length_drop, h, Nat.succ_mul]; omega) (fun i hi' => by
      obtain ⟨y, hy, hqy⟩ := hi (i + 1) (by omega)
      refine ⟨y, ?_, hqy⟩
      rw [List.drop_drop, ← hy, Nat.succ_mul, Nat.add_comm])
    refine ⟨x :: xs, ?_, by simp [hl], ?_⟩
    · rw [List.flatMap_cons, ← hx, ← e, List.take_append_drop]
    · intro y hy
      rcases List.mem_cons.1 hy with rfl | hy
      · exact hq
      · exact ha y hy

section
variable {H : Type} {enc : TypeId × Value → H} {P : Program} {w : World} {base : Nat} {spare : Nat → Bool} {held : Bool} {fuel : Nat}

/-- An array of numbers. -/
theorem trod_ints {t e : TypeId} {n : Nat} {k : IntKind} {cs : List Value} {x : DataW H × List MemPlace} (ht : P.underlying t = some (.array n e)) (he : P.underlying e = some (.int k)) (hc : P.cellsOf e = 1) (hn : P.cellsOf t = n)
    (h : DataW.trod enc P w base spare held fuel t cs = some x) : ∃ zs : List Int, cs = zs.map (Value.int k) ∧ zs.length = n ∧ ∀ z ∈ zs, (Lit.int k z).wf = true := by
  obtain ⟨xs, m, _, _, hl, hxl, hi⟩ := DataW.trod_array ht h
  obtain ⟨zs, e1, e2, e3⟩ := chunks_of (fun z : Int => [Value.int k z]) 1 (fun z => (Lit.int k z).wf = true) n cs (by rw [hl, hn, Nat.mul_one]) (fun i hin => by
    have h1 := hi i hin
    rw [hc] at h1
    rw [List.getElem?_eq_getElem (by omega)] at h1
    obtain ⟨z, hz, _, hw⟩ := DataW.trod_int he h1
    exact ⟨z, hz, hw⟩)
  exact ⟨zs, e1.trans (List.map_eq_flatMap ..).symm, e2, e3⟩

/-- Bytes in a slice. -/
theorem trod_bytes {t e : TypeId} {cs : List Value} {x : DataW H × List MemPlace} (ht : P.underlying t = some (.slice e)) (he : P.underlying e = some (.int .u8)) (hc : P.cellsOf e = 1)
    (h : DataW.trod enc P w base spare held fuel t cs = some x) : ∃ (A : Option Addr) (c : Nat) (l : List Int), cs = [.slice A l.length c] ∧ (∀ z ∈ l, 0 ≤ z ∧ z ≤ 255) ∧ RdW w A (bs l) ∧ l.length ≤ c ∧ c ≤ maxLen := by
  rcases open_ints ht he hc h with ⟨rfl, _⟩ | ⟨a, len, cap, zs, rfl, _, hl, hm, hz, _, hcell, hwz⟩
  · exact ⟨none, 0, [], rfl, by simp, Rd.nil _ _ _, Nat.le_refl _, Nat.zero_le _⟩
  · have hle : len ≤ zs.length := by rw [hz]; split <;> omega
    have htl : (zs.take len).length = len := by rw [List.length_take]; omega
    refine ⟨some a, cap, zs.take len, by rw [htl], fun z hzm => bounds_u8 (hwz z (List.mem_of_mem_take hzm)), fun hn => ?_, by rw [htl]; exact hl, hm⟩
    have h0 : 0 < len := by
      rcases Nat.eq_zero_or_pos len with h0 | h0
      · subst h0; simp [bs] at hn
      · exact h0
    obtain ⟨b, off, spot⟩ := a
    have hc0 := hcell 0 (by omega)
    have hsp : spot = none := by
      have := World.cell?_spot hc0
      simpa [Addr.add] using this
    subst hsp
    have hat : ∀ j, (⟨b, off, none⟩ : Addr).add j = ⟨b, off + j, none⟩ := fun j => by unfold Addr.add; split <;> simp_all
    refine ⟨b, off, rfl, ?_, fun j u hu => ?_⟩
    · have := World.block_lt_of_cell? w _ hc0
      rw [hat] at this
      exact this
    · unfold bs at hu
      rw [List.getElem?_map, List.getElem?_take] at hu
      by_cases hj : j < len
      · rw [if_pos hj] at hu
        have hjz : j < zs.length := by omega
        have := hcell j hjz
        rw [hat] at this
        rw [this, ← hu, List.getElem?_eq_getElem hjz]
        simp [List.getD, List.getElem?_eq_getElem hjz]
      · rw [if_neg hj] at hu; simp at hu
end
end Go.Proofs.Ytgdlombjhbfbiaa
