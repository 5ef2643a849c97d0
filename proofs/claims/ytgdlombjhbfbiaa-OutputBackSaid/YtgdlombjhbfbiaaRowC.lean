/-
  Whole values loaded and made in an operation that stands behind a guard.
-/
import Derived.Test.YtgdlombjhbfbiaaRowB
namespace Go.Proofs.Ytgdlombjhbfbiaa
set_option linter.unusedVariables false
set_option linter.unusedSimpArgs false
open Go.RowKit

section
variable {P : Program} {ops : Array Oper} {rest : List Oper} {o : Oper} {a : Act} {w : World} {K : Act → World → Prop} {Q : Exit → Act → World → Prop}
theorem wpList_wanted (hgd : Region.wanted o (yielded ops a.tmps) = true) (h : ∀ K : Act → World → Prop, (∀ a w, wpList P ops Q rest a w → K a w) → o.wp P a w K Q) : wpList P ops Q (o :: rest) a w :=
  wpList_step fun K hK => by rw [if_pos hgd]; exact h K hK
theorem wpList_get_g (hgd : Region.wanted o (yielded ops a.tmps) = true) (ty : TypeId) (x : Operand) (ho : o.op = .load ty x)
    (g off n : Nat) (hx : a.eval x = .pointer (some ⟨g, off, none⟩)) (t : TypeId) (cs cells : Array Value) (hg : Bk w g t cs) (hc : cs.extract off (off + n) = cells) (hn : cells.size = n)
    (d : TypeDesc) (hu : P.underlying ty = some d) (hd : d.isRow = true) (hi : (P.info? ty).map (·.size) = some n)
    (h : wpList P ops Q rest (a.put o.dst (.agg cells)) w) : wpList P ops Q (o :: rest) a w := by
  subst hc
  refine wpList_wanted hgd fun _ hK => wp_load_mid ty x ho g off hx (cs.extract off (off + n)).toList d (World.rangeAt_of_block hg off n) hu hd ?_ (hK _ _ ?_)
  · rw [hi]; simp only [Array.length_toList]; rw [hn]
  · rw [Array.toArray_toList]; exact h
theorem wpList_zero_g (hgd : Region.wanted o (yielded ops a.tmps) = true) (t : TypeId) (ho : o.op = .build t #[]) (cs : Array Value) (hb : P.built t [] = some cs)
    (h : wpList P ops Q rest (a.put o.dst (.agg cs)) w) : wpList P ops Q (o :: rest) a w := by
  refine wpList_wanted hgd fun _ hK => ?_
  have hr : (Instr.build t #[]).run P w = .ok (.agg cs) w := run_build w t #[] cs hb
  unfold Oper.wp execOp
  simp only [ho, Sem.run_bind, List.map_toArray, List.map_nil, hr, Result.andThen_ok]
  exact hK _ _ h
end
end Go.Proofs.Ytgdlombjhbfbiaa
