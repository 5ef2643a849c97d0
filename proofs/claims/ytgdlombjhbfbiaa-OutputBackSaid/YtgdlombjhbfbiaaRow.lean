/-
  Whole values loaded, stored and handed back at once; a world behind a store under a name of its own.
-/
import Derived.Test.YtgdlombjhbfbiaaApp
import Derived.Deep.MidRow
namespace Go.Proofs.Ytgdlombjhbfbiaa
set_option linter.unusedVariables false
set_option linter.unusedSimpArgs false
open Go.RowKit

/-- Block g alone has changed; nothing is new. -/
structure Put (g : Nat) (w w' : World) : Prop where
  keep : Keep (fun i => i = g) w w'
  size : w'.heap.size = w.heap.size

section
variable {w w' w1 : World} {g : Nat} {t : TypeId} {cs : Array Value}
theorem Put.setRow (w : World) (g : Nat) (cs : Array Value) : Put g w (w.setRow g cs) :=
  ⟨⟨rfl, rfl, rfl, by simp, fun k _ hn => setRow_other w g k cs hn⟩, by simp⟩
theorem Put.bk {g' : Nat} (h : Put g w w') (hb : Bk w g' t cs) (hn : g' ≠ g) : Bk w' g' t cs := hb.kept h.keep hn
theorem Put.ext (h : Put g w w') {w0 : World} (hw : w0.heap.size ≤ g) (k : Ext w0 w) : Ext w0 w' :=
  Below.trans k (h.keep.below (Below.size k) (fun i hi e => by omega))
theorem Put.cell (h : Put g w w') {p : Addr} {v : Value} (hp : p.block ≠ g) (hc : w.cell? p = some v) : w'.cell? p = some v :=
  (h.keep.cell (World.block_lt_of_cell? w p hc) hp).trans hc
theorem Put.rd (h : Put g w w') {b o : Nat} {xs : List Value} (hr : RdW w (some ⟨b, o, none⟩) xs) (hn : b ≠ g) : RdW w' (some ⟨b, o, none⟩) xs := fun hx => by
  obtain ⟨b', o', e, hb, hc⟩ := hr hx
  cases e
  exact ⟨b, o, rfl, by rw [h.size]; exact hb, fun j v hv => h.cell (p := ⟨b, o + j, none⟩) hn (hc j v hv)⟩
end

/-- The cells behind a store from offset o on. -/
def putAt (old : Array Value) (o : Nat) (cells : Array Value) : Array Value := (old.toList.take o ++ cells.toList ++ old.toList.drop (o + cells.size)).toArray
theorem putAt_size {old : Array Value} {o : Nat} {cells : Array Value} (h : o + cells.size ≤ old.size) : (putAt old o cells).size = old.size := by
  unfold putAt; simp; omega
theorem putAt_whole {old cells : Array Value} (h : cells.size = old.size) : putAt old 0 cells = cells := by
  unfold putAt
  rw [List.take_zero, List.nil_append, List.drop_of_length_le (by simp; omega)]
  simp

section
variable {P : Program} {ops : Array Oper} {rest : List Oper} {o : Oper} {a : Act} {w : World} {K : Act → World → Prop} {Q : Exit → Act → World → Prop}

theorem run_put (g off : Nat) (ty t : TypeId) (cells old : Array Value) (hg : Bk w g t old) (hi : (P.info? ty).map (·.size) = some cells.size) (hlt : off + cells.size ≤ old.size)
    (h1 : ∀ v ∈ cells.toList, v.oneCell' = true) :
    (Instr.storeAt ty (.pointer (some ⟨g, off, none⟩)) (.agg cells)).run P w = .ok () (w.setRow g (putAt old off cells)) := by
  have hst := run_storeCells_at P g off t cells.toList 0 old w hg (by simpa using hlt) h1
  simp only [Instr.storeAt, Instr.sureAddr, Sem.run_bind, Sem.run_pure, Result.andThen_ok]
  cases hq : P.info? ty with
  | none => simp [hq] at hi
  | some i =>
    have hs : cells.size = i.size := by simp [hq] at hi; omega
    simp [storeVar, sizeOf, typeInfo, hq, Value.cells, hs] 
    rw [hst]
    unfold putAt
    simp [hs]

/-- A whole value stored. -/
theorem wp_put (ty : TypeId) (x y : Operand) (ho : o.op = .store ty x y)
    (g off : Nat) (cells : Array Value) (hx : a.eval x = .pointer (some ⟨g, off, none⟩)) (hy : a.eval y = .agg cells)
    (t : TypeId) (old : Array Value) (hg : Bk w g t old) (hi : (P.info? ty).map (·.size) = some cells.size) (hlt : off + cells.size ≤ old.size)
    (h1 : ∀ v ∈ cells.toList, v.oneCell' = true)
    (h : ∀ w', Put g w w' → Bk w' g t (putAt old off cells) → K (a.put o.dst undef) w') : o.wp P a w K Q := by
  have hr := run_put g off ty t cells old hg hi hlt h1
  unfold Oper.wp execOp
  simp only [ho, hx, hy, Sem.run_bind, Sem.run_pure, hr, Result.andThen_ok]
  exact h _ (Put.setRow w g _) (setRow_heap w g old _ t (0, 0) hg)

theorem wpList_put (hgd : o.guard = none) (ty : TypeId) (x y : Operand) (ho : o.op = .store ty x y)
    (g off : Nat) (cells : Array Value) (hx : a.eval x = .pointer (some ⟨g, off, none⟩)) (hy : a.eval y = .agg cells)
    (t : TypeId) (old : Array Value) (hg : Bk w g t old) (hi : (P.info? ty).map (·.size) = some cells.size) (hlt : off + cells.size ≤ old.size)
    (h1 : ∀ v ∈ cells.toList, v.oneCell' = true)
    (h : ∀ w', Put g w w' → Bk w' g t (putAt old off cells) → wpList P ops Q rest (a.put o.dst undef) w') : wpList P ops Q (o :: rest) a w :=
  wpList_plain hgd fun _ hK => wp_put ty x y ho g off cells hx hy t old hg hi hlt h1 fun w' h1 h2 => hK _ _ (h w' h1 h2)

/-- A whole value loaded. -/
theorem wpList_get (hgd : o.guard = none) (ty : TypeId) (x : Operand) (ho : o.op = .load ty x)
    (g off n : Nat) (hx : a.eval x = .pointer (some ⟨g, off, none⟩)) (t : TypeId) (cs cells : Array Value) (hg : Bk w g t cs) (hc : cs.extract off (off + n) = cells) (hn : cells.size = n)
    (d : TypeDesc) (hu : P.underlying ty = some d) (hd : d.isRow = true) (hi : (P.info? ty).map (·.size) = some n)
    (h : wpList P ops Q rest (a.put o.dst (.agg cells)) w) : wpList P ops Q (o :: rest) a w := by
  subst hc
  refine wpList_load_mid hgd ty x ho g off hx (cs.extract off (off + n)).toList d (World.rangeAt_of_block hg off n) hu hd ?_ ?_
  · rw [hi]; simp only [Array.length_toList]; rw [hn]
  · rw [Array.toArray_toList]; exact h
end

/-- What a function hands back that lies in a block known whole. -/
theorem run_loadVar_bk {P : Program} {w : World} {g : Nat} {t ty : TypeId} {cs : Array Value} (hg : Bk w g t cs) (d : TypeDesc) (hu : P.underlying ty = some d) (hd : d.isRow = true) (hi : (P.info? ty).map (·.size) = some cs.size) :
    (loadVar ty ⟨g, 0, none⟩).run P w = .ok (.agg cs) w := by
  refine run_loadVar_row w g t ty cs (0, 0) d hg hu ?_ hi
  cases d <;> simp_all [TypeDesc.isRow]
theorem results_bk {P : Program} {fn : Func} {p : Tmp} {ty : TypeId} {tmps : Array Value} {w : World} {g : Nat} {t : TypeId} {cs : Array Value} (h : fn.results = #[.cell p ty])
    (hp : tmps.getD p undef = .pointer (some ⟨g, 0, none⟩)) (hg : Bk w g t cs) (d : TypeDesc) (hu : P.underlying ty = some d) (hd : d.isRow = true) (hi : (P.info? ty).map (·.size) = some cs.size) :
    (results fn tmps).run P w = .ok (.agg cs) w := by
  have hp' : tmps[p]?.getD undef = .pointer (some ⟨g, 0, none⟩) := by simpa using hp
  simp [results, h, hp', asAddr, run_loadVar_bk hg d hu hd hi]
theorem results_bk2 {P : Program} {fn : Func} {p q : Tmp} {ty : TypeId} {tmps : Array Value} {w : World} {g : Nat} {t : TypeId} {cs : Array Value} {v : Value} (h : fn.results = #[.cell p ty, .tmp q])
    (hp : tmps.getD p undef = .pointer (some ⟨g, 0, none⟩)) (hq : tmps.getD q undef = v) (hg : Bk w g t cs) (d : TypeDesc) (hu : P.underlying ty = some d) (hd : d.isRow = true) (hi : (P.info? ty).map (·.size) = some cs.size) :
    (results fn tmps).run P w = .ok (.tuple #[.agg cs, v]) w := by
  have hp' : tmps[p]?.getD undef = .pointer (some ⟨g, 0, none⟩) := by simpa using hp
  have hq' : tmps[q]?.getD undef = v := by simpa using hq
  simp [results, h, hp', hq', asAddr, run_loadVar_bk hg d hu hd hi]

/-- An element of an array that is a value: one cell; more cells. -/
theorem run_index1 {P : Program} {T e : TypeId} {n : Nat} {cs : Array Value} {k : IntKind} {i : Nat} {v : Value} (hu : P.underlying T = some (.array n e)) (hs : (P.info? e).map (·.size) = some 1) (d : TypeDesc) (he : P.underlying e = some d) (hd : d.isRow = false)
    (hi : i < n) (hv : cs[i]? = some v) (w : World) : (Instr.index T (.agg cs) (.int k i)).run P w = .ok v w := by
  have hagg : (isAgg e).run P w = .ok false w := by
    unfold isAgg
    rw [Sem.run_bind, run_underlying he w]
    cases d <;> simp_all [TypeDesc.isRow]
  cases hq : P.info? e with
  | none => simp [hq] at hs
  | some ti =>
    have hs' : ti.size = 1 := by simpa [hq] using hs
    unfold Instr.index
    simp only [asIntOf, Sem.run_bind, Sem.run_pure, Result.andThen_ok, run_underlying hu w]
    rw [if_pos ⟨by omega, by omega⟩]
    simp [part, Sem.run_bind, sizeOf, typeInfo, hq, hs', hagg, hv]
theorem run_indexN {P : Program} {T e : TypeId} {n sz : Nat} {cs : Array Value} {k : IntKind} {i : Nat} (hu : P.underlying T = some (.array n e)) (hs : (P.info? e).map (·.size) = some sz) (d : TypeDesc) (he : P.underlying e = some d) (hd : d.isRow = true)
    (hi : i < n) (w : World) : (Instr.index T (.agg cs) (.int k i)).run P w = .ok (.agg (cs.extract (i * sz) (i * sz + sz))) w := by
  have hagg : (isAgg e).run P w = .ok true w := by
    unfold isAgg
    rw [Sem.run_bind, run_underlying he w]
    cases d <;> simp_all [TypeDesc.isRow]
  cases hq : P.info? e with
  | none => simp [hq] at hs
  | some ti =>
    have hs' : ti.size = sz := by simpa [hq] using hs
    unfold Instr.index
    simp only [asIntOf, Sem.run_bind, Sem.run_pure, Result.andThen_ok, run_underlying hu w]
    rw [if_pos ⟨by omega, by omega⟩]
    simp [part, Sem.run_bind, sizeOf, typeInfo, hq, hs', hagg]
end Go.Proofs.Ytgdlombjhbfbiaa
