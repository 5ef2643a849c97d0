/-
  Walks: the output of bytes.
-/
import Derived.Test.YtgdlombjhbfbiaaWu
import Derived.Test.YtgdlombjhbfbiaaWg
import Derived.Test.YtgdlombjhbfbiaaRowB
namespace Go.Proofs.Ytgdlombjhbfbiaa
set_option linter.unusedVariables false
set_option linter.unusedSimpArgs false
open Go.RowKit

theorem Out.zero_wf : Sp.Out.zero.Wf := ⟨rfl, rfl⟩
theorem Out.zero_info : (Try.prog.info? 50).map (·.zero) = some (some (.agg Sp.Out.zero.cells)) := by kernel_rfl
theorem Out.zero_built : Try.prog.built 50 [] = some Sp.Out.zero.cells := by kernel_rfl
theorem Out.one {o : Sp.Out} : ∀ v ∈ o.cells.toList, v.oneCell' = true := by
  have hs : ∀ l : List Sp.St, ∀ v ∈ stCells l, v.oneCell' = true := by
    intro l
    induction l with
    | nil => intro v hv; simp [stCells] at hv
    | cons x r ih =>
      intro v hv
      simp only [stCells, List.mem_cons] at hv
      rcases hv with rfl | rfl | rfl | rfl | hv
      · rfl
      · rfl
      · rfl
      · rfl
      · exact ih v hv
  intro v hv
  unfold Sp.Out.cells Sp.Out.list at hv
  simp only [List.mem_cons, List.mem_append] at hv
  rcases hv with rfl | hv | hv
  · rfl
  · simp only [is_, List.mem_map] at hv
    obtain ⟨n, _, rfl⟩ := hv
    rfl
  · exact hs _ v hv
theorem stCells_append (a b : List Sp.St) : stCells (a ++ b) = stCells a ++ stCells b := by
  induction a with
  | nil => rfl
  | cons x r ih => simp [stCells, ih]
/-- One status stored. -/
theorem Out.put_st (q : Int) (vals : List Int) (hv : vals.length = 8) (a b : List Sp.St) (x y : Sp.St) :
    putAt (Sp.Out.mk q vals (a ++ y :: b)).cells (9 + a.length * 4) x.cells = (Sp.Out.mk q vals (a ++ x :: b)).cells := by
  unfold putAt Sp.Out.cells Sp.Out.list
  have hl : (is_ vals).length = 8 := by simp [is_, hv]
  have e : ∀ z : Sp.St, (Value.int .i64 q :: (is_ vals ++ stCells (a ++ z :: b))) = (Value.int .i64 q :: (is_ vals ++ stCells a)) ++ (z.cells.toList ++ stCells b) := by
    intro z
    rw [stCells_append]
    simp [stCells, Sp.St.cells]
  have hn : (Value.int .i64 q :: (is_ vals ++ stCells a)).length = 9 + a.length * 4 := by simp [hl, stCells_length]; omega
  dsimp only
  rw [e y, e x]
  congr 1
  rw [List.take_left' hn, ← List.drop_drop, List.drop_left' hn]
  have h4 : ∀ z : Sp.St, z.cells.toList.length = 4 := fun _ => rfl
  rw [show x.cells.size = 4 from rfl, List.drop_left' (h4 y), List.append_assoc]
/-- The values stored. -/
theorem Out.put_vals (q : Int) (v0 vals : List Int) (h0 : v0.length = 8) (hv : vals.length = 8) (s : List Sp.St) :
    putAt (Sp.Out.mk q v0 s).cells 1 (is_ vals).toArray = (Sp.Out.mk q vals s).cells := by
  unfold putAt Sp.Out.cells Sp.Out.list
  have hl : (is_ vals).length = 8 := by simp [is_, hv]
  have hl0 : (is_ v0).length = 8 := by simp [is_, h0]
  dsimp only
  rw [show (is_ vals).toArray.size = 8 from by simp [hl]]
  congr 1
  rw [show 1 + 8 = 8 + 1 from rfl, List.drop_succ_cons, List.drop_left' hl0]
  simp
/-- The number stored. -/
theorem Out.put_seq (q p : Int) (v : List Int) (s : List Sp.St) : (Sp.Out.mk q v s).cells.setIfInBounds 0 (.int .i64 p) = (Sp.Out.mk p v s).cells := by
  unfold Sp.Out.cells Sp.Out.list
  simp

theorem stsOf_at : ∀ (l : List Int) (k : Nat) (x y : Int), l[2 * k]? = some x → l[2 * k + 1]? = some y → (Sp.stsOf l)[k]? = some (Sp.stOf x y)
  | a :: b :: l, 0, x, y, h1, h2 => by
    simp at h1 h2
    subst h1 h2
    rfl
  | a :: b :: l, k + 1, x, y, h1, h2 => by
    rw [show 2 * (k + 1) = 2 * k + 2 from by omega] at h1
    rw [show 2 * (k + 1) + 1 = 2 * k + 1 + 2 from by omega] at h2
    simpa [Sp.stsOf] using stsOf_at l k x y (by simpa using h1) (by simpa using h2)
  | [_], k, x, y, h1, h2 => by
    have := (List.getElem?_eq_some_iff.1 h2).1
    simp at this
  | [], k, x, y, h1, h2 => by simp at h1

theorem outDecode_len (A : Option Addr) (n c : Nat) (w : World) (h : n ≠ 54) :
    Calls Try.prog 25 #[.slice A n c] w fun e w' => e = .returned (.tuple #[.agg Sp.Out.zero.cells, .int .i64 3]) ∧ Ext w w' := by
  have hn : ((n : Int) != 54) = true := by simp; omega
  have hz1 := Out.zero_info
  have hz2 := Out.zero_built
  have hs := Out.size Out.zero_wf
  have h1 := Lib.hid (Out.one (o := Sp.Out.zero))
  generalize Sp.Out.zero.cells = zc at *
  have HZ1 := Lib.hid hz1
  have HZ2 := Lib.hid hz2
  clear h hz1 hz2
  go_enter Try.func25, Try.ntmps25
  go_wp2_with (first
    | (refine wpList_fresh rfl 50 rfl zc HZ1.out ?_; have hB : Hid (Bk (w.alloc (.cells zc 50)) w.heap.size 50 zc) := Bk.new _ _ _; have HE : Hid (Ext w (w.alloc (.cells zc 50))) := (Ext.refl w).alloc _)
    | (refine wpList_zero rfl 50 rfl zc HZ2.out ?_)
    | (refine wpList_put rfl 50 _ _ rfl w.heap.size 0 zc rfl rfl 50 zc hB.out (by rw [hs]; kernel_rfl) (by omega) h1.out ?_; intro w1 hp1 hB1; rw [putAt_whole rfl] at hB1; have HB1 := Lib.hid hB1; have HP1 := Lib.hid hp1; clear hp1 hB1))
  (try simp only [Exit.inBlock, Exit.then])
  refine bodyPost_ret (results_bk2 (p := 2) (q := 3) rfl rfl rfl HB1.out _ Try.underlying50 rfl (by rw [hs]; kernel_rfl)) rfl ?_
  exact ⟨rfl, HP1.out.ext (Nat.le_refl _) HE.out⟩
end Go.Proofs.Ytgdlombjhbfbiaa
