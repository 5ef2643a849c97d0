/-
  Walks: outputs that may be; how many of their signals failed.
-/
import Derived.Test.YtgdlombjhbfbiaaWr
namespace Go.Proofs.Ytgdlombjhbfbiaa
set_option linter.unusedVariables false
set_option linter.unusedSimpArgs false
open Go.RowKit

theorem Bk.rdw {w : World} {g : Nat} {t : TypeId} {cs : Array Value} (h : Bk w g t cs) (off : Nat) (xs : List Value) (hx : ∀ j u, xs[j]? = some u → cs[off + j]? = some u) : RdW w (some ⟨g, off, none⟩) xs := fun _ =>
  ⟨g, off, rfl, h.lt, fun j u hu => (h.cell (off + j)).trans (hx j u hu)⟩
theorem Out.at0 (o : Sp.Out) : o.cells[0]? = some (.int .i64 o.seq) := rfl
theorem Out.at1 (o : Sp.Out) (j : Nat) (u : Value) (h : (is_ o.vals)[j]? = some u) : o.cells[1 + j]? = some u := by
  unfold Sp.Out.cells Sp.Out.list
  rw [List.getElem?_toArray, Nat.add_comm, List.getElem?_cons_succ, List.getElem?_append_left (List.getElem?_eq_some_iff.1 h).1]
  exact h
theorem Out.at9 (o : Sp.Out) (hw : o.Wf) (j : Nat) (u : Value) (h : (stCells o.sts)[j]? = some u) : o.cells[9 + j]? = some u := by
  unfold Sp.Out.cells Sp.Out.list
  have hl : (is_ o.vals).length = 8 := by simp [is_, hw.1]
  rw [List.getElem?_toArray, show 9 + j = (8 + j) + 1 from by omega, List.getElem?_cons_succ, List.getElem?_append_right (by omega), hl, Nat.add_sub_cancel_left]
  exact h

theorem outRight_calls (o : Sp.Out) (hw : o.Wf) (w : World) :
    Calls Try.prog 27 #[.agg o.cells] w fun e w' => e = .returned (.bool o.right) ∧ Ext w w' := by
  have hB : Bk (w.alloc (.cells o.cells 50)) w.heap.size 50 o.cells := Bk.new w _ _
  have h1 := containsFunc_calls 83 (fun x => !Sp.is32 x) outWrong_tells (some ⟨w.heap.size, 1, none⟩) 8 o.vals _ _ (hB.rdw 1 _ (Out.at1 o)) (by rw [hw.1]; decide)
  have h2 := containsBad_calls w.heap.size 9 8 o.sts _ (hB.rdw 9 _ (Out.at9 o hw)) (by rw [hw.2]; decide)
  have a1 : o.vals.any (fun x => !Sp.is32 x) = !o.vals.all Sp.is32 := by simp [List.all_eq_not_any_not]
  have a2 : o.sts.any (fun x => !x.right) = !o.sts.all Sp.St.right := by simp [List.all_eq_not_any_not]
  rw [hw.1, a1] at h1
  rw [hw.2, a2] at h2
  unfold Sp.Out.right Sp.isSeq
  obtain ⟨q1, e1⟩ : ∃ q, o.vals.all Sp.is32 = q := ⟨_, rfl⟩
  obtain ⟨q2, e2⟩ : ∃ q, o.sts.all Sp.St.right = q := ⟨_, rfl⟩
  rw [e1] at h1 ⊢
  rw [e2] at h2 ⊢
  have H1 := Lib.hid h1
  have H2 := Lib.hid h2
  have c0 : (w.alloc (.cells o.cells 50)).cell? ⟨w.heap.size, 0, none⟩ = some (.int .i64 o.seq) := (hB.cell 0).trans (Out.at0 o)
  clear a1 a2 e1 e2 h1 h2 hB
  obtain ⟨n, hn⟩ : ∃ n, o.seq = n := ⟨_, rfl⟩
  rw [hn] at c0 ⊢
  clear hn
  generalize o.cells = cs at *
  go_enter Try.func27, Try.ntmps27
  go_wp2_with (first
    | (go_at_call 86; refine H1.out.mono ?_; rintro e w1 ⟨rfl, rfl⟩)
    | (go_at_call 87; refine H2.out.mono ?_; rintro e w2 ⟨rfl, hE2⟩))
  all_goals go_ret
  all_goals first
    | exact ⟨by simp [*] <;> intros <;> omega, ((Ext.refl w).alloc _).trans hE2⟩
    | exact ⟨by simp [*] <;> intros <;> omega, (Ext.refl w).alloc _⟩

theorem stCells_four {l : List Sp.St} {k : Nat} {x : Sp.St} (h : l[k]? = some x) : (stCells l).toArray.extract (k * 4) (k * 4 + 4) = #[.int .i64 x.i, .int .i64 x.l, .int .i64 x.s, .bool x.f] := by
  obtain ⟨q0, q1, q2, q3⟩ := stCells_at l k x h
  have hl : k * 4 + 4 ≤ (stCells l).length := by
    have := (List.getElem?_eq_some_iff.1 h).1
    rw [stCells_length]; omega
  apply Array.ext_getElem?
  intro i
  rw [Array.getElem?_extract]
  by_cases hi : i < 4
  · rw [if_pos (by simp; omega), List.getElem?_toArray]
    match i, hi with
    | 0, _ => exact q0
    | 1, _ => exact q1
    | 2, _ => exact q2
    | 3, _ => exact q3
  · rw [if_neg (by simp; omega)]
    symm
    exact Array.getElem?_eq_none (by simp; omega)
theorem Out.ext9 {o : Sp.Out} (hw : o.Wf) : o.cells.extract 9 (9 + 32) = (stCells o.sts).toArray := by
  have hl : (stCells o.sts).length = 32 := by rw [stCells_length, hw.2]
  have hs := Out.size hw
  apply Array.ext_getElem?
  intro i
  rw [Array.getElem?_extract]
  by_cases hi : i < 32
  · rw [if_pos (by omega)]
    have h0 : (stCells o.sts).toArray[i]? = (stCells o.sts)[i]? := List.getElem?_toArray ..
    rw [h0]
    have : (stCells o.sts)[i]? = some ((stCells o.sts)[i]'(by omega)) := List.getElem?_eq_getElem (by omega)
    rw [this]
    exact Out.at9 o hw i _ this
  · rw [if_neg (by omega)]
    symm
    exact Array.getElem?_eq_none (by simp; omega)

theorem failed_snoc (l : List Sp.St) (x : Sp.St) : Sp.failedOf (l ++ [x]) = Sp.failedOf l + (if x.f = true then 1 else 0) := by
  unfold Sp.failedOf
  rw [List.filter_append, List.length_append, List.filter_cons]
  split <;> rfl

theorem outFailed_calls (o : Sp.Out) (hw : o.Wf) (w : World) :
    Calls Try.prog 29 #[.agg o.cells] w fun e w' => e = .returned (.int .i64 o.failed) ∧ Ext w w' := by
  have hB : Hid (Bk (w.alloc (.cells o.cells 50)) w.heap.size 50 o.cells) := Bk.new w _ _
  have hx9 := Lib.hid (Out.ext9 hw)
  have hsz : (stCells o.sts).toArray.size = 32 := by simp [stCells_length, hw.2]
  have HL : Hid (o.sts.length = 8) := hw.2
  have hix : Hid (∀ (k : Nat) (x : Sp.St) (W : World), o.sts[k]? = some x → (Instr.index 48 (.agg (stCells o.sts).toArray) (.int .i64 k)).run Try.prog W = .ok (.agg #[.int .i64 x.i, .int .i64 x.l, .int .i64 x.s, .bool x.f]) W) := fun k x W hx => by
    have h8 : k < 8 := by have := (List.getElem?_eq_some_iff.1 hx).1; rw [hw.2] at this; exact this
    rw [run_indexN (n := 8) Try.underlying48 (by kernel_rfl : (Try.prog.info? 47).map (·.size) = some 4) _ Try.underlying47 rfl h8, stCells_four hx]
  unfold Sp.Out.failed
  generalize o.sts = l at *
  generalize (stCells l).toArray = sa at *
  generalize o.cells = cs at *
  go_enter Try.func29, Try.ntmps29
  go_wp2_with (refine wpList_get rfl 48 _ rfl w.heap.size 9 32 rfl 50 cs sa hB.out hx9.out hsz _ Try.underlying48 rfl (by kernel_rfl) ?_)
  go_loopw [3, 8] (fun n i wx => ∃ k : Nat, k ≤ 8 ∧ i = .int .i64 k ∧ n = .int .i64 (Sp.failedOf (l.take k)) ∧ Hid (Ext w wx)) (fun _ i _ => 8 - (intOf i).toNat)
  case atStart => exact ⟨0, Nat.zero_le _, rfl, rfl, (Ext.refl w).alloc _⟩
  case round =>
    obtain ⟨k, hk, rfl, rfl, HE⟩ := hrel
    by_cases hlt : k < 8
    · obtain ⟨x, hx⟩ : ∃ x, l[k]? = some x := ⟨_, List.getElem?_eq_getElem (by rw [HL.out]; exact hlt)⟩
      have hi := fun W => hix.out k x W hx
      have hle : Sp.failedOf (l.take k) ≤ k := Nat.le_trans (Sp.failedOf_le _) (List.length_take_le _ _)
      have HS : Hid (Sp.failedOf (l.take (k + 1)) = Sp.failedOf (l.take k) + (if x.f = true then 1 else 0)) := by
        show _ = _
        rw [List.take_add_one, hx, Option.toList_some, failed_snoc]
      clear hx
      obtain ⟨m, hm⟩ : ∃ m, Sp.failedOf (l.take k) = m := ⟨_, rfl⟩
      rw [hm] at hle HS ⊢
      clear hm
      obtain ⟨xi, xl, xs, xf⟩ := x
      cases xf
      all_goals (
        go_wp2_with fail
        go_roundw
        case rel => exact ⟨k + 1, by omega, by go_num, by rw [HS.out]; simp; try go_num, HE.out.alloc _⟩
        case measure => simp [intOf]; omega)
    · obtain rfl : k = 8 := by omega
      rw [List.take_of_length_le (by rw [HL.out]; decide)]
      go_wp2_with fail
      go_ret
      exact ⟨rfl, HE.out⟩
end Go.Proofs.Ytgdlombjhbfbiaa
