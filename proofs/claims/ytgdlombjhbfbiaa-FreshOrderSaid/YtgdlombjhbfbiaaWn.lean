/-
  A track in a run of slots: what stays.
-/
import Derived.Test.YtgdlombjhbfbiaaWm
namespace Go.Proofs.Ytgdlombjhbfbiaa
set_option linter.unusedVariables false
set_option linter.unusedSimpArgs false
open Go.RowKit

/-- So many slots came to the track of channel 2. -/
structure Ran (T : Trk) (n : Nat) : Prop where
  ch : T.ch = 2
  seq : T.begun = true → Sp.isSeq T.last = true
  pos : ∀ x ∈ T.counts, 0 ≤ x
  sum : T.c0 + T.c1 + T.c2 + T.c3 + T.c4 + T.c5 + T.c6 = n

theorem Ran.new : Ran (Trk.new 2) 0 := ⟨rfl, fun h => by simp [Trk.new] at h, by decide, by decide⟩
theorem Ran.small {T : Trk} {n : Nat} (h : Ran T n) (hn : n < 1000000) : ∀ x ∈ T.counts, 0 ≤ x ∧ x < 1000000 := by
  intro x hx
  refine ⟨h.pos x hx, ?_⟩
  have hp := h.pos
  have hs := h.sum
  simp only [Trk.counts, List.mem_cons, List.not_mem_nil, or_false, forall_eq_or_imp, forall_eq] at hp hx
  obtain ⟨p0, p1, p2, p3, p4, p5, p6⟩ := hp
  rcases hx with rfl | rfl | rfl | rfl | rfl | rfl | rfl <;> omega
theorem get2_seq {a b : Int} (ha : Sp.IsByte a) (hb : Sp.IsByte b) : Sp.isSeq (Sp.get2 a b) = true := by
  unfold Sp.isSeq Sp.get2
  unfold Sp.IsByte at ha hb
  simp
  omega
theorem frOf_seq (l : List Int) (hl : Sp.Bytes l) : Sp.isSeq (frOf l).seq = true := by
  unfold frOf
  split
  · have g : ∀ k, Sp.IsByte (l.getD k 0) := fun k => by
      rw [List.getD_eq_getElem?_getD]
      cases e : l[k]? with
      | none => exact ⟨by decide, by decide⟩
      | some x => exact hl x (List.mem_of_getElem? e)
    exact get2_seq (g 2) (g 3)
  · decide
theorem Trk.bump_sum (T : Trk) (k : Nat) : (T.bump k).c0 + (T.bump k).c1 + (T.bump k).c2 + (T.bump k).c3 + (T.bump k).c4 + (T.bump k).c5 + (T.bump k).c6 = T.c0 + T.c1 + T.c2 + T.c3 + T.c4 + T.c5 + T.c6 + 1 := by
  unfold Trk.bump
  split <;> dsimp only <;> omega
theorem Trk.bump_pos (T : Trk) (k : Nat) (h : ∀ x ∈ T.counts, 0 ≤ x) : ∀ x ∈ (T.bump k).counts, 0 ≤ x := by
  simp only [Trk.counts, List.mem_cons, List.not_mem_nil, or_false, forall_eq_or_imp, forall_eq] at h ⊢
  obtain ⟨p0, p1, p2, p3, p4, p5, p6⟩ := h
  unfold Trk.bump
  split <;> dsimp only <;> refine ⟨?_, ?_, ?_, ?_, ?_, ?_, ?_⟩ <;> omega
theorem Trk.bump_same (T : Trk) (k : Nat) : (T.bump k).ch = T.ch ∧ (T.bump k).last = T.last ∧ (T.bump k).begun = T.begun := by
  unfold Trk.bump
  split <;> exact ⟨rfl, rfl, rfl⟩
theorem Ran.bump {T : Trk} {n : Nat} (h : Ran T n) (k : Nat) : Ran (T.bump k) (n + 1) := by
  obtain ⟨e1, e2, e3⟩ := T.bump_same k
  exact ⟨e1.trans h.ch, by rw [e2, e3]; exact h.seq, T.bump_pos k h.pos, by rw [T.bump_sum k, h.sum]; omega⟩
theorem Ran.seen {T : Trk} {n : Nat} (h : Ran T n) (f : Fr) (hf : Sp.isSeq f.seq = true) : Ran (T.seen f) n := ⟨h.ch, fun _ => hf, h.pos, h.sum⟩
theorem Ran.take {T : Trk} {n : Nat} (h : Ran T n) (is : Bool) (l : List Int) (hl : Sp.Bytes l) : Ran (T.take is l) (n + 1) := by
  unfold Trk.take
  refine Ran.bump ?_ _
  unfold Trk.step
  split
  · exact h
  · exact h.seen _ (frOf_seq l hl)
/-- The track behind slots. -/
def Trk.run (T : Trk) : List SlotV → Trk
  | [] => T
  | s :: r => (T.take s.is s.l).run r
theorem Ran.run : ∀ {T : Trk} {n : Nat} (ss : List SlotV), Ran T n → (∀ s ∈ ss, Sp.Bytes s.l) → Ran (T.run ss) (n + ss.length)
  | _, _, [], h, _ => h
  | T, n, s :: r, h, hb => by
    have := Ran.run r (h.take s.is s.l (hb s List.mem_cons_self)) (fun x hx => hb x (List.mem_cons_of_mem _ hx))
    rw [List.length_cons, show n + (r.length + 1) = n + 1 + r.length from by omega]
    exact this
/-- The next one in order is told. -/
theorem fits_next (T : Trk) (f : Fr) (hb : T.begun = true) (hf : f.seq = Sp.next T.last) : T.fits f = true := by simp [Trk.fits, hb, hf]
theorem next_seq (n : Int) : Sp.isSeq (Sp.next n) = true := by unfold Sp.isSeq Sp.next; simp; omega
theorem run_append (T : Trk) (a b : List SlotV) : T.run (a ++ b) = (T.run a).run b := by
  induction a generalizing T with
  | nil => rfl
  | cons s r ih => exact ih _
theorem run_next (T : Trk) (ss : List SlotV) (k : Nat) (s : SlotV) (h : ss[k]? = some s) : T.run (ss.take (k + 1)) = (T.run (ss.take k)).take s.is s.l := by
  rw [List.take_add_one, h, run_append]; rfl
theorem SlotsOk.ext {w w' : World} {ss : List SlotV} (h : SlotsOk w ss) (k : Ext w w') : SlotsOk w' ss := fun s hs => ⟨(h s hs).1, (h s hs).2.1.ext k, (h s hs).2.2⟩
end Go.Proofs.Ytgdlombjhbfbiaa
