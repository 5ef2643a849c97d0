/-
  Walks: outputs that may be; how many of their signals failed.
-/
import Derived.Test.YtgdlombjhbfbiaaWq
import Derived.Test.YtgdlombjhbfbiaaWf0
namespace Go.Proofs.Ytgdlombjhbfbiaa
set_option linter.unusedVariables false
set_option linter.unusedSimpArgs false
open Go.RowKit

/-- Statuses as cells. -/
def stCells : List Sp.St → List Value
  | [] => []
  | x :: r => .int .i64 x.i :: .int .i64 x.l :: .int .i64 x.s :: .bool x.f :: stCells r
theorem stCells_at : ∀ (l : List Sp.St) (k : Nat) (x : Sp.St), l[k]? = some x → (stCells l)[k * 4]? = some (.int .i64 x.i) ∧ (stCells l)[k * 4 + 1]? = some (.int .i64 x.l) ∧ (stCells l)[k * 4 + 2]? = some (.int .i64 x.s) ∧ (stCells l)[k * 4 + 3]? = some (.bool x.f)
  | [], k, s, h => by simp at h
  | x :: r, 0, s, h => by simp at h; subst h; exact ⟨rfl, rfl, rfl, rfl⟩
  | x :: r, k + 1, s, h => by
    have := stCells_at r k s (by simpa using h)
    rw [show (k + 1) * 4 = k * 4 + 4 from by omega, show k * 4 + 4 + 1 = k * 4 + 1 + 4 from by omega, show k * 4 + 4 + 2 = k * 4 + 2 + 4 from by omega, show k * 4 + 4 + 3 = k * 4 + 3 + 4 from by omega]
    exact this
theorem stCells_length (l : List Sp.St) : (stCells l).length = l.length * 4 := by
  induction l with
  | nil => rfl
  | cons x r ih => simp [stCells, ih]; omega
def Sp.Out.list (o : Sp.Out) : List Value := .int .i64 o.seq :: (is_ o.vals ++ stCells o.sts)
def Sp.Out.cells (o : Sp.Out) : Array Value := o.list.toArray
theorem Out.size {o : Sp.Out} (h : o.Wf) : o.cells.size = 41 := by
  unfold Sp.Out.cells Sp.Out.list
  simp [is_, stCells_length, h.1, h.2]

/-- A status that may not be. -/
theorem outBad_calls (x : Sp.St) (W : World) : Calls Try.prog 84 #[.agg #[.int .i64 x.i, .int .i64 x.l, .int .i64 x.s, .bool x.f]] W fun e W' => e = .returned (.bool (!x.right)) ∧ Ext W W' := by
  have hr := Lib.hid (fun W => stRight_calls x W)
  unfold Sp.St.cells at hr
  obtain ⟨b, hb⟩ : ∃ b, x.right = b := ⟨_, rfl⟩
  rw [hb] at hr ⊢
  clear hb
  go_enter Try.func84, Try.ntmps84
  go_wp2_with (go_at_call 85; refine (hr.out _).mono ?_; rintro e w' ⟨rfl, rfl⟩)
  go_ret
  exact ⟨rfl, ((Ext.refl _).alloc _).alloc _⟩

theorem outWrong_calls (x : Int) (W : World) : Calls Try.prog 83 #[.int .i64 x] W fun e W' => e = .returned (.bool (!Sp.is32 x)) ∧ W = W' := by
  by_cases h1 : x < -2147483648
  · go_enter Try.func83, Try.ntmps83
    go_wp2
    go_ret
    exact ⟨by simp [Sp.is32]; omega, rfl⟩
  · by_cases h2 : 2147483647 < x
    · go_enter Try.func83, Try.ntmps83
      go_wp2
      go_ret
      exact ⟨by simp [Sp.is32]; omega, rfl⟩
    · go_enter Try.func83, Try.ntmps83
      go_wp2
      go_ret
      exact ⟨by simp [Sp.is32]; omega, rfl⟩
theorem outWrong_tells : Tells Try.prog 83 (fun x => !Sp.is32 x) := ⟨enters_ Try.func83 (by kernel_rfl) rfl, outWrong_calls⟩
theorem outBad_enters : ∀ args w, (callFunc 84 args).run Try.prog w = .ok (.enter 84 args) w := enters_ Try.func84 (by kernel_rfl) rfl

theorem indexBad_calls (b off c : Nat) (l : List Sp.St) (w : World) (h : RdW w (some ⟨b, off, none⟩) (stCells l)) (hlen : l.length ≤ 1000000) :
    Calls Try.prog 139 #[.slice (some ⟨b, off, none⟩) l.length c, .func (.func 84) #[] #[]] w fun e w' => ∃ r : Int, e = .returned (.int .i64 r) ∧ decide (0 ≤ r) = l.any (fun x => !x.right) ∧ Ext w w' := by
  have eg := outBad_enters
  have HR : Hid (RdW w (some ⟨b, off, none⟩) (stCells l)) := h
  clear h
  go_enter Try.func139, Try.ntmps139
  go_wp2_with fail
  go_loopw [8] (fun i wx => ∃ k : Nat, k ≤ l.length ∧ i = .int .i64 k ∧ Hid ((l.take k).any (fun x => !x.right) = false) ∧ Hid (Ext w wx)) (fun i _ => l.length - (intOf i).toNat)
  case atStart => exact ⟨0, Nat.zero_le _, rfl, rfl, Ext.refl w⟩
  case round =>
    obtain ⟨k, hk, rfl, HP, HE⟩ := hrel
    by_cases hlt : k < l.length
    · obtain ⟨x, hx⟩ : ∃ x, l[k]? = some x := ⟨_, List.getElem?_eq_getElem hlt⟩
      obtain ⟨q0, q1, q2, q3⟩ := stCells_at l k x hx
      have hrw := HR.out.ext HE.out
      have c0 := hrw.cell _ q0
      have c1 := hrw.cell _ q1
      have c2 := hrw.cell _ q2
      have c3 := hrw.cell _ q3
      simp only [← Nat.add_assoc] at c1 c2 c3
      have hpx := Lib.hid (outBad_calls x wr)
      have HX := Lib.hid hx
      clear hx q0 q1 q2 q3 hrw
      go_wp2_with fail
      refine hpx.out.mono ?_
      rintro e w1 ⟨rfl, hE1⟩
      have HE1 : Hid (Ext w w1) := HE.out.trans hE1
      clear hE1
      cases hb : x.right with
      | false =>
        have HB := Lib.hid hb
        clear hb
        go_wp2_with fail
        go_ret
        refine ⟨k, rfl, ?_, HE1.out⟩
        rw [decide_eq_true (by omega)]
        symm
        rw [List.any_eq_true]
        exact ⟨x, List.mem_of_getElem? HX.out, by simp [HB.out]⟩
      | true =>
        have HB := Lib.hid hb
        clear hb
        go_wp2_with fail
        go_roundw
        case rel => exact ⟨k + 1, by omega, by go_num, by show _ = false; rw [List.take_add_one, HX.out, List.any_append, HP.out]; simp [HB.out], HE1⟩
        case measure => simp [intOf]; omega
    · obtain rfl : k = l.length := by omega
      go_wp2_with fail
      go_ret
      refine ⟨-1, rfl, ?_, HE.out⟩
      have := HP.out
      rw [List.take_of_length_le (Nat.le_refl _)] at this
      rw [this]; rfl

theorem containsBad_calls (b off c : Nat) (l : List Sp.St) (w : World) (h : RdW w (some ⟨b, off, none⟩) (stCells l)) (hlen : l.length ≤ 1000000) :
    Calls Try.prog 87 #[.slice (some ⟨b, off, none⟩) l.length c, .func (.func 84) #[] #[]] w fun e w' => e = .returned (.bool (l.any (fun x => !x.right))) ∧ Ext w w' := by
  have hi := Lib.hid (indexBad_calls b off c l w h hlen)
  clear h
  go_enter Try.func87, Try.ntmps87
  go_wp2_with fail
  refine hi.out.mono ?_
  rintro e w1 ⟨r, rfl, hr, hE⟩
  have HR := Lib.hid hr
  have HE : Hid (Ext w w1) := hE
  clear hr hi hE
  go_wp2_with fail
  go_ret
  exact ⟨by rw [← HR.out]; rfl, HE.out⟩
end Go.Proofs.Ytgdlombjhbfbiaa
