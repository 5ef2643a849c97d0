/-
  OutputBack holds for every output, all bytes and every change: what is encoded comes back, what is changed does not, and bytes that are read are written again; the arguments read as they read before. No condition.
-/
import Derived.Test.YtgdlombjhbfbiaaRows
import Derived.Test.YtgdlombjhbfbiaaWab
import Derived.Test.YtgdlombjhbfbiaaOpen
import Derived.ShutString
import Derived.ChangeOld
namespace Go.Proofs.Ytgdlombjhbfbiaa.lawOutputBack
set_option linter.unusedVariables false
set_option linter.unusedSimpArgs false
open Go.ChangeShapes Go.WideShapes Go.ChangeAt Go.RowKit

theorem own : ownKnob Try.prog.godebug = none := by kernel_rfl
theorem laidOut : laidOutB Try.prog = true := by kernel_rfl

section
variable {H : Type} {enc : TypeId × Value → H} {w : World} {base : Nat} {spare : Nat → Bool} {held : Bool} {fuel : Nat}

set_option maxRecDepth 100000 in
/-- A status that came in. -/
theorem status_of {cs : List Value} {x : DataW H × List MemPlace} (h : DataW.trod enc Try.prog w base spare held fuel 47 cs = some x) :
    ∃ s : Sp.St, cs = s.cells.toList ∧ True := by
  obtain ⟨xs, n, _, _, hl, hxl, hi⟩ := DataW.trod_struct Try.underlying47 h
  have hl' : cs.length = 4 := hl.trans (by kernel_rfl)
  have hx4 : xs.length = 4 := hxl
  have k1 : Try.prog.cellsOf 3 = 1 := by kernel_rfl
  have k2 : Try.prog.cellsOf 4 = 1 := by kernel_rfl
  match cs, hl' with
  | [c0, c1, c2, c3], _ =>
    have h0 : DataW.trod enc Try.prog w base spare held n 3 (([c0, c1, c2, c3].drop 0).take (Try.prog.cellsOf 3)) = xs[0]? := hi 0 _ rfl
    have h1 : DataW.trod enc Try.prog w base spare held n 3 (([c0, c1, c2, c3].drop 1).take (Try.prog.cellsOf 3)) = xs[1]? := hi 1 _ rfl
    have h2 : DataW.trod enc Try.prog w base spare held n 3 (([c0, c1, c2, c3].drop 2).take (Try.prog.cellsOf 3)) = xs[2]? := hi 2 _ rfl
    have h3 : DataW.trod enc Try.prog w base spare held n 4 (([c0, c1, c2, c3].drop 3).take (Try.prog.cellsOf 4)) = xs[3]? := hi 3 _ rfl
    simp only [k1, k2, List.drop_zero, List.drop_succ_cons, List.take_succ_cons, List.take_zero] at h0 h1 h2 h3
    rw [List.getElem?_eq_getElem (by omega)] at h0 h1 h2 h3
    obtain ⟨q0, e0, _⟩ := DataW.trod_int Try.underlying3 h0
    obtain ⟨q1, e1, _⟩ := DataW.trod_int Try.underlying3 h1
    obtain ⟨q2, e2, _⟩ := DataW.trod_int Try.underlying3 h2
    obtain ⟨b, e3, _⟩ := DataW.trod_bool Try.underlying4 h3
    simp only [List.cons.injEq, and_true] at e0 e1 e2 e3
    subst e0 e1 e2 e3
    exact ⟨⟨q0, q1, q2, b⟩, rfl, trivial⟩
theorem stCells_flat : ∀ l : List Sp.St, stCells l = l.flatMap (fun s => s.cells.toList)
  | [] => rfl
  | x :: r => by rw [List.flatMap_cons, ← stCells_flat r]; rfl

set_option maxRecDepth 100000 in
/-- An output that came in. -/
theorem output_of {cs : List Value} {x : DataW H × List MemPlace} (h : DataW.trod enc Try.prog w base spare held fuel 50 cs = some x) : ∃ o : Sp.Out, o.Wf ∧ cs = o.cells.toList := by
  obtain ⟨xs, n, _, _, hl, hxl, hi⟩ := DataW.trod_struct Try.underlying50 h
  have hl' : cs.length = 41 := hl.trans (by kernel_rfl)
  have hx3 : xs.length = 3 := hxl
  have k1 : Try.prog.cellsOf 3 = 1 := by kernel_rfl
  have k2 : Try.prog.cellsOf 23 = 8 := by kernel_rfl
  have k3 : Try.prog.cellsOf 48 = 32 := by kernel_rfl
  have k4 : Try.prog.cellsOf 47 = 4 := by kernel_rfl
  have h0 : DataW.trod enc Try.prog w base spare held n 3 ((cs.drop 0).take (Try.prog.cellsOf 3)) = xs[0]? := hi 0 _ rfl
  have h1 : DataW.trod enc Try.prog w base spare held n 23 ((cs.drop 1).take (Try.prog.cellsOf 23)) = xs[1]? := hi 1 _ rfl
  have h2 : DataW.trod enc Try.prog w base spare held n 48 ((cs.drop 9).take (Try.prog.cellsOf 48)) = xs[2]? := hi 2 _ rfl
  rw [k1, List.getElem?_eq_getElem (by omega)] at h0
  rw [k2, List.getElem?_eq_getElem (by omega)] at h1
  rw [k3, List.getElem?_eq_getElem (by omega)] at h2
  obtain ⟨q, e0, _⟩ := DataW.trod_int Try.underlying3 h0
  obtain ⟨zs, e1, hz, _⟩ := trod_ints Try.underlying23 Try.underlying3 k1 k2 h1
  obtain ⟨ys, m, _, _, hyl, hyn, hy⟩ := DataW.trod_array Try.underlying48 h2
  obtain ⟨ss, e2, hs, _⟩ := chunks_of (fun s : Sp.St => s.cells.toList) 4 (fun _ => True) 8 ((cs.drop 9).take 32) (by rw [hyl, k3]) (fun i hin => by
    have hy1 := hy i hin
    rw [k4, List.getElem?_eq_getElem (by omega)] at hy1
    exact status_of hy1)
  refine ⟨⟨q, zs, ss⟩, ⟨hz, hs⟩, ?_⟩
  have t0 : cs = (cs.drop 0).take 1 ++ ((cs.drop 1).take 8 ++ (cs.drop 9).take 32) := by
    have a1 : (cs.drop 9).take 32 = cs.drop 9 := List.take_of_length_le (by rw [List.length_drop, hl']; decide)
    have a2 : cs.drop 9 = (cs.drop 1).drop 8 := by rw [List.drop_drop]
    rw [a1, a2, List.take_append_drop, List.drop_zero]
    exact (List.take_append_drop 1 cs).symm
  rw [t0, e0, e1, e2, ← stCells_flat]
  rfl

set_option maxRecDepth 100000 in
/-- A change that came in. -/
theorem change_of {cs : List Value} {x : DataW H × List MemPlace} (h : DataW.trod enc Try.prog w base spare held fuel 59 cs = some x) :
    ∃ a b : Int, cs = [.int .u8 a, .int .u8 b] ∧ (Lit.int .u8 a).wf = true ∧ (Lit.int .u8 b).wf = true := by
  obtain ⟨xs, n, _, _, hl, hxl, hi⟩ := DataW.trod_struct Try.underlying59 h
  have hl' : cs.length = 2 := hl.trans (by kernel_rfl)
  have hx2 : xs.length = 2 := hxl
  have k3 : Try.prog.cellsOf 5 = 1 := by kernel_rfl
  match cs, hl' with
  | [c0, c1], _ =>
    have h0 : DataW.trod enc Try.prog w base spare held n 5 (([c0, c1].drop 0).take (Try.prog.cellsOf 5)) = xs[0]? := hi 0 _ rfl
    have h1 : DataW.trod enc Try.prog w base spare held n 5 (([c0, c1].drop 1).take (Try.prog.cellsOf 5)) = xs[1]? := hi 1 _ rfl
    simp only [k3, List.drop_zero, List.drop_succ_cons, List.take_succ_cons, List.take_zero] at h0 h1
    rw [List.getElem?_eq_getElem (by omega)] at h0 h1
    obtain ⟨q0, e0, _, w0⟩ := DataW.trod_int Try.underlying5 h0
    obtain ⟨q1, e1, _, w1⟩ := DataW.trod_int Try.underlying5 h1
    simp only [List.cons.injEq, and_true] at e0 e1
    subst e0 e1
    exact ⟨q0, q1, rfl, w0, w1⟩
end

theorem walk (o : Sp.Out) (hw : o.Wf) (A : Option Addr) (c : Nat) (l : List Int) (x y : Int) (w : World) (hl : Sp.Bytes l) (h : RdW w A (bs l)) (hc : l.length ≤ c) (hcm : c ≤ maxLen) (hx : (Lit.int .u8 x).wf = true) (hy : (Lit.int .u8 y).wf = true) :
    Calls Try.prog 5 #[.agg o.cells, .slice A l.length c, .agg #[.int .u8 x, .int .u8 y]] w fun e w' => e = .returned (.bool true) ∧ Ext w w' := by
  obtain ⟨x0, x1⟩ := bounds_u8 hx
  obtain ⟨y0, y1⟩ := bounds_u8 hy
  by_cases hlen : l.length ≤ 300
  · cases hr : o.right with
    | false => exact ob_no o hw hr A c l x y w hl h hlen hc hcm
    | true => exact ob_yes o hw hr A c l x y w hl h hlen hc hcm x0 x1 y0 y1
  · exact ob_long o.cells A l.length c x y w (by omega)

set_option maxRecDepth 100000 in
theorem lifted (os : Os) (started : os.Started) (H : Type) (enc : TypeId × Value → H) :
    ReturnsInHanded {} Try.checked os 5 .any (Rows.outputBackSpec.pre6 enc Try.prog Try.f5 Rows.outputBackRow.domain false) (Rows.outputBackSpec.post enc Try.prog Try.f5 false true false false) := by
  refine returnsInHanded_of_change (C := Try.checked) own started (by kernel_rfl) Try.func5
    (ChangeSpec.witness6 (enc := enc) (C := Try.checked) false ⟨#[], #[.agg #[.int .i64 0, .int .i64 0, .int .i64 0, .int .i64 0, .int .i64 0, .int .i64 0, .int .i64 0, .int .i64 0, .int .i64 0, .int .i64 0, .int .i64 0, .int .i64 0, .bool false, .int .i64 0, .int .i64 0, .int .i64 0, .bool false, .int .i64 0, .int .i64 0, .int .i64 0, .bool false, .int .i64 0, .int .i64 0, .int .i64 0, .bool false, .int .i64 0, .int .i64 0, .int .i64 0, .bool false, .int .i64 0, .int .i64 0, .int .i64 0, .bool false, .int .i64 0, .int .i64 0, .int .i64 0, .bool false, .int .i64 0, .int .i64 0, .int .i64 0, .bool false], .slice none 0 0, .agg #[.int .u8 0, .int .u8 0]], []⟩ 8 (by kernel_rfl) (by kernel_rfl) (by kernel_rfl) (by kernel_rfl)) ?_
  intro W base args ds gs before hval0 hW hcnd _
  have hval : ∀ (j : Nat) t v, Try.f5.params[j]? = some t → args[j]? = some v → Value.okWide Try.prog W .any base t v := hval0
  have hW' := hW
  obtain ⟨p, q, hA0, hV, rfl, hfz, hnd⟩ := hW
  have hA : DataW.TrodAll enc Try.prog W 0 (fun _ => true) true Try.f5.params.toList args.toList ds p := hA0
  rw [Try.params5] at hA hval
  obtain ⟨v0, vs0, d0, ds0, p0, q0, hargs, rfl, rfl, h0, r0⟩ := trodAll_cons hA
  obtain ⟨v1, vs1, d1, ds1, p1, q1, rfl, rfl, rfl, h1, r1⟩ := trodAll_cons r0
  obtain ⟨v2, vs2, d2, ds2, p2, q2, rfl, rfl, rfl, h2, r2⟩ := trodAll_cons r1
  obtain ⟨rfl, rfl, rfl⟩ := trodAll_nil r2
  obtain rfl : args = #[v0, v1, v2] := by cases args; simp_all
  obtain ⟨rfl, rfl⟩ := trodVars_none hV
  have k0 := h0
  have k1 := h1
  have k2 := h2
  have lt0 : ∀ x ∈ p0, x.block < W.heap.size := by obtain ⟨m, hm⟩ := k0; exact DataW.trod_lt m _ _ _ hm
  have lt1 : ∀ x ∈ p1, x.block < W.heap.size := by obtain ⟨m, hm⟩ := k1; exact DataW.trod_lt m _ _ _ hm
  have lt2 : ∀ x ∈ p2, x.block < W.heap.size := by obtain ⟨m, hm⟩ := k2; exact DataW.trod_lt m _ _ _ hm
  obtain ⟨cs0, rfl, hsz0⟩ := okWide_struct Try.underlying50 (hval 0 50 v0 rfl rfl)
  obtain ⟨fu0, hf0⟩ := h0
  obtain ⟨o, how, e0⟩ := output_of hf0
  obtain rfl : cs0 = o.cells := Array.toList_inj.1 e0
  obtain ⟨a1, len1, cap1, rfl⟩ := okWide_slice Try.underlying27 (hval 1 27 v1 rfl rfl)
  obtain ⟨fu1, hf1⟩ := h1
  have k3 : Try.prog.cellsOf 5 = 1 := by kernel_rfl
  obtain ⟨A, c, l, e1, hlb, hrd, hlc, hcm⟩ := trod_bytes Try.underlying27 Try.underlying5 k3 hf1
  simp only [Value.cells, List.cons.injEq, Value.slice.injEq, and_true] at e1
  obtain ⟨rfl, rfl, rfl⟩ := e1
  obtain ⟨cs2, rfl, hsz2⟩ := okWide_struct Try.underlying59 (hval 2 59 v2 rfl rfl)
  obtain ⟨fu2, hf2⟩ := h2
  obtain ⟨x, y, e2, wx, wy⟩ := change_of hf2
  obtain rfl : cs2 = #[.int .u8 x, .int .u8 y] := Array.toList_inj.1 e2
  clear hA0 hval0
  refine (walk o how _ _ l x y W hlb hrd hlc hcm wx wy).mono fun e W' ⟨he, bel⟩ => ?_
  subst he
  exact ⟨_, rfl, _, _, _, [], _, [], hW', trodAll_mk1 (shut_bool Try.underlying4 _), (trodAll_cons_mk (Below.trod laidOut (by kernel_rfl) (of_decide_eq_true (by kernel_rfl)) k0 bel lt0) (trodAll_cons_mk (Below.trod laidOut (by kernel_rfl) (of_decide_eq_true (by kernel_rfl)) k1 bel lt1) (trodAll_cons_mk (Below.trod laidOut (by kernel_rfl) (of_decide_eq_true (by kernel_rfl)) k2 bel lt2) trodAll_mk0))), rfl, Below.frame bel _, fun h => by cases h⟩

theorem over : Rows.outputBackRow.holds Try.pinned (OpenSpec.ofChange Rows.outputBackSpec) :=
  OpenClaim.holds_of_wide 5 Try.f5 rfl rfl rfl rfl rfl rfl rfl ⟨rfl, rfl, rfl, rfl, rfl⟩ rfl rfl rfl rfl rfl (by kernel_rfl) Try.func5 (by kernel_rfl)
    (of_decide_eq_true (by kernel_rfl)) (by unfold Func.isWrapper; first | (rw [if_pos (by decide +kernel)]; kernel_rfl) | (rw [if_neg (by decide +kernel)]; exact ⟨rfl, rfl⟩))
    (fun os started H enc _ => lifted os started H enc)

/-- The statement. -/
theorem proved : Rows.OutputBackSaid := over
#print axioms proved
end Go.Proofs.Ytgdlombjhbfbiaa.lawOutputBack
