/-
  Walks: the statuses' words, as bytes, one by one.
-/
import Derived.Test.YtgdlombjhbfbiaaWs
import Derived.Test.YtgdlombjhbfbiaaWb
namespace Go.Proofs.Ytgdlombjhbfbiaa
set_option linter.unusedVariables false
set_option linter.unusedSimpArgs false
open Go.RowKit
attribute [local go_sem] Oper.semAt_some

section
variable {P : Program} {F : Fence} {nn : Nat} {ops : Array Oper} {rest : List Oper} {o : Oper} {a : Act} {w : World} {Q : Exit → Act → World → Prop}
/-- A whole value loaded, in a round or an iterator. -/
theorem wpListIn_get (hgd : o.guard = none) (ty : TypeId) (x : Operand) (ho : o.op = .load ty x)
    (g off n : Nat) (hx : a.eval x = .pointer (some ⟨g, off, none⟩)) (t : TypeId) (cs cells : Array Value) (hg : Bk w g t cs) (hc : cs.extract off (off + n) = cells) (hn : cells.size = n)
    (d : TypeDesc) (hu : P.underlying ty = some d) (hd : d.isRow = true) (hi : (P.info? ty).map (·.size) = some n)
    (h : wpListIn F nn P ops Q rest (a.put o.dst (.agg cells)) w) : wpListIn F nn P ops Q (o :: rest) a w := by
  subst hc
  have hr := run_loadAt_mid (P := P) w g off ty (cs.extract off (off + n)).toList d (World.rangeAt_of_block hg off n) hu hd (by rw [hi]; simp only [Array.length_toList]; rw [hn])
  rw [Array.toArray_toList] at hr
  refine wpListIn_plain hgd fun K hK' => ?_
  unfold Oper.wpIn
  refine ⟨?_, ?_⟩
  · simp [Oper.about, ho]
  · rw [Oper.semAt_plain F _ _ (by rw [ho]; intro c hc'; cases hc')]
    simp [execOp, ho, hx, hr, Result.andThen]
    exact hK' _ _ (by simpa using h)
end

theorem RdW.book {w : World} {A : Option Addr} {xs : List Value} (h : RdW w A xs) {r : Nat} {o o' : Obj} (ho : w.heap[r]? = some o) (hc : o.isCells = false) : RdW (w.putObj r o') A xs := fun hn => by
  obtain ⟨b, off, e, hb, hcl⟩ := h hn
  exact ⟨b, off, e, by simpa using hb, fun j u hu => putObj_cell (hcl j u hu) ho hc⟩

theorem pairs_calls (cs : Array Value) (w : World) :
    Calls Try.prog 70 #[.agg cs] w fun e w' =>
      e = .returned (.func (.func 131) #[] #[.pointer (some ⟨w.heap.size, 0, none⟩)]) ∧ w.alloc (.cells cs 50) = w' := by
  go_enter Try.func70, Try.ntmps70
  go_wp2
  go_ret
  exact ⟨rfl, rfl⟩

/-- What is handed on: two bytes. -/
def Pairs (l : List Sp.St) (k : Nat) (x : Value) (W : World) : Prop := ∃ (A : Nat) (c : Nat) (s : Sp.St), x = .slice (some ⟨A, 0, none⟩) 2 c ∧ l[k]? = some s ∧ RdW W (some ⟨A, 0, none⟩) (bs (Sp.put2 s.word))

theorem pairs_iter (g : Nat) (o : Sp.Out) (hw : o.Wf) (hr : ∀ x ∈ o.sts, Sp.St.right x = true) (w : World) (hg : Bk w g 50 o.cells) :
    Iter Try.prog 131 #[.pointer (some ⟨g, 0, none⟩)] (fun _ => False) (fun i => i = g) 8 (fun k x W => ∃ v, x = #[v] ∧ Pairs o.sts k v W) w := by
  intro l S J W hW hS hJ hY h0
  have hS' := hS g rfl
  have hgW : Hid (Bk W g 50 o.cells) := hg.old hW
  have hx9 := Lib.hid (Out.ext9 hw)
  have hsz : (stCells o.sts).toArray.size = 32 := by simp [stCells_length, hw.2]
  have HL : Hid (o.sts.length = 8) := hw.2
  have hix : Hid (∀ (k : Nat) (x : Sp.St) (W : World), o.sts[k]? = some x → (Instr.index 48 (.agg (stCells o.sts).toArray) (.int .i64 k)).run Try.prog W = .ok (.agg #[.int .i64 x.i, .int .i64 x.l, .int .i64 x.s, .bool x.f]) W) := fun k x W hx => by
    have h8 : k < 8 := by have := (List.getElem?_eq_some_iff.1 hx).1; rw [hw.2] at this; exact this
    rw [run_indexN (n := 8) Try.underlying48 (by kernel_rfl : (Try.prog.info? 47).map (·.size) = some 4) _ Try.underlying47 rfl h8, stCells_four hx]
  have HRT := Lib.hid hr
  have HY := Lib.hid hY
  have HJ := Lib.hid hJ
  clear hY hJ hr hg hW hw
  generalize o.sts = L at *
  generalize (stCells L).toArray = sa at *
  generalize o.cells = cs at *
  refine callsIn_of_wp Try.func131 rfl trivial ?_ rfl
  simp only [Try.ntmps131, List.size_toArray, List.length_cons, List.length_nil, Nat.reduceAdd, Nat.reduceSub, Array.replicate_succ, Array.replicate_zero, List.push_toArray, List.append_toArray, List.nil_append, List.cons_append]
  gi_wp2_with (refine wpListIn_get rfl 48 _ rfl g 9 32 rfl 50 cs sa hgW.out hx9.out hsz _ Try.underlying48 rfl (by kernel_rfl) ?_)
  gi_loopw [9] (fun i wr => ∃ k : Nat, k ≤ 8 ∧ i = .int .i64 k ∧ Hid (Bk wr g 50 cs) ∧ Hid (J k wr)) (fun i _ => 8 - (intOf i).toNat)
  case atStart => exact ⟨0, Nat.zero_le _, rfl, hgW, h0⟩
  case round =>
    obtain ⟨k, hk, rfl, hB, hJk⟩ := hrel
    by_cases hlt : k < 8
    · obtain ⟨x, hx⟩ : ∃ x, L[k]? = some x := ⟨_, List.getElem?_eq_getElem (by rw [HL.out]; exact hlt)⟩
      have hi := fun W => hix.out k x W hx
      have hxr := HRT.out x (List.mem_of_getElem? hx)
      have HX := Lib.hid hx
      have hwd := Lib.hid (fun W => stWord_yes x W hxr)
      have hrg := Sp.St.word_range hxr
      have hsq : Sp.isSeq x.word = true := by unfold Sp.isSeq; simp; omega
      have hp2 := Lib.hid (fun W => put2_calls x.word W hsq)
      unfold Sp.St.cells at hwd
      clear hx hxr hsq hgW h0
      gi_wp2_with (first
        | (refine ⟨trivial, rfl, ?_⟩)
        | (gi_at_call 132; refine (callsIn_wide.2 (hwd.out _)).mono ?_; rintro e w1 ⟨rfl, hE1⟩)
        | (gi_at_call 65; refine (callsIn_wide.2 (hp2.out _)).mono ?_; rintro e w2 ⟨v2, rfl, hE2, ho2⟩; obtain ⟨g2, c2, rfl, _, _, _, _⟩ := own_slice_pos ho2 (by decide); have hr2 := RdW.own ho2; have hEE : Ext wr w2 := (((Ext.refl wr).alloc _).trans hE1).trans hE2; obtain ⟨fn, tmps, assign, body, hy, hR⟩ := HY.out k #[.slice (some ⟨g2, 0, none⟩) 2 c2] w2 hlt (HJ.out _ _ _ hJk.out (Keep.of_below hEE)) ⟨_, rfl, _, _, x, rfl, HX.out, hr2⟩; have HB2 : Hid (Bk w2 g 50 cs) := hB.out.old hEE; clear hEE hr2 ho2 hE2 hE1))
      refine ⟨rfl, hR.mono ?_⟩
      rintro e W3 ⟨rfl, hJ3, hK3⟩
      have HB3 : Hid (Bk W3 g 50 cs) := HB2.out.kept hK3 hS'
      have HJ3 : Hid (J (k + 1) W3) := hJ3
      clear hK3 HB2 hJ3 hR hy
      gi_wp2
      go_roundw
      case rel => exact ⟨k + 1, by omega, by go_num, HB3, HJ3⟩
      case measure => simp [intOf]; omega
    · obtain rfl : k = 8 := by omega
      have HJ8 := hJk.out
      gi_wp2
      go_end0
      exact ⟨rfl, HJ8⟩
end Go.Proofs.Ytgdlombjhbfbiaa
