/-
  Walks: the bytes of an output.
-/
import Derived.Test.YtgdlombjhbfbiaaWt
import Derived.Test.YtgdlombjhbfbiaaWf1
import Derived.Deep.DeepCutAuto
import Derived.Deep.Light
namespace Go.Proofs.Ytgdlombjhbfbiaa
set_option linter.unusedVariables false
set_option linter.unusedSimpArgs false
open Go.RowKit

theorem whole_ {cs : Array Value} {n : Nat} (h : cs.size = n) : cs.extract 0 (0 + n) = cs := by
  rw [Nat.zero_add, ← h, Array.extract_size]

theorem outEncode_no (o : Sp.Out) (hw : o.Wf) (w : World) (h : o.right = false) :
    Calls Try.prog 22 #[.agg o.cells] w fun e w' => e = .returned (.tuple #[.slice none 0 0, .int .i64 1]) ∧ Ext w w' := by
  have hr := Lib.hid (fun W => outRight_calls o hw W)
  rw [h] at hr
  have hB : Hid (Bk (w.alloc (.cells o.cells 50)) w.heap.size 50 o.cells) := Bk.new w _ _
  have hs := Out.size hw
  have hwh := Lib.hid (whole_ hs)
  clear h
  generalize o.cells = cs at *
  go_enter Try.func22, Try.ntmps22
  go_wp2_with (first
    | (refine wpList_get rfl 50 _ rfl w.heap.size 0 41 rfl 50 cs cs hB.out hwh.out hs _ Try.underlying50 rfl (by kernel_rfl) ?_)
    | (go_at_call 27; refine (hr.out _).mono ?_; rintro e w' ⟨rfl, hE⟩))
  go_ret2
  exact ⟨rfl, ((Ext.refl w).alloc _).trans hE⟩

theorem own_blk_ne {w : World} {base g : Nat} {e t : TypeId} {size n : Nat} {v : Value} {xs : List Value} {cs : Array Value} (h : w.ownsRow base e size v n xs) (hg : Bk w g t cs) (hne : e ≠ t) : some g ≠ v.ownBlock := by
  rcases h.2 with ⟨rfl, _⟩ | ⟨g', cap, cur, rfl, _, hh, _⟩
  · simp [Value.ownBlock]
  · intro he
    have : g = g' := by simpa [Value.ownBlock] using he
    subst this
    exact Bk.ne_ (t := e) hh hg hne rfl

theorem own_set_ne {w : World} {base : Nat} {e : TypeId} {size n : Nat} {v : Value} {xs : List Value} (h : w.ownsRow base e size v n xs) {p : Addr} (hp : some p.block ≠ v.ownBlock) (u : Value) : (w.setCell p u).ownsRow base e size v n xs := by
  refine ⟨h.1, ?_⟩
  rcases h.2 with hz | ⟨g, cap, cur, rfl, hg, hh, r⟩
  · exact .inl hz
  · refine .inr ⟨g, cap, cur, rfl, hg, (Below.heap_setCell w p u g (fun e => hp (by simp [Value.ownBlock, e]))).trans hh, r⟩

/-- An output loaded whole: a word that the walk's steps do not open. -/
def ldOut (v : Value) : Sem Value := Instr.loadAt 50 v
theorem ldOut_eq (v : Value) : Instr.loadAt 50 v = ldOut v := rfl
attribute [local go_sem ↓] ldOut_eq
attribute [local go_sem] Oper.semAt_some

theorem Bk.ext {w w' : World} {g : Nat} {t : TypeId} {cs : Array Value} (h : Bk w g t cs) (k : Ext w w') : Bk w' g t cs := h.old k

theorem concat3_lit2 {A A1 A2 A3 : Option Addr} {c c1 c2 c3 : Nat} {w : World} {ob : Obj} (n1 n2 n3 : Nat) (l1 l2 l3 : List Int) (h1 : l1.length = n1) (h2 : l2.length = n2) (h3 : l3.length = n3)
    (hA : A = some ⟨w.heap.size, 0, none⟩) (r1 : RdW w A1 (bs l1)) (r2 : RdW w A2 (bs l2)) (r3 : RdW w A3 (bs l3)) (hlen : n1 + n2 + n3 ≤ 1000000) :
    Calls Try.prog 64 #[.slice A 3 c] ((w.alloc (.cells #[.slice A1 n1 c1, .slice A2 n2 c2, .slice A3 n3 c3] 27)).alloc ob)
      (Gives ((w.alloc (.cells #[.slice A1 n1 c1, .slice A2 n2 c2, .slice A3 n3 c3] 27)).alloc ob) 5 1 (n1 + n2 + n3) (bs (l1 ++ l2 ++ l3))) :=
  concat3_calls A A1 A2 A3 c c1 c2 c3 n1 n2 n3 l1 l2 l3 _ h1 h2 h3 (RdW.alloc (RdW.new' w A [.slice A1 n1 c1, .slice A2 n2 c2, .slice A3 n3 c3] _ hA) _) ((r1.alloc _).alloc _) ((r2.alloc _).alloc _) ((r3.alloc _).alloc _) hlen

def headBody (o : Sp.Out) : List Int := [90, o.failed] ++ Sp.put2 o.seq ++ Sp.putAll o.vals

set_option maxRecDepth 100000 in
set_option maxHeartbeats 4000000 in
theorem outEncode_yes (o : Sp.Out) (hw : o.Wf) (w : World) (h : o.right = true) :
    Calls Try.prog 22 #[.agg o.cells] w fun e w' => ∃ v, e = .returned (.tuple #[v, .int .i64 0]) ∧ Ext w w' ∧ w'.ownsRow w.heap.size 5 1 v 54 (bs o.enc) := by
  have hr := Lib.hid (fun W => outRight_calls o hw W)
  rw [h] at hr
  have hfl := Lib.hid (fun W => outFailed_calls o hw W)
  obtain ⟨hseq, hvals, hsts⟩ := Sp.Out.right_parts h
  have hB : Hid (Bk (w.alloc (.cells o.cells 50)) w.heap.size 50 o.cells) := Bk.new w _ _
  have hs := Out.size hw
  have hwh := Lib.hid (whole_ hs)
  have hrv : Hid (∀ W, Bk W w.heap.size 50 o.cells → RdW W (some ⟨w.heap.size, 1, none⟩) (is_ o.vals)) := fun W hW => hW.rdw 1 _ (Out.at1 o)
  have hff : IntKind.u8.wrap o.failed = o.failed := by
    have := Sp.failedOf_le o.sts
    rw [hw.2] at this
    unfold Sp.Out.failed
    exact IntWalk.u8_in _ (by omega)
  have hpa : Hid (∀ W, RdW W (some ⟨w.heap.size, 1, none⟩) (is_ o.vals) → Calls Try.prog 66 #[.slice (some ⟨w.heap.size, 1, none⟩) 8 8] W (Gives W 5 1 32 (bs (Sp.putAll o.vals)))) := fun W hW => by
    have := putAll_calls (some ⟨w.heap.size, 1, none⟩) 8 o.vals W hvals hW (by rw [hw.1]; decide)
    rw [hw.1] at this
    exact this
  have hp2 := Lib.hid (fun W => put2_calls o.seq W hseq)
  have hlen : Hid ((Sp.putAll o.vals).length = 32) := by show _ = _; rw [Sp.putAll_length, hw.1]
  have hlit : Hid (∀ (W : World) (A : Option Addr), A = some ⟨W.heap.size, 0, none⟩ → RdW (W.alloc (.cells #[.int .u8 90, .int .u8 o.failed] 5)) A (bs [90, o.failed])) := fun W A h => RdW.new' W A (bs [90, o.failed]) _ h
  have hhb : Hid (headBody o = [90, o.failed] ++ Sp.put2 o.seq ++ Sp.putAll o.vals) := rfl
  have HO := Lib.hid hsts
  have HRG := Lib.hid h
  clear hseq hvals hsts h
  obtain ⟨fl, hfle⟩ : ∃ fl, o.failed = fl := ⟨_, rfl⟩
  obtain ⟨n, hn⟩ : ∃ n, o.seq = n := ⟨_, rfl⟩
  obtain ⟨l3, hl3⟩ : ∃ l, Sp.putAll o.vals = l := ⟨_, rfl⟩
  obtain ⟨cs, hcs⟩ : ∃ l, o.cells = l := ⟨_, rfl⟩
  rw [hfle] at hfl hff hlit hhb
  rw [hn] at hp2 hhb
  rw [hl3] at hpa hlen hhb
  have hld : Hid (∀ W, Bk W w.heap.size 50 o.cells → (ldOut (.pointer (some ⟨w.heap.size, 0, none⟩))).run Try.prog W = .ok (.agg o.cells) W ∧ W.cell? ⟨w.heap.size, 0, none⟩ = some (.int .i64 n)) := fun W hW => by
    refine ⟨?_, (hW.cell 0).trans (by rw [Out.at0 o, hn])⟩
    have := run_loadAt_mid (P := Try.prog) W w.heap.size 0 50 o.cells.toList _ (fun j v hv => by rw [Nat.zero_add, hW.cell j]; simpa using hv) Try.underlying50 rfl (by rw [Array.length_toList, hs]; kernel_rfl)
    rwa [Array.toArray_toList] at this
  rw [hcs] at hr hfl hB hs hwh hrv hld ⊢
  have HCS := Lib.hid hcs
  clear hfle hn hl3 hcs
  refine calls_of_wp_marks Try.func22 rfl ?_
  simp only [Try.ntmps22, List.size_toArray, List.length_cons, List.length_nil, Nat.reduceAdd, Nat.reduceSub, Array.replicate_succ, Array.replicate_zero, List.push_toArray, List.append_toArray, List.nil_append, List.cons_append]
  go_upto_region 3 with (first
    | (refine wpList_get rfl 50 _ rfl w.heap.size 0 41 rfl 50 _ _ hB.out hwh.out hs _ Try.underlying50 rfl (by kernel_rfl) ?_)
    | (go_at_call 27; refine (hr.out _).mono ?_; rintro e w1 ⟨rfl, hE1⟩))
  have hB1 : Hid (Bk w1 w.heap.size 50 cs) := hB.out.old hE1
  have HE1 : Hid (Ext w w1) := ((Ext.refl w).alloc _).trans hE1
  have hlt1 : w.heap.size < w1.heap.size := hB1.out.lt
  clear hE1 hB hr
  go_cut [4] from 4 to 20 (fun s4 wx => ∃ (g4 : Nat) (A : Option Addr) (c : Nat), s4 = .pointer (some ⟨g4, 0, none⟩) ∧ w.heap.size < g4 ∧ Hid (Bk wx g4 27 #[.slice A 36 c]) ∧ Hid (wx.ownsRow (w.heap.size + 1) 5 1 (.slice A 36 c) 36 (bs (headBody o))) ∧ Hid (Ext w wx) ∧ Hid (Bk wx w.heap.size 50 cs))
  case first =>
    go_region_held3 (fun W => (ldOut (.pointer (some ⟨w.heap.size, 0, none⟩))).run Try.prog W = .ok (.agg cs) W ∧ W.cell? ⟨w.heap.size, 0, none⟩ = some (.int .i64 n))
      (focus ((refine hld.out _ ?_); (repeat (first | (with_reducible exact hB1.out) | ((with_reducible refine Bk.far ?_ ?_ _); rotate_left; (focus ((try simp only [World.size_alloc, World.size_drew]); omega))) | (with_reducible refine Bk.drew ?_) | (with_reducible refine Bk.alloc ?_ _) | (with_reducible refine Bk.ext ?_ hb5) | (with_reducible refine Bk.ext ?_ hb4) | (with_reducible refine Bk.ext ?_ hb3) | (with_reducible refine Bk.ext ?_ hb2))); done))
      (first
        | (go_at_call 29; refine (hfl.out _).mono ?_; rintro e w2 ⟨rfl, hb2⟩; (try ((first | (have hbo2 := Bk.ext (t := 27) (cs := #[.slice none 0 0]) (Bk.drew (Bk.new_at _ _ _ rfl)) hb2) | (have hbo2 := Bk.ext (t := 27) (cs := #[.slice none 0 0]) (Bk.drew (Bk.alloc (Bk.new_at _ _ _ rfl) _)) hb2) | (have hbo2 := Bk.ext (t := 27) (cs := #[.slice none 0 0]) (Bk.drew (Bk.alloc (Bk.alloc (Bk.new_at _ _ _ rfl) _) _)) hb2) | (have hbo2 := Bk.ext (t := 27) (cs := #[.slice none 0 0]) (Bk.new_at _ _ _ rfl) hb2) | (have hbo2 := Bk.ext (t := 27) (cs := #[.slice none 0 0]) (Bk.alloc (Bk.new_at _ _ _ rfl) _) hb2) | (have hbo2 := Bk.ext (t := 27) (cs := #[.slice none 0 0]) (Bk.alloc (Bk.alloc (Bk.new_at _ _ _ rfl) _) _) hb2)); (try simp only [World.size_alloc, World.size_drew] at hbo2); obtain ⟨zo2, zf2⟩ := Bk.c1 hbo2)); have hz2 := Ext.size hb2; (try simp only [World.size_alloc, World.size_drew] at hz2))
        | (go_at_call 65; refine (hp2.out _).mono ?_; rintro e w3 ⟨v3, rfl, hb3, ho3⟩; replace hb3 : Ext _ _ := hb3; obtain ⟨g3, c3, rfl, _, _, _, _⟩ := own_slice_pos ho3 (by decide); have hr3 := RdW.own ho3; (try ((first | (have hbo3 := Bk.ext (t := 27) (cs := #[.slice none 0 0]) (Bk.new_at _ _ _ rfl) hb3) | (have hbo3 := Bk.ext (t := 27) (cs := #[.slice none 0 0]) (Bk.alloc (Bk.new_at _ _ _ rfl) _) hb3) | (have hbo3 := Bk.ext (t := 27) (cs := #[.slice none 0 0]) (Bk.alloc (Bk.alloc (Bk.new_at _ _ _ rfl) _) _) hb3) | (have hbo3 := Bk.ext (t := 27) (cs := #[.slice none 0 0]) hbo2 hb3) | (have hbo3 := Bk.ext (t := 27) (cs := #[.slice none 0 0]) (Bk.alloc hbo2 _) hb3) | (have hbo3 := Bk.ext (t := 27) (cs := #[.slice none 0 0]) (Bk.alloc (Bk.alloc hbo2 _) _) hb3)); (try simp only [World.size_alloc, World.size_drew] at hbo3); obtain ⟨zo3, zf3⟩ := Bk.c1 hbo3)); have hz3 := Ext.size hb3; (try simp only [World.size_alloc, World.size_drew] at hz3))
        | (go_at_call 66; refine (hpa.out _ ?_).mono ?_; (focus ((refine hrv.out _ ?_); (repeat (first | (with_reducible exact hB1.out) | (with_reducible refine Bk.drew ?_) | (with_reducible refine Bk.alloc ?_ _) | (with_reducible refine Bk.ext ?_ hb3) | (with_reducible refine Bk.ext ?_ hb2))); done)); rintro e w4 ⟨v4, rfl, hb4, ho4⟩; replace hb4 : Ext _ _ := hb4; obtain ⟨g4, c4, rfl, _, _, _, _⟩ := own_slice_pos ho4 (by decide); have hr4 := RdW.own ho4; (try ((first | (have hbo4 := Bk.ext (t := 27) (cs := #[.slice none 0 0]) (Bk.new_at _ _ _ rfl) hb4) | (have hbo4 := Bk.ext (t := 27) (cs := #[.slice none 0 0]) (Bk.alloc (Bk.new_at _ _ _ rfl) _) hb4) | (have hbo4 := Bk.ext (t := 27) (cs := #[.slice none 0 0]) (Bk.alloc (Bk.alloc (Bk.new_at _ _ _ rfl) _) _) hb4) | (have hbo4 := Bk.ext (t := 27) (cs := #[.slice none 0 0]) hbo3 hb4) | (have hbo4 := Bk.ext (t := 27) (cs := #[.slice none 0 0]) (Bk.alloc hbo3 _) hb4) | (have hbo4 := Bk.ext (t := 27) (cs := #[.slice none 0 0]) (Bk.alloc (Bk.alloc hbo3 _) _) hb4)); (try simp only [World.size_alloc, World.size_drew] at hbo4); obtain ⟨zo4, zf4⟩ := Bk.c1 hbo4)); have hz4 := Ext.size hb4; (try simp only [World.size_alloc, World.size_drew] at hz4))
        | (go_at_call 64; (with_reducible refine (concat3_lit 2 2 32 [90, fl] (Sp.put2 n) l3 rfl rfl hlen.out ?_ ?_ ?_ ?_ (of_decide_eq_true rfl)).mono ?_); (focus (first | rfl | simp)); (focus ((show RdW _ _ _); (repeat (first | (with_reducible assumption) | ((with_reducible refine hlit.out _ _ ?_); first | rfl | simp) | (with_reducible refine RdW.drew ?_) | (with_reducible refine RdW.alloc ?_ _) | (with_reducible refine RdW.ext ?_ hb4) | (with_reducible refine RdW.ext ?_ hb3) | (with_reducible refine RdW.ext ?_ hb2))); done)); (focus ((show RdW _ _ _); (repeat (first | (with_reducible assumption) | ((with_reducible refine hlit.out _ _ ?_); first | rfl | simp) | (with_reducible refine RdW.drew ?_) | (with_reducible refine RdW.alloc ?_ _) | (with_reducible refine RdW.ext ?_ hb4) | (with_reducible refine RdW.ext ?_ hb3) | (with_reducible refine RdW.ext ?_ hb2))); done)); (focus ((show RdW _ _ _); (repeat (first | (with_reducible assumption) | ((with_reducible refine hlit.out _ _ ?_); first | rfl | simp) | (with_reducible refine RdW.drew ?_) | (with_reducible refine RdW.alloc ?_ _) | (with_reducible refine RdW.ext ?_ hb4) | (with_reducible refine RdW.ext ?_ hb3) | (with_reducible refine RdW.ext ?_ hb2))); done)); rintro e w5 ⟨v5, rfl, hb5, ho5⟩; replace hb5 : Ext _ _ := hb5; obtain ⟨A5, c5, rfl, _, _⟩ := own_slice ho5; (try ((first | (have hbo5 := Bk.ext (t := 27) (cs := #[.slice none 0 0]) (Bk.new_at _ _ _ rfl) hb5) | (have hbo5 := Bk.ext (t := 27) (cs := #[.slice none 0 0]) (Bk.alloc (Bk.new_at _ _ _ rfl) _) hb5) | (have hbo5 := Bk.ext (t := 27) (cs := #[.slice none 0 0]) (Bk.alloc (Bk.alloc (Bk.new_at _ _ _ rfl) _) _) hb5) | (have hbo5 := Bk.ext (t := 27) (cs := #[.slice none 0 0]) hbo4 hb5) | (have hbo5 := Bk.ext (t := 27) (cs := #[.slice none 0 0]) (Bk.alloc hbo4 _) hb5) | (have hbo5 := Bk.ext (t := 27) (cs := #[.slice none 0 0]) (Bk.alloc (Bk.alloc hbo4 _) _) hb5)); (try simp only [World.size_alloc, World.size_drew] at hbo5); obtain ⟨zo5, zf5⟩ := Bk.c1 hbo5)); have hz5 := Ext.size hb5; (try simp only [World.size_alloc, World.size_drew] at hz5))
        | (go_at_call 64; (with_reducible refine (concat3_lit2 2 2 32 [90, fl] (Sp.put2 n) l3 rfl rfl hlen.out ?_ ?_ ?_ ?_ (of_decide_eq_true rfl)).mono ?_); (focus (first | rfl | simp)); (focus ((show RdW _ _ _); (repeat (first | (with_reducible assumption) | ((with_reducible refine hlit.out _ _ ?_); first | rfl | simp) | (with_reducible refine RdW.drew ?_) | (with_reducible refine RdW.alloc ?_ _) | (with_reducible refine RdW.ext ?_ hb4) | (with_reducible refine RdW.ext ?_ hb3) | (with_reducible refine RdW.ext ?_ hb2))); done)); (focus ((show RdW _ _ _); (repeat (first | (with_reducible assumption) | ((with_reducible refine hlit.out _ _ ?_); first | rfl | simp) | (with_reducible refine RdW.drew ?_) | (with_reducible refine RdW.alloc ?_ _) | (with_reducible refine RdW.ext ?_ hb4) | (with_reducible refine RdW.ext ?_ hb3) | (with_reducible refine RdW.ext ?_ hb2))); done)); (focus ((show RdW _ _ _); (repeat (first | (with_reducible assumption) | ((with_reducible refine hlit.out _ _ ?_); first | rfl | simp) | (with_reducible refine RdW.drew ?_) | (with_reducible refine RdW.alloc ?_ _) | (with_reducible refine RdW.ext ?_ hb4) | (with_reducible refine RdW.ext ?_ hb3) | (with_reducible refine RdW.ext ?_ hb2))); done)); rintro e w5 ⟨v5, rfl, hb5, ho5⟩; replace hb5 : Ext _ _ := hb5; obtain ⟨A5, c5, rfl, _, _⟩ := own_slice ho5; (try ((first | (have hbo5 := Bk.ext (t := 27) (cs := #[.slice none 0 0]) (Bk.new_at _ _ _ rfl) hb5) | (have hbo5 := Bk.ext (t := 27) (cs := #[.slice none 0 0]) (Bk.alloc (Bk.new_at _ _ _ rfl) _) hb5) | (have hbo5 := Bk.ext (t := 27) (cs := #[.slice none 0 0]) (Bk.alloc (Bk.alloc (Bk.new_at _ _ _ rfl) _) _) hb5) | (have hbo5 := Bk.ext (t := 27) (cs := #[.slice none 0 0]) hbo4 hb5) | (have hbo5 := Bk.ext (t := 27) (cs := #[.slice none 0 0]) (Bk.alloc hbo4 _) hb5) | (have hbo5 := Bk.ext (t := 27) (cs := #[.slice none 0 0]) (Bk.alloc (Bk.alloc hbo4 _) _) hb5)); (try simp only [World.size_alloc, World.size_drew] at hbo5); obtain ⟨zo5, zf5⟩ := Bk.c1 hbo5)); have hz5 := Ext.size hb5; (try simp only [World.size_alloc, World.size_drew] at hz5)))
    all_goals go_wp2_with fail
    all_goals go_meet
    all_goals go_light
    all_goals first
      | (have hq : Bk _ _ 27 #[.slice A5 36 c5] := Bk.set_ hbo5 0 (.slice A5 36 c5)
         refine ⟨_, A5, c5, rfl, ?_, hq, ?_, ?_, ?_⟩
         · ((try simp only [World.size_alloc, World.size_drew]); omega)
         · show World.ownsRow _ _ _ _ _ _ _
           rw [hhb.out]
           exact ownsRow_base (own_set ho5 (by ((try simp only [World.size_alloc, World.size_drew]); omega)) _) (by ((try simp only [World.size_alloc, World.size_drew]); omega))
         · show Ext w _
           (repeat (first | (with_reducible exact HE1.out) | (with_reducible refine Ext.trans ?_ hb5) | (with_reducible refine Ext.trans ?_ hb4) | (with_reducible refine Ext.trans ?_ hb3) | (with_reducible refine Ext.trans ?_ hb2) | (with_reducible refine Ext.alloc ?_ _) | (with_reducible refine Ext.drew ?_) | ((with_reducible refine Ext.setCell ?_ ?_ _); rotate_left; (focus ((try simp only [World.size_alloc, World.size_drew]); omega)))))
         · show Bk _ _ _ _
           (repeat (first | (with_reducible exact hB1.out) | (with_reducible refine Bk.drew ?_) | (with_reducible refine Bk.alloc ?_ _) | (with_reducible refine Bk.ext ?_ hb5) | (with_reducible refine Bk.ext ?_ hb4) | (with_reducible refine Bk.ext ?_ hb3) | (with_reducible refine Bk.ext ?_ hb2) | ((with_reducible refine Bk.far ?_ ?_ _); rotate_left; (focus ((try simp only [World.size_alloc, World.size_drew]); omega))))))
      | (refine ⟨_, A5, c5, rfl, ?_, Bk.new_at _ _ _ rfl, ?_, ?_, ?_⟩
         · ((try simp only [World.size_alloc, World.size_drew]); omega)
         · show World.ownsRow _ _ _ _ _ _ _
           rw [hhb.out]
           exact ownsRow_base (World.ownsRow.alloc ho5 _) (by ((try simp only [World.size_alloc, World.size_drew]); omega))
         · show Ext w _
           (repeat (first | (with_reducible exact HE1.out) | (with_reducible refine Ext.trans ?_ hb5) | (with_reducible refine Ext.trans ?_ hb4) | (with_reducible refine Ext.trans ?_ hb3) | (with_reducible refine Ext.trans ?_ hb2) | (with_reducible refine Ext.alloc ?_ _) | (with_reducible refine Ext.drew ?_) | ((with_reducible refine Ext.setCell ?_ ?_ _); rotate_left; (focus ((try simp only [World.size_alloc, World.size_drew]); omega)))))
         · show Bk _ _ _ _
           (repeat (first | (with_reducible exact hB1.out) | (with_reducible refine Bk.drew ?_) | (with_reducible refine Bk.alloc ?_ _) | (with_reducible refine Bk.ext ?_ hb5) | (with_reducible refine Bk.ext ?_ hb4) | (with_reducible refine Bk.ext ?_ hb3) | (with_reducible refine Bk.ext ?_ hb2) | ((with_reducible refine Bk.far ?_ ?_ _); rotate_left; (focus ((try simp only [World.size_alloc, World.size_drew]); omega))))))
  case rest =>
    obtain ⟨g4, A4, c4, rfl, hg4, HB4, HO4, HE4, HBN⟩ := hcut
    clear hff hhb hlen hlit hpa hp2 hrv hld hfl hB1 HE1 hlt1
    have hit := pairs_iter wc.heap.size o hw HO.out (wc.alloc (.cells cs 50)) (by rw [HCS.out]; exact Bk.new _ _ _)
    have HBP : Hid (Bk (wc.alloc (.cells cs 50)) wc.heap.size 50 cs) := Bk.new _ _ _
    have HIT := Lib.hid hit
    have hwn : w.heap.size < wc.heap.size := HBN.out.lt
    have hg4c : g4 < wc.heap.size := HB4.out.lt
    have HW := Lib.hid hw
    clear hit hw
    go_wp2_with (first
      | (refine wpList_get rfl 50 _ rfl w.heap.size 0 41 rfl 50 cs cs HBN.out hwh.out hs _ Try.underlying50 rfl (by kernel_rfl) ?_)
      | (go_at_call 70; refine (pairs_calls cs _).mono ?_; rintro e w' ⟨rfl, rfl⟩))
    apply wp_rangeFunc1 (fun _ => False) (fun i => i = wc.heap.size) (fun i => w.heap.size < i ∧ i ≠ wc.heap.size) 8 (Pairs o.sts)
      (fun k W => ∃ (A : Option Addr) (c : Nat), Bk W g4 27 #[.slice A (36 + 2 * k) c] ∧ W.ownsRow (w.heap.size + 1) 5 1 (.slice A (36 + 2 * k) c) (36 + 2 * k) (bs (headBody o ++ Sp.words (o.sts.take k))) ∧ Below w.heap.size w W ∧ Bk W wc.heap.size 50 cs)
      (gf := 131) (lb := #[.pointer (some ⟨wc.heap.size, 0, none⟩)]) rfl (enters_ Try.func131 (by kernel_rfl) rfl) HIT.out
    case hprot => intro i hi; subst hi; simp
    case hown => intro i hi; exact hi.elim
    case hI =>
      intro k
      refine Stays.ex fun A => Stays.ex fun c => Stays.and (Stays.bk _ _ _ (fun h => h)) (Stays.and (Stays.row (fun _ _ h => h) _ _ _ _ _) (Stays.and (Stays.below (Nat.le_refl _) (by simp; omega) (fun _ _ h => h)) (Stays.bk _ _ _ (fun h => h))))
    case h0 =>
      refine ⟨A4, c4, HB4.out.alloc _, ?_, Ext.alloc HE4.out _, HBP.out⟩
      have := World.ownsRow.alloc HO4.out (.cells cs 50)
      rw [show headBody o ++ Sp.words (o.sts.take 0) = headBody o from by simp [Sp.words]]
      exact this
    case hE =>
      rintro k x W r ob o' ⟨P2, c2, s, rfl, hs2, hr2⟩ _ hr hc
      exact ⟨P2, c2, s, rfl, hs2, hr2.book hr hc⟩
    case hassign =>
      intro l' x W
      gi_wp2
      exact ⟨rfl, trivial⟩
    case hbody =>
      rintro l' k x W hk ⟨A', c', hB, hrow, hbel, hBp⟩ ⟨P2, c2, s, rfl, hs2, hr2⟩ hsz
      simp only [World.size_alloc] at hsz
      have hc0 : W.cell? ⟨g4, 0, none⟩ = some (.slice A' (36 + 2 * k) c') := hB.cell 0
      have hf0 : W.frozen? ⟨g4, 0, none⟩ = false := hB.frozen 0
      have hn1 := own_blk_ne hrow hB (by decide)
      have hn2 := own_blk_ne hrow hBp (by decide)
      have HB := Lib.hid hB
      have HRW := Lib.hid hrow
      have HBL := Lib.hid hbel
      have HBp := Lib.hid hBp
      have HS2 := Lib.hid hs2
      have HR2 := Lib.hid hr2
      have HN1 := Lib.hid hn1
      have HN2 := Lib.hid hn2
      clear hB hrow hbel hBp hs2 hr2 hn1 hn2
      gi_wp2_with (first | (refine ⟨trivial, rfl, ?_⟩) | (gi_at_builtin; refine wpListIn_app elemU8 rfl _ _ rfl (w.heap.size + 1) (.slice A' (36 + 2 * k) c') (36 + 2 * k) _ rfl HRW.out W.heap.size (some ⟨P2, 0, none⟩) 2 c2 (bs (Sp.put2 s.word)) rfl rfl HR2.out (bs_one _) (by unfold maxLen; omega) (by omega) (by omega) ?_; intro v' w1 hown' hgrow; obtain ⟨A2, c3, rfl, _, _⟩ := own_slice hown'; have hB1 := HB.out.grown hgrow HN1.out; have hc1 := hB1.cell 0; have hf1 := hB1.frozen 0))
      have e2 : 36 + 2 * (k + 1) = 36 + 2 * k + 2 := by omega
      have e3 : bs (headBody o ++ Sp.words (o.sts.take (k + 1))) = bs (headBody o ++ Sp.words (o.sts.take k)) ++ bs (Sp.put2 s.word) := by
        rw [List.take_add_one, HS2.out, Option.toList_some, ← bs_append, List.append_assoc]
        simp [Sp.words]
      have hn3 := own_blk_ne hown' hB1 (by decide)
      have hbl := HBL.out.size
      rw [e2, e3]
      refine ⟨?_, A2, c3, hB1.set_ 0 _, own_set_ne hown' hn3 _, ?_, ?_⟩
      · exact (((RKeep.refl _ W).grown hgrow (fun g hg _ => .inl ⟨by have := (HRW.out.lt g hg).1; omega, fun e => HN2.out (by rw [hg, e])⟩) (row_cells HRW.out)).setCell (p := ⟨g4, 0, none⟩) (fun _ => .inl ⟨hg4, by show g4 ≠ _; omega⟩) _)
      · exact (HBL.out.grown hgrow hbl (fun g hg => by have := (HRW.out.lt g hg).1; omega)).setCell (p := ⟨g4, 0, none⟩) (by show w.heap.size ≤ g4; omega) _
      · exact (HBp.out.grown hgrow HN2.out).far (p := ⟨g4, 0, none⟩) (by show wc.heap.size ≠ g4; omega) _
    case hdone =>
      rintro D W hD ⟨A', c', hB, hrow, hbel, hBp⟩ hK
      simp only [World.size_alloc] at hD
      rw [List.take_of_length_le (by rw [HW.out.2]; decide)] at hrow
      have hbody : headBody o ++ Sp.words o.sts = o.body := rfl
      rw [hbody] at hrow
      have hc0 : W.cell? ⟨g4, 0, none⟩ = some (.slice A' 52 c') := hB.cell 0
      have hse := Lib.hid (crcSeal_n A' c' 52 o.body W (Sp.Out.body_length HW.out) (Sp.Out.body_bytes HW.out HRG.out) (RdW.own hrow) (by decide))
      have HK := Lib.hid hK
      have HBL : Hid (Below w.heap.size w W) := hbel
      clear hB hrow hBp hbody hK hbel HIT HBP HB4 HO4 HE4 HBN
      go_wp2_with (go_at_call 63; refine hse.out.mono ?_; rintro e w5 ⟨v5, rfl, hb5, ho5⟩)
      have hK5 : w5.heap[D]? = some (.deferred (some [])) := (hb5.block D (Array.getElem?_eq_some_iff.1 HK.out).1).trans HK.out
      exact leave_mark hK5 (results_tmp2 rfl _ _ _) ⟨v5, rfl, below_put (HBL.out.trans (hb5.mono HBL.out.size)) _ _ (by omega), own_put (ownsRow_base ho5 HBL.out.size) hK5 rfl⟩
end Go.Proofs.Ytgdlombjhbfbiaa
