/-
  Walks: a track takes a slot.
-/
import Derived.Test.YtgdlombjhbfbiaaWg
import Derived.Deep.RegionHeld3
import Derived.Deep.QuietTactic
import Derived.BigQuiet
import Derived.Deep.DeepCutAuto
import Derived.Deep.Light
import Derived.Deep.DeepMust
namespace Go.Proofs.Ytgdlombjhbfbiaa
set_option linter.unusedVariables false
set_option linter.unusedSimpArgs false
open Go.RowKit

/-- What came of a channel. -/
structure Trk where
  ch : Int
  last : Int
  begun : Bool
  c0 : Int
  c1 : Int
  c2 : Int
  c3 : Int
  c4 : Int
  c5 : Int
  c6 : Int

def Trk.cells (T : Trk) : Array Value := #[.int .i64 T.ch, .int .i64 T.last, .bool T.begun, .int .i64 T.c0, .int .i64 T.c1, .int .i64 T.c2, .int .i64 T.c3, .int .i64 T.c4, .int .i64 T.c5, .int .i64 T.c6]
def Trk.counts (T : Trk) : List Int := [T.c0, T.c1, T.c2, T.c3, T.c4, T.c5, T.c6]
def Trk.bump (T : Trk) : Nat → Trk
  | 0 => { T with c0 := T.c0 + 1 }
  | 1 => { T with c1 := T.c1 + 1 }
  | 2 => { T with c2 := T.c2 + 1 }
  | 3 => { T with c3 := T.c3 + 1 }
  | 4 => { T with c4 := T.c4 + 1 }
  | 5 => { T with c5 := T.c5 + 1 }
  | _ => { T with c6 := T.c6 + 1 }
/-- A frame that came becomes the last one. -/
def Trk.seen (T : Trk) (f : Fr) : Trk := { T with last := f.seq, begun := true }
/-- Is a frame the next one? -/
def Trk.fits (T : Trk) (f : Fr) : Bool := !T.begun || f.seq == Sp.next T.last
/-- The track behind a slot; its frame; its reject. -/
def Trk.step (T : Trk) (is : Bool) (l : List Int) : Trk × Fr × Int :=
  if reject T.ch is l ≠ 0 then (T, Fr.zero, reject T.ch is l)
  else (T.seen (frOf l), if T.fits (frOf l) = true then (frOf l, 0) else (Fr.zero, 6))

theorem cell_new {w : World} {cs : Array Value} {t : TypeId} {i : Nat} {v : Value} (h : cs[i]? = some v) : (w.alloc (.cells cs t)).cell? ⟨w.heap.size, i, none⟩ = some v := (Bk.cell (Bk.new w t cs) i).trans h
theorem cell_far {w : World} {p q : Addr} {v : Value} (h : w.cell? p = some v) (hp : q.block ≠ p.block) (u : Value) : (w.setCell q u).cell? p = some v :=
  (World.cell?_setCell_other w q p u (fun e => hp (by rw [e]))).trans h

theorem Ext.sets9 {w w' : World} {g : Nat} (h : Ext w w') (hg : w.heap.size ≤ g) (v0 v1 v2 v3 v4 v5 v6 v7 v8 : Value) : Ext w (((((((((w'.setCell ⟨g, 0, none⟩ v0).setCell ⟨g, 1, none⟩ v1).setCell ⟨g, 2, none⟩ v2).setCell ⟨g, 3, none⟩ v3).setCell ⟨g, 4, none⟩ v4).setCell ⟨g, 5, none⟩ v5).setCell ⟨g, 6, none⟩ v6).setCell ⟨g, 7, none⟩ v7).setCell ⟨g, 8, none⟩ v8) :=
  Ext.setCell (Ext.setCell (Ext.setCell (Ext.setCell (Ext.setCell (Ext.setCell (Ext.setCell (Ext.setCell (Ext.setCell (h) (p := ⟨g, _, none⟩) hg _) (p := ⟨g, _, none⟩) hg _) (p := ⟨g, _, none⟩) hg _) (p := ⟨g, _, none⟩) hg _) (p := ⟨g, _, none⟩) hg _) (p := ⟨g, _, none⟩) hg _) (p := ⟨g, _, none⟩) hg _) (p := ⟨g, _, none⟩) hg _) (p := ⟨g, _, none⟩) hg _
theorem Bk.far9 {w : World} {g g' : Nat} {t : TypeId} {cs : Array Value} (h : Bk w g' t cs) (hg : g' ≠ g) (v0 v1 v2 v3 v4 v5 v6 v7 v8 : Value) : Bk (((((((((w.setCell ⟨g, 0, none⟩ v0).setCell ⟨g, 1, none⟩ v1).setCell ⟨g, 2, none⟩ v2).setCell ⟨g, 3, none⟩ v3).setCell ⟨g, 4, none⟩ v4).setCell ⟨g, 5, none⟩ v5).setCell ⟨g, 6, none⟩ v6).setCell ⟨g, 7, none⟩ v7).setCell ⟨g, 8, none⟩ v8) g' t cs :=
  Bk.far (Bk.far (Bk.far (Bk.far (Bk.far (Bk.far (Bk.far (Bk.far (Bk.far (h) (p := ⟨g, _, none⟩) hg _) (p := ⟨g, _, none⟩) hg _) (p := ⟨g, _, none⟩) hg _) (p := ⟨g, _, none⟩) hg _) (p := ⟨g, _, none⟩) hg _) (p := ⟨g, _, none⟩) hg _) (p := ⟨g, _, none⟩) hg _) (p := ⟨g, _, none⟩) hg _) (p := ⟨g, _, none⟩) hg _
theorem Bk.sets9 {w : World} {g : Nat} {t : TypeId} {u0 u1 u2 u3 u4 u5 u6 u7 u8 : Value} (h : Bk w g t #[u0, u1, u2, u3, u4, u5, u6, u7, u8]) (v0 v1 v2 v3 v4 v5 v6 v7 v8 : Value) : Bk (((((((((w.setCell ⟨g, 0, none⟩ v0).setCell ⟨g, 1, none⟩ v1).setCell ⟨g, 2, none⟩ v2).setCell ⟨g, 3, none⟩ v3).setCell ⟨g, 4, none⟩ v4).setCell ⟨g, 5, none⟩ v5).setCell ⟨g, 6, none⟩ v6).setCell ⟨g, 7, none⟩ v7).setCell ⟨g, 8, none⟩ v8) g t #[v0, v1, v2, v3, v4, v5, v6, v7, v8] := by
  have := Bk.set_ (Bk.set_ (Bk.set_ (Bk.set_ (Bk.set_ (Bk.set_ (Bk.set_ (Bk.set_ (Bk.set_ (h) 0 v0) 1 v1) 2 v2) 3 v3) 4 v4) 5 v5) 6 v6) 7 v7) 8 v8
  simp only [List.setIfInBounds_toArray, List.set_cons_zero, List.set_cons_succ] at this
  exact this

theorem Keep.sets9 (w : World) (g : Nat) (v0 v1 v2 v3 v4 v5 v6 v7 v8 : Value) : Keep (fun i => i = g) w (((((((((w.setCell ⟨g, 0, none⟩ v0).setCell ⟨g, 1, none⟩ v1).setCell ⟨g, 2, none⟩ v2).setCell ⟨g, 3, none⟩ v3).setCell ⟨g, 4, none⟩ v4).setCell ⟨g, 5, none⟩ v5).setCell ⟨g, 6, none⟩ v6).setCell ⟨g, 7, none⟩ v7).setCell ⟨g, 8, none⟩ v8) := by
  exact Keep.setCell (Keep.setCell (Keep.setCell (Keep.setCell (Keep.setCell (Keep.setCell (Keep.setCell (Keep.setCell (Keep.setCell (Keep.refl (fun i => i = g) w) (p := ⟨g, 0, none⟩) (fun _ => (rfl : g = g)) _) (p := ⟨g, 1, none⟩) (fun _ => (rfl : g = g)) _) (p := ⟨g, 2, none⟩) (fun _ => (rfl : g = g)) _) (p := ⟨g, 3, none⟩) (fun _ => (rfl : g = g)) _) (p := ⟨g, 4, none⟩) (fun _ => (rfl : g = g)) _) (p := ⟨g, 5, none⟩) (fun _ => (rfl : g = g)) _) (p := ⟨g, 6, none⟩) (fun _ => (rfl : g = g)) _) (p := ⟨g, 7, none⟩) (fun _ => (rfl : g = g)) _) (p := ⟨g, 8, none⟩) (fun _ => (rfl : g = g)) _

set_option maxHeartbeats 2000000 in
theorem take_calls (T : Trk) (t : Nat) (is : Bool) (A : Option Addr) (n c : Nat) (l : List Int) (w : World) (hl : Sp.Bytes l) (h : RdW w A (bs l)) (hn : l.length = n) (hc : n ≤ c) (hcm : c ≤ maxLen)
    (hT : Bk w t 144 T.cells) (hq : T.begun = true → Sp.isSeq T.last = true) :
    Calls Try.prog 67 #[.pointer (some ⟨t, 0, none⟩), .agg #[.bool is, .slice A n c]] w fun e w' =>
      e = .returned (.tuple #[.agg (T.step is l).2.1.cells, .int .i64 (T.step is l).2.2]) ∧ Keep (fun i => i = t) w w' ∧ Bk w' t 144 (T.step is l).1.cells := by
  obtain ⟨t0, t1, t2, _, _, _, _, _, _, _, tz⟩ := Bk.c10 hT
  have htl := hT.lt
  obtain ⟨R, hR⟩ : ∃ R, reject T.ch is l = R := ⟨_, rfl⟩
  obtain ⟨F, hF⟩ : ∃ F : Fr, (if R = 0 then frOf l else Fr.zero) = F := ⟨_, rfl⟩
  have ho : Hid (∀ W, RdW W A (bs l) → Calls Try.prog 51 #[.int .i64 T.ch, .agg #[.bool is, .slice A n c]] W fun e w' => e = .returned (.tuple #[.agg #[.int .i64 F.seq, .int .i64 F.v0, .int .i64 F.v1, .int .i64 F.v2, .int .i64 F.v3, .int .i64 F.v4, .int .i64 F.v5, .int .i64 F.v6, .int .i64 F.v7], .int .i64 R]) ∧ Ext W w') := fun W hW => by
    have := decode_calls T.ch is A n c l W hl hW hn hc hcm
    rw [hR, hF] at this
    exact this
  have HT := Lib.hid hT
  have HF := Lib.hid hF
  have HR := Lib.hid hR
  have HA : Hid (RdW w A (bs l)) := h
  clear hT hl h hn hF hR
  have hm1 : w.heap.size + 1 + 1 ≠ t := by omega
  have hm2 : w.heap.size + 1 + 1 ≠ w.heap.size := by omega
  have hsz1 : ∀ o, (w.alloc o).heap.size = w.heap.size + 1 := fun o => by simp
  have hsz2 : ∀ o o', ((w.alloc o).alloc o').heap.size = w.heap.size + 1 + 1 := fun o o' => by simp
  replace hsz1 := Lib.hid hsz1
  replace hsz2 := Lib.hid hsz2
  go_enter Try.func67, Try.ntmps67
  go_wp2_with fail
  go_cut [6, 7] (fun s6 s7 wx => ∃ g, s6 = .pointer (some ⟨g, 0, none⟩) ∧ w.heap.size + 1 < g ∧ s7 = .int .i64 R ∧ Hid (Ext w wx) ∧ Bk wx g 25 F.cells ∧ Bk wx (w.heap.size + 1) 25 Fr.zero.cells)
  case first =>
    go_region_held3 (fun W => W.cell? ⟨t, 0, none⟩ = some (.int .i64 T.ch) ∧ W.cell? ⟨w.heap.size, 0, none⟩ = some (.bool is) ∧ W.cell? ⟨w.heap.size, 1, none⟩ = some (.slice A n c))
      (focus (refine ⟨?_, ?_, ?_⟩ <;> (repeat (first | (with_reducible assumption) | (with_reducible exact cell_new rfl) | (with_reducible refine cell_drew ?_) | (with_reducible refine cell_alloc ?_ _) | (with_reducible refine Ext.cell hb1 ?_) | (with_reducible refine cell_far ?_ (by with_reducible assumption) _))); done))
      (first | (go_at_call 51; refine (ho.out _ ?_).mono ?_; (focus (repeat (first | with_reducible exact HA.out | with_reducible refine RdW.drew ?_ | with_reducible refine RdW.alloc ?_ _))); rintro e w1 ⟨rfl, hb1⟩; have hz := Ext.size hb1; simp only [World.size_alloc, World.size_drew] at hz; have hn1 : w1.heap.size ≠ t := (by omega); have hn2 : w1.heap.size ≠ w.heap.size := (by omega); have hn3 : w.heap.size + 1 ≠ w1.heap.size := (by omega); have hn4 : w.heap.size ≤ w1.heap.size := (by omega); have hn5 : w.heap.size + 1 < w1.heap.size := (by omega); (first | (have hB9 := Bk.old (Bk.drew (Bk.new_at (n := w.heap.size + 1 + 1) _ _ _ (hsz2.out _ _))) hb1; obtain ⟨f0, f1, f2, f3, f4, f5, f6, f7, f8, fz⟩ := Bk.c9 hB9; have hB8 := Bk.old (Bk.drew (Bk.alloc (Bk.new_at (n := w.heap.size + 1) _ _ _ (hsz1.out _)) _)) hb1) | (have hB8 := Bk.old (Bk.drew (Bk.new_at (n := w.heap.size + 1) _ _ _ (hsz1.out _))) hb1)); clear hz; replace hb1 : Ext _ _ := hb1))
    all_goals (go_wp2_with fail)
    all_goals go_meet
    all_goals go_light
    · have HE : Ext w w1 := by
        refine Ext.trans ?_ hb1
        repeat (first | with_reducible exact Ext.refl w | with_reducible refine Ext.drew ?_ | with_reducible refine Ext.alloc ?_ _)
      exact ⟨_, rfl, hn5, rfl, HE.alloc _, Bk.new_at _ _ _ rfl, Bk.alloc hB8 _⟩
    · have HE : Ext w w1 := by
        refine Ext.trans ?_ hb1
        repeat (first | with_reducible exact Ext.refl w | with_reducible refine Ext.drew ?_ | with_reducible refine Ext.alloc ?_ _)
      refine ⟨w.heap.size + 1 + 1, rfl, by omega, rfl, ?_, ?_, ?_⟩
      · exact HE.sets9 (by omega) _ _ _ _ _ _ _ _ _
      · exact hB9.sets9 _ _ _ _ _ _ _ _ _
      · exact hB8.far9 (by omega) _ _ _ _ _ _ _ _ _
  case rest =>
    obtain ⟨g, rfl, hg, rfl, hE, hF, hB⟩ := hcut
    have E1 := hE.out
    have hT1 := Bk.old HT.out E1
    clear t0 t1 t2 tz
    obtain ⟨t0, t1, t2, t3, t4, t5, t6, t7, t8, t9, tz⟩ := Bk.c10 hT1
    obtain ⟨f0, f1, f2, f3, f4, f5, f6, f7, f8, fz⟩ := Bk.c9 hF
    obtain ⟨g0, g1, g2, g3, g4, g5, g6, g7, g8, gz⟩ := Bk.c9 hB
    have hn1 : g ≠ w.heap.size + 1 := by omega
    have hn2 : w.heap.size + 1 ≠ g := by omega
    have hn3 : t ≠ w.heap.size + 1 := by omega
    have hn4 : w.heap.size + 1 ≠ t := by omega
    have hn5 : t ≠ g := by omega
    have hn6 : g ≠ t := by omega
    by_cases hr : R = 0
    · subst hr
      obtain ⟨b, hb⟩ : ∃ b, T.begun = b := ⟨_, rfl⟩
      rw [hb] at t2
      have HBG := Lib.hid hb
      clear E1 hT1 hB hF hm1 hm2 htl hb
      go_upto_region 4 with fail
      cases b with
      | false =>
        go_quiet (fail)
        go_wp2_with fail
        (try simp only [Exit.inBlock, Exit.then])
        refine bodyPost_ret (by simp [results, Try.results67, go_sem, *]; try rfl) rfl ?_
        have hst : T.step is l = (T.seen F, F, 0) := by
          have h0 : reject T.ch is l = 0 := HR.out
          have hf : frOf l = F := by simpa using HF.out
          unfold Trk.step
          rw [if_neg (by simp [h0]), hf, if_pos (by simp [Trk.fits, HBG.out])]
        rw [show (T.step is l).2.1 = F from by rw [hst], show (T.step is l).2.2 = 0 from by rw [hst]]
        refine ⟨rfl, ?_, ?_⟩
        · refine Keep.trans (w1 := ((wc.drewN nq).setCell ⟨t, 1, none⟩ (.int .i64 F.seq)).setCell ⟨t, 2, none⟩ (.bool true)) (S := fun i => i = t) (T := fun i => i = w.heap.size + 1) ?_ ?_ ?_
          · exact Keep.setCell (Keep.setCell (Keep.drewN (Keep.of_below (S := fun i => i = t) hE.out) _) (p := ⟨t, 1, none⟩) (fun _ => (rfl : t = t)) _) (p := ⟨t, 2, none⟩) (fun _ => (rfl : t = t)) _
          · exact Keep.sets9 _ _ _ _ _ _ _ _ _ _ _
          · intro i hi he; omega
        · have := ((Bk.old HT.out hE.out).drewN nq).set_ 1 (.int .i64 F.seq)
          have := this.set_ 2 (.bool true)
          simp only [Trk.cells, List.setIfInBounds_toArray, List.set_cons_zero, List.set_cons_succ] at this
          rw [hst]
          exact this.far9 hn3 _ _ _ _ _ _ _ _ _
      | true =>
        go_quiet ((go_at_call 18; exact (next_calls T.last _ (hq HBG.out)).mono (fun e w'' ⟨he, hw⟩ => ⟨he, _, hw.symm⟩)))
        obtain ⟨q, hqq⟩ : ∃ q, (F.seq == Sp.next T.last) = q := ⟨_, rfl⟩
        have hst : T.step is l = (T.seen F, if q = true then (F, 0) else (Fr.zero, 6)) := by
          have h0 : reject T.ch is l = 0 := HR.out
          have hf : frOf l = F := by simpa using HF.out
          unfold Trk.step
          rw [if_neg (by simp [h0]), hf, ← hqq]
          simp [Trk.fits, HBG.out]
        have HST := Lib.hid hst
        clear hst
        cases q with
        | true =>
          go_wp2_with fail
          (try simp only [Exit.inBlock, Exit.then])
          refine bodyPost_ret (by simp [results, Try.results67, go_sem, *]; try rfl) rfl ?_
          have hst : T.step is l = (T.seen F, F, 0) := by simpa using HST.out
          rw [show (T.step is l).2.1 = F from by rw [hst], show (T.step is l).2.2 = 0 from by rw [hst]]
          refine ⟨rfl, ?_, ?_⟩
          · refine Keep.trans (w1 := ((wc.drewN nq).setCell ⟨t, 1, none⟩ (.int .i64 F.seq)).setCell ⟨t, 2, none⟩ (.bool true)) (S := fun i => i = t) (T := fun i => i = w.heap.size + 1) ?_ ?_ ?_
            · exact Keep.setCell (Keep.setCell (Keep.drewN (Keep.of_below (S := fun i => i = t) hE.out) _) (p := ⟨t, 1, none⟩) (fun _ => (rfl : t = t)) _) (p := ⟨t, 2, none⟩) (fun _ => (rfl : t = t)) _
            · exact Keep.sets9 _ _ _ _ _ _ _ _ _ _ _
            · intro i hi he; omega
          · have := ((Bk.old HT.out hE.out).drewN nq).set_ 1 (.int .i64 F.seq)
            have := this.set_ 2 (.bool true)
            simp only [Trk.cells, List.setIfInBounds_toArray, List.set_cons_zero, List.set_cons_succ] at this
            rw [hst]
            exact this.far9 hn3 _ _ _ _ _ _ _ _ _
        | false =>
          go_wp2_with fail
          (try simp only [Exit.inBlock, Exit.then])
          refine bodyPost_ret (by simp [results, Try.results67, go_sem, *]; try rfl) rfl ?_
          have hst : T.step is l = (T.seen F, Fr.zero, 6) := by simpa using HST.out
          rw [show (T.step is l).2.1 = Fr.zero from by rw [hst], show (T.step is l).2.2 = 6 from by rw [hst]]
          refine ⟨rfl, ?_, ?_⟩
          · refine Keep.trans (w1 := ((wc.drewN nq).setCell ⟨t, 1, none⟩ (.int .i64 F.seq)).setCell ⟨t, 2, none⟩ (.bool true)) (S := fun i => i = t) (T := fun i => i = w.heap.size + 1) ?_ ?_ ?_
            · exact Keep.setCell (Keep.setCell (Keep.drewN (Keep.of_below (S := fun i => i = t) hE.out) _) (p := ⟨t, 1, none⟩) (fun _ => (rfl : t = t)) _) (p := ⟨t, 2, none⟩) (fun _ => (rfl : t = t)) _
            · exact Keep.sets9 _ _ _ _ _ _ _ _ _ _ _
            · intro i hi he; omega
          · have := ((Bk.old HT.out hE.out).drewN nq).set_ 1 (.int .i64 F.seq)
            have := this.set_ 2 (.bool true)
            simp only [Trk.cells, List.setIfInBounds_toArray, List.set_cons_zero, List.set_cons_succ] at this
            rw [hst]
            exact this.far9 hn3 _ _ _ _ _ _ _ _ _
    · have hr0 : (R != 0) = true := by simp [hr]
      clear E1 hT1 hB hF hm1 hm2 htl
      go_wp2_with fail
      (try simp only [Exit.inBlock, Exit.then])
      refine bodyPost_ret (by simp [results, Try.results67, go_sem, g0, g1, g2, g3, g4, g5, g6, g7, g8, gz]; try rfl) rfl ?_
      unfold Trk.step
      rw [if_pos (by rw [HR.out]; exact hr), HR.out]
      refine ⟨rfl, ?_, ?_⟩
      · exact Keep.of_below (hE.out.sets9 (by omega) _ _ _ _ _ _ _ _ _)
      · exact (Bk.old HT.out hE.out).far9 hn3 _ _ _ _ _ _ _ _ _
end Go.Proofs.Ytgdlombjhbfbiaa
