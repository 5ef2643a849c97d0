/-
  Walks: the bytes of all numbers; lists of bytes joined.
-/
import Derived.Test.YtgdlombjhbfbiaaWd
namespace Go.Proofs.Ytgdlombjhbfbiaa
set_option linter.unusedVariables false
set_option linter.unusedSimpArgs false
open Go.RowKit

theorem is_length (l : List Int) : (is_ l).length = l.length := by simp [is_]
theorem putAll_snoc (l : List Int) (n : Int) : Sp.putAll (l ++ [n]) = Sp.putAll l ++ Sp.put4 n := by simp [Sp.putAll]

theorem putAll_calls (A : Option Addr) (c : Nat) (l : List Int) (w : World) (hl : ∀ n ∈ l, Sp.is32 n = true) (h : Rd w w.heap.size A (is_ l)) (hlen : l.length ≤ 100000) :
    Calls Try.prog 66 #[.slice A l.length c] w (Gives w 5 1 (4 * l.length) (bs (Sp.putAll l))) := by
  go_enter Try.func66, Try.ntmps66
  go_wp2_with fail
  go_loopw [3, 9] (fun v i wr => ∃ k : Nat, k ≤ l.length ∧ i = .int .i64 k ∧ wr.ownsRow w.heap.size 5 1 v (4 * k) (bs (Sp.putAll (l.take k))) ∧ Below w.heap.size w wr)
    (fun _ i _ => l.length - (intOf i).toNat)
  case atStart => exact ⟨0, Nat.zero_le _, rfl, World.ownsRow_nil _ _ _ _, Below.refl _ _⟩
  case round =>
    obtain ⟨k, hk, rfl, hown, hbel⟩ := hrel
    by_cases hlt : k < l.length
    · obtain ⟨x, hx⟩ : ∃ x, l[k]? = some x := ⟨_, List.getElem?_eq_getElem hlt⟩
      have hx32 := hl x (List.mem_of_getElem? hx)
      obtain ⟨b, off, rfl, hbb, hcx⟩ := (h.below hbel).at_ (k := k) (u := .int .i64 x) (by simp [is_, hx])
      have hput := put4_calls x wr hx32
      have HX := Lib.hid hx
      clear hx h
      go_wp2_with fail
      refine hput.mono ?_
      rintro e w1 ⟨v1, rfl, hb1, hown1⟩
      obtain ⟨g, c1, rfl, hg1, hg2, h11, h12⟩ := own_slice_pos hown1 (by omega)
      have hq : ∀ wx : World, (binOp .eql 27 (.slice (some ⟨g, 0, none⟩) 4 c1) (.slice none 0 0)).run Try.prog wx = .ok (.bool false) wx := fun wx => Lib.run_eql_slice_nil (P := Try.prog) wx 27 5 (some ⟨g, 0, none⟩) 4 c1 0 0 (by kernel_rfl)
      have hz := hb1.size
      have hz0 := hbel.size
      have hown' : w1.ownsRow w.heap.size 5 1 u3 (4 * k) (bs (Sp.putAll (l.take k))) := hown.kept (Keep.grownBy_none hb1) (by cases u3.ownBlock <;> simp)
      obtain ⟨A0, c0, rfl, _, _⟩ := own_slice hown'
      go_wp2_with (at_builtin; refine wpList_app elemU8 rfl _ _ rfl w.heap.size (.slice A0 (4 * k) c0) (4 * k) (bs (Sp.putAll (l.take k))) rfl hown' w1.heap.size (some ⟨g, 0, none⟩) 4 c1 (bs (Sp.put4 x)) rfl rfl (Rd.own hown1) (bs_one _) (by unfold maxLen; omega) (by omega) (by omega) ?_; intro v' w2 hown2 hgrow)
      go_roundw
      case rel =>
        have e1 : bs (Sp.putAll (l.take (k + 1))) = bs (Sp.putAll (l.take k)) ++ bs (Sp.put4 x) := by rw [List.take_add_one, HX.out, Option.toList_some, putAll_snoc, bs_append]
        refine ⟨k + 1, by omega, by go_num, ?_, ?_⟩
        · rw [e1, Nat.mul_succ]; exact hown2
        · exact (hbel.trans (hb1.mono hz0)).grown hgrow (by omega) (fun q hq => by have := (hown'.lt q hq).1; omega)
      case measure => simp [intOf]; omega
    · obtain rfl : k = l.length := by omega
      go_wp2_with fail
      go_ret
      rw [List.take_of_length_le (Nat.le_refl _)] at hown
      exact ⟨_, rfl, hbel, hown⟩

theorem zeroCells_size (z : Array Value) (n : Nat) : (Builtin.zeroCells z n).size = n * z.size := by simp [Builtin.zeroCells]

theorem run_grow8 (m : Nat) (w : World) (h0 : 0 < m) (hm : m ≤ 1000000) : ∃ g C W', (Builtin.append_ #[27, 3] 27 #[.slice none 0 0, .int .i64 m]).run Try.prog w = .ok (.slice (some ⟨g, 0, none⟩) m C) W' ∧
    m ≤ C ∧ C ≤ maxLen ∧ Below w.heap.size w W' ∧ W'.ownsRow w.heap.size 5 1 (.slice (some ⟨g, 0, none⟩) 0 C) 0 [] := by
  obtain ⟨i, z, ht, hi, hz, hsize, hby, hzs, hsz⟩ := elemU8
  have hrun := Lib.run_append_nil_zeros (P := Try.prog) w 27 3 27 5 i z .i64 .i64 ht (by kernel_rfl) hi hz m h0 (by omega) (by omega) (by rw [hby]; omega)
  have h1 := grownCap_ge w m 0 5
  have h2 := grownCap_le_maxLen w m 0 5 (by unfold maxLen; omega)
  refine ⟨_, _, _, hrun, h1, h2, (Below.refl _ w).drew.alloc (Nat.le_refl _) _, ?_⟩
  refine ⟨rfl, .inr ⟨w.heap.size, _, _, rfl, Nat.le_refl _, heap_alloc_new w.drew _, Nat.zero_le _, h2, ?_, by simp⟩⟩
  rw [Array.size_append, zeroCells_size, zeroCells_size, hzs]
  omega

theorem grow8_calls (m : Nat) (w : World) (hm : m ≤ 1000000) :
    Calls Try.prog 129 #[.slice none 0 0, .int .i64 m] w (Gives w 5 1 0 []) := by
  have hneg : decide ((m : Int) < 0) = false := by simp
  by_cases h0 : m = 0
  · subst h0
    show Calls _ _ #[.slice none 0 0, .int .i64 0] _ _
    clear hneg hm
    go_enter Try.func129, Try.ntmps129
    go_wp2_with fail
    go_ret
    exact ⟨_, rfl, Below.refl _ _, World.ownsRow_nil _ _ _ _⟩
  · have hpos : decide (0 < (m : Int)) = true := by simp; omega
    have hm0 : 0 < (m : Int) := by omega
    go_enter Try.func129, Try.ntmps129
    go_wp2_with (at_builtin; obtain ⟨g, C, W', hrun, hmC, hC, hbel, hown⟩ := run_grow8 m w (by omega) hm; refine Lib.wpList_append_run w rfl _ _ 27 3 rfl (.slice none 0 0) (.int .i64 m) rfl rfl _ _ hrun ?_; clear hrun; unfold maxLen at hC)
    go_ret
    exact ⟨_, rfl, hbel, hown⟩

/-- A list of bytes as it lies: where, its capacity, what it holds. -/
structure Part where
  A : Option Addr
  c : Nat
  l : List Int
def Part.v (p : Part) : Value := .slice p.A p.l.length p.c
def joined (ps : List Part) : List Int := ps.flatMap (·.l)

theorem joined_snoc (ps : List Part) (p : Part) : joined (ps ++ [p]) = joined ps ++ p.l := by simp [joined]
theorem joined_take_le (ps : List Part) (k : Nat) : (joined (ps.take k)).length ≤ (joined ps).length := by
  have h : joined ps = joined (ps.take k) ++ joined (ps.drop k) := by unfold joined; rw [← List.flatMap_append, List.take_append_drop]
  rw [h, List.length_append]; omega

theorem concat8_calls (A : Option Addr) (c : Nat) (ps : List Part) (w : World) (h : Rd w w.heap.size A (ps.map Part.v)) (hps : ∀ p ∈ ps, Rd w w.heap.size p.A (bs p.l)) (hn : ps.length ≤ 1000) (hlen : (joined ps).length ≤ 1000000) :
    Calls Try.prog 64 #[.slice A ps.length c] w (Gives w 5 1 (joined ps).length (bs (joined ps))) := by
  go_enter Try.func64, Try.ntmps64
  go_wp2_with fail
  go_loop [3, 11] (fun s i => ∃ k : Nat, k ≤ ps.length ∧ i = .int .i64 k ∧ s = .int .i64 ((joined (ps.take k)).length : Nat))
    (fun _ i => ps.length - (intOf i).toNat)
  case atStart => exact ⟨0, Nat.zero_le _, rfl, rfl⟩
  case round =>
    obtain ⟨k, hk, rfl, rfl⟩ := hrel
    by_cases hlt : k < ps.length
    · obtain ⟨p, hp⟩ : ∃ p, ps[k]? = some p := ⟨_, List.getElem?_eq_getElem hlt⟩
      obtain ⟨b, off, rfl, hbb, hcx⟩ := h.at_ (k := k) (u := .slice p.A p.l.length p.c) (by simp [hp, Part.v])
      have hle := joined_take_le ps (k + 1)
      have hsum : (joined (ps.take (k + 1))).length = (joined (ps.take k)).length + p.l.length := by rw [List.take_add_one, hp, Option.toList_some, joined_snoc, List.length_append]
      obtain ⟨m, hm⟩ : ∃ m, (joined (ps.take k)).length = m := ⟨_, rfl⟩
      rw [hm] at hsum ⊢
      have hle' : m + p.l.length ≤ 1000000 := by omega
      have HS := Lib.hid hsum
      clear hsum hm hp h hps hle
      go_wp2_with fail
      go_round
      case rel => exact ⟨k + 1, by omega, by go_num, by rw [HS.out]; go_num⟩
      case measure => simp [intOf]; omega
    · obtain rfl : k = ps.length := by omega
      rw [List.take_of_length_le (Nat.le_refl _)]
      have hg := grow8_calls (joined ps).length w hlen
      go_wp2_with fail
      refine hg.mono ?_
      rintro e w1 ⟨v1, rfl, hb1, hown1⟩
      go_wp2_with fail
      go_loopw [6, 27] (fun v i wr => ∃ k n : Nat, k ≤ ps.length ∧ i = .int .i64 k ∧ n = (joined (ps.take k)).length ∧ wr.ownsRow w.heap.size 5 1 v n (bs (joined (ps.take k))) ∧ Below w.heap.size w wr)
        (fun _ i _ => ps.length - (intOf i).toNat)
      case atStart => exact ⟨0, 0, Nat.zero_le _, rfl, rfl, hown1, hb1⟩
      case round =>
        obtain ⟨k, n, hk, rfl, hnk, hown, hbel⟩ := hrel
        by_cases hlt : k < ps.length
        · obtain ⟨p, hp⟩ : ∃ p, ps[k]? = some p := ⟨_, List.getElem?_eq_getElem hlt⟩
          obtain ⟨b, off, rfl, hbb, hcx⟩ := (h.below hbel).at_ (k := k) (u := .slice p.A p.l.length p.c) (by simp [hp, Part.v])
          have hpr := (hps p (List.mem_of_getElem? hp)).below hbel
          have hle := joined_take_le ps (k + 1)
          have hsum : (joined (ps.take (k + 1))) = joined (ps.take k) ++ p.l := by rw [List.take_add_one, hp, Option.toList_some, joined_snoc]
          have hl2 : n + p.l.length ≤ 1000000 := by rw [hsum, List.length_append] at hle; omega
          have HS := Lib.hid hsum
          have HN := Lib.hid hnk
          have hz := hbel.size
          obtain ⟨A0, c0, rfl, _, _⟩ := own_slice hown
          clear hsum hnk hp h hps hle hg
          go_wp2_with (at_builtin; refine wpList_app elemU8 rfl _ _ rfl w.heap.size (.slice A0 n c0) n (bs (joined (ps.take k))) rfl hown w.heap.size p.A p.l.length p.c (bs p.l) rfl (by rw [bs_length, Nat.mul_one]) hpr (bs_one _) (by unfold maxLen; omega) (by omega) hz ?_; intro v' w2 hown2 hgrow)
          go_roundw
          case rel => exact ⟨k + 1, n + p.l.length, by omega, by go_num, by rw [HS.out, List.length_append, HN.out], by rw [HS.out, bs_append]; exact hown2, hbel.grown hgrow hz (fun q hq => by have := (hown.lt q hq).1; omega)⟩
          case measure => simp [intOf]; omega
        · obtain rfl : k = ps.length := by omega
          go_wp2_with fail
          go_ret
          rw [List.take_of_length_le (Nat.le_refl _)] at hown hnk
          subst hnk
          exact ⟨_, rfl, hbel, hown⟩

theorem concat3_calls (A A1 A2 A3 : Option Addr) (c c1 c2 c3 n1 n2 n3 : Nat) (l1 l2 l3 : List Int) (w : World) (h1 : l1.length = n1) (h2 : l2.length = n2) (h3 : l3.length = n3)
    (h : RdW w A [.slice A1 n1 c1, .slice A2 n2 c2, .slice A3 n3 c3]) (r1 : RdW w A1 (bs l1)) (r2 : RdW w A2 (bs l2)) (r3 : RdW w A3 (bs l3)) (hlen : n1 + n2 + n3 ≤ 1000000) :
    Calls Try.prog 64 #[.slice A 3 c] w (Gives w 5 1 (n1 + n2 + n3) (bs (l1 ++ l2 ++ l3))) := by
  subst h1 h2 h3
  have hj : joined [⟨A1, c1, l1⟩, ⟨A2, c2, l2⟩, ⟨A3, c3, l3⟩] = l1 ++ l2 ++ l3 := by simp [joined]
  have := concat8_calls A c [⟨A1, c1, l1⟩, ⟨A2, c2, l2⟩, ⟨A3, c3, l3⟩] w h (fun p hp => by
    simp only [List.mem_cons, List.not_mem_nil, or_false] at hp
    rcases hp with rfl | rfl | rfl
    · exact r1
    · exact r2
    · exact r3) (by simp) (by rw [hj, List.length_append, List.length_append]; exact hlen)
  rw [hj, List.length_append, List.length_append] at this
  exact this
/-- Three slices of bytes, laid as a literal ahead of the call. -/
theorem concat3_lit {A A1 A2 A3 : Option Addr} {c c1 c2 c3 : Nat} {w : World} (n1 n2 n3 : Nat) (l1 l2 l3 : List Int) (h1 : l1.length = n1) (h2 : l2.length = n2) (h3 : l3.length = n3)
    (hA : A = some ⟨w.heap.size, 0, none⟩) (r1 : RdW w A1 (bs l1)) (r2 : RdW w A2 (bs l2)) (r3 : RdW w A3 (bs l3)) (hlen : n1 + n2 + n3 ≤ 1000000) :
    Calls Try.prog 64 #[.slice A 3 c] (w.alloc (.cells #[.slice A1 n1 c1, .slice A2 n2 c2, .slice A3 n3 c3] 27))
      (Gives (w.alloc (.cells #[.slice A1 n1 c1, .slice A2 n2 c2, .slice A3 n3 c3] 27)) 5 1 (n1 + n2 + n3) (bs (l1 ++ l2 ++ l3))) :=
  concat3_calls A A1 A2 A3 c c1 c2 c3 n1 n2 n3 l1 l2 l3 _ h1 h2 h3 (RdW.new' w A [.slice A1 n1 c1, .slice A2 n2 c2, .slice A3 n3 c3] _ hA) (r1.alloc _) (r2.alloc _) (r3.alloc _) hlen
end Go.Proofs.Ytgdlombjhbfbiaa
