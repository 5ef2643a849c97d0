/-
  Walks: all numbers of bytes, four by four.
-/
import Derived.Test.YtgdlombjhbfbiaaWa
import Derived.Test.YtgdlombjhbfbiaaApp
namespace Go.Proofs.Ytgdlombjhbfbiaa
set_option linter.unusedVariables false
set_option linter.unusedSimpArgs false
open Go.RowKit
attribute [local go_sem] Oper.semAt_some

theorem fours_calls (A : Option Addr) (n c : Nat) (w : World) :
    Calls Try.prog 134 #[.slice A n c] w fun e w' =>
      e = .returned (.func (.func 165) #[] #[.pointer (some ⟨w.heap.size, 0, none⟩)]) ∧ w.alloc (.cells #[.slice A n c] 27) = w' := by
  go_enter Try.func134, Try.ntmps134
  go_wp2
  go_ret
  exact ⟨rfl, rfl⟩

def Fours (b off : Nat) (k : Nat) (x : Value) (_ : World) : Prop := x = .slice (some ⟨b, off + 4 * k, none⟩) 4 4

theorem fours_iter (g b off n c : Nat) (hn : n ≤ c) (hc : c ≤ maxLen) (w : World) (hg : Bk w g 27 #[.slice (some ⟨b, off, none⟩) n c]) :
    Iter Try.prog 165 #[.pointer (some ⟨g, 0, none⟩)] (fun i => i = g) (fun i => i = g) (n / 4) (fun k x W => ∃ v, x = #[v] ∧ Fours b off k v W) w := by
  intro l S J W hW hS hJ hY h0
  have hS' := hS g rfl
  have hgW : Bk W g 27 #[.slice (some ⟨b, off, none⟩) n c] := hg.old hW
  unfold maxLen at hc
  refine callsIn_of_wp Try.func165 rfl trivial ?_ rfl
  simp only [Try.ntmps165, List.size_toArray, List.length_cons, List.length_nil, Nat.reduceAdd, Nat.reduceSub, Array.replicate_succ, Array.replicate_zero, List.push_toArray, List.append_toArray, List.nil_append, List.cons_append]
  gi_wp2
  gi_loopw [] (fun wr => ∃ k A', k ≤ n / 4 ∧ Bk wr g 27 #[.slice A' (n - 4 * k) (c - 4 * k)] ∧ (4 ≤ n - 4 * k → A' = some ⟨b, off + 4 * k, none⟩) ∧ J k wr)
    (fun wr => lenAt wr g)
  case atStart => exact ⟨0, _, Nat.zero_le _, hgW, fun _ => rfl, h0⟩
  case round =>
    obtain ⟨k, A', hk, hB, hA, hJk⟩ := hrel
    have hlen := lenAt_eq hB
    by_cases h4 : 4 ≤ n - 4 * k
    · obtain rfl := hA h4
      obtain ⟨fn, tmps, assign, body, hy, hR⟩ := hY k #[.slice (some ⟨b, off + 4 * k, none⟩) 4 4] wr (by omega) hJk ⟨_, rfl, rfl⟩
      obtain ⟨n', hn'⟩ : ∃ n', n - 4 * k = n' := ⟨_, rfl⟩
      obtain ⟨c', hc'⟩ : ∃ c', c - 4 * k = c' := ⟨_, rfl⟩
      rw [hn'] at hB h4 hlen
      rw [hc'] at hB
      have h5 : n' ≤ c' := by omega
      have h6 : c' ≤ 2 ^ 63 - 1 := by omega
      have hc0 : wr.cell? ⟨g, 0, none⟩ = some (.slice (some ⟨b, off + 4 * k, none⟩) n' c') := hB.cell 0
      have HN := Lib.hid hn'; have HC := Lib.hid hc'; have HL := Lib.hid hlen
      clear hn' hc' hlen hY hgW hg hA
      gi_wp2
      refine ⟨rfl, hR.mono ?_⟩
      rintro e W3 ⟨rfl, hJ3, hK3⟩
      have hB3 := hB.kept hK3 hS'
      have hc3 : W3.cell? ⟨g, 0, none⟩ = some (.slice (some ⟨b, off + 4 * k, none⟩) n' c') := hB3.cell 0
      have hf3 : W3.frozen? ⟨g, 0, none⟩ = false := hB3.frozen 0
      gi_wp2
      go_roundw
      case rel =>
        refine ⟨k + 1, (if c' = 4 then some ⟨b, off + 4 * k, none⟩ else some ⟨b, off + 4 * k + 4, none⟩), by have := HN.out; omega, ?_, fun h => ?_, hJ _ _ _ hJ3 (putCell_keep _ _ _ rfl)⟩
        · have h1 := HN.out; have h2 := HC.out
          rw [show n - 4 * (k + 1) = n' - 4 from by omega, show c - 4 * (k + 1) = c' - 4 from by omega]
          exact hB3.set_ 0 _
        · have h1 := HN.out; have h2 := HC.out
          rw [if_neg (by omega), Nat.mul_succ, Nat.add_assoc]
      case measure =>
        rw [HL.out, lenAt_eq (hB3.set_ 0 _)]
        omega
    · obtain ⟨n', hn'⟩ : ∃ n', n - 4 * k = n' := ⟨_, rfl⟩
      obtain ⟨c', hc'⟩ : ∃ c', c - 4 * k = c' := ⟨_, rfl⟩
      rw [hn'] at hB h4
      rw [hc'] at hB
      have hc0 : wr.cell? ⟨g, 0, none⟩ = some (.slice A' n' c') := hB.cell 0
      have hk' : k = n / 4 := by omega
      have h4' : n' < 4 := by omega
      subst hk'
      clear hn' hc' hY hgW hg hA hlen hk
      gi_wp2
      go_end0
      exact ⟨rfl, hJk⟩

theorem elemInt : Elem Try.prog 137 3 1 8 := elem_of (z := .int .i64 0) (by kernel_rfl) (by kernel_rfl) rfl (by decide)
theorem elemU8 : Elem Try.prog 27 5 1 1 := elem_of (z := .int .u8 0) (by kernel_rfl) (by kernel_rfl) rfl (by decide)

/-- The first k numbers of bytes. -/
def firsts (l : List Int) (k : Nat) : List Int := (Sp.getAll l).take k

theorem getAll_len : ∀ l : List Int, (Sp.getAll l).length = l.length / 4
  | a :: b :: c :: d :: l => by simp only [Sp.getAll, List.length_cons, getAll_len l]; omega
  | [] => rfl
  | [_] => by simp [Sp.getAll]
  | [_, _] => by simp [Sp.getAll]
  | [_, _, _] => by simp [Sp.getAll]
theorem getAll_at : ∀ (l : List Int) (k : Nat), k < l.length / 4 → ∃ x y z u, (l.drop (4 * k)).take 4 = [x, y, z, u] ∧ (Sp.getAll l)[k]? = some (Sp.get4 x y z u)
  | a :: b :: c :: d :: l, 0, _ => ⟨a, b, c, d, rfl, rfl⟩
  | a :: b :: c :: d :: l, k + 1, h => by
    have := getAll_at l k (by simp only [List.length_cons] at h; omega)
    simpa [Nat.mul_succ, Sp.getAll] using this
  | [], _, h => by simp at h
  | [_], _, h => by simp at h
  | [_, _], _, h => by simp at h
  | [_, _, _], _, h => by simp at h
theorem firsts_succ {l : List Int} {k : Nat} {n : Int} (h : (Sp.getAll l)[k]? = some n) : firsts l (k + 1) = firsts l k ++ [n] := by
  unfold firsts; rw [List.take_add_one, h]; rfl
theorem firsts_all (l : List Int) : firsts l (l.length / 4) = Sp.getAll l := by
  unfold firsts; rw [List.take_of_length_le (by rw [getAll_len]; exact Nat.le_refl _)]


theorem getAll_calls (A : Option Addr) (n c : Nat) (l : List Int) (w : World) (hn : n = l.length) (h4 : n % 4 = 0) (hnc : n ≤ c) (hc : c ≤ maxLen) (hl : Sp.Bytes l) (h : Rd w w.heap.size A (bs l)) (hb : n ≤ 1000000) (h0 : 0 < n) :
    Calls Try.prog 76 #[.slice A n c] w fun e w' => ∃ v, e = .returned (.tuple #[v, .bool true]) ∧ Below w.heap.size w w' ∧ w'.ownsRow w.heap.size 3 1 v (n / 4) (is_ (Sp.getAll l)) := by
  subst hn
  obtain ⟨b, off, rfl, hbb, hcell⟩ := h (by intro e; simp [bs] at e; subst e; simp at h0)
  have hmod : ((l.length : Int) % 4 != 0) = false := by rw [show (l.length : Int) % 4 = 0 from by omega]; rfl
  refine calls_of_wp_marks Try.func76 rfl ?_
  simp only [Try.ntmps76, List.size_toArray, List.length_cons, List.length_nil, Nat.reduceAdd, Nat.reduceSub, Array.replicate_succ, Array.replicate_zero, List.push_toArray, List.append_toArray, List.nil_append, List.cons_append]
  go_wp2_with (go_at_call 134; refine (fours_calls _ _ _ _).mono ?_; rintro e w' ⟨rfl, rfl⟩)
  apply wp_rangeFunc1 (fun i => i = w.heap.size + 1) (fun i => i = w.heap.size + 1) (fun i => i = w.heap.size) (l.length / 4) (Fours b off)
    (fun k W => ∃ v, Bk W w.heap.size 137 #[v] ∧ W.ownsRow (w.heap.size + 2) 3 1 v k (is_ (firsts l k)) ∧ Below w.heap.size w W)
    (gf := 165) (lb := #[.pointer (some ⟨w.heap.size + 1, 0, none⟩)]) rfl (enters_ Try.func165 (by kernel_rfl) rfl)
    (fours_iter (w.heap.size + 1) b off l.length c hnc hc _ (by simpa using Bk.new (w.alloc (.cells #[.slice none 0 0] 137)) 27 _))
  case hprot => intro i hi; subst hi; simp
  case hown => intro i hi; subst hi; simp
  case hI =>
    intro k
    refine Stays.ex fun v => Stays.and (Stays.bk _ _ _ (by omega)) (Stays.and (Stays.row (fun i hi => by omega) _ _ _ _ _) (Stays.below (Nat.le_refl _) (by simp; omega) (fun i hi => by omega)))
  case h0 => exact ⟨_, (Bk.new w _ _).alloc _, World.ownsRow_nil _ _ _ _, ((Below.refl _ w).alloc (Nat.le_refl _) _).alloc (by simp) _⟩
  case hE => intro k x W r o o' hx _ _ _; exact hx
  case hassign =>
    intro l' x W
    gi_wp2
    exact ⟨rfl, trivial⟩
  case hbody =>
    rintro l' k x W hk ⟨v, hB, hrow, hbel⟩ rfl hsz
    simp only [World.size_alloc] at hsz
    obtain ⟨x, y, z, u, hch, hget⟩ := getAll_at l k hk
    have hin : ∀ q, q ∈ [x, y, z, u] → Sp.IsByte q := fun q hq => hl q (List.mem_of_mem_drop (List.mem_of_mem_take (hch ▸ hq)))
    have hrd : Rd W w.heap.size (some ⟨b, off + 4 * k, none⟩) (bs [x, y, z, u]) := by
      have h1 := ((h.below hbel).drop_ (4 * k)).take 4
      have e1 : ((bs l).drop (4 * k)).take 4 = bs [x, y, z, u] := by unfold bs; rw [← List.map_drop, ← List.map_take, hch]
      rw [e1] at h1
      exact h1
    have hc0 : W.cell? ⟨w.heap.size, 0, none⟩ = some v := hB.cell 0
    have hf0 : W.frozen? ⟨w.heap.size, 0, none⟩ = false := hB.frozen 0
    have h4' := get4_calls (some ⟨b, off + 4 * k, none⟩) 4 w.heap.size x y z u W (hin x (by simp)) (hin y (by simp)) (hin z (by simp)) (hin u (by simp)) hrd
    have hlk : k ≤ 250000 := by omega
    clear hcell h hrd hin hl hch
    gi_wp2_with (first | (refine ⟨trivial, rfl, ?_⟩; gi_at_call 135; refine (CallsIn.inRound l' (callsIn_wide.2 h4')).mono ?_; rintro e w' ⟨rfl, nq, rfl⟩) | (gi_at_builtin; refine wpListIn_app elemInt rfl _ _ rfl (w.heap.size + 2) v k _ rfl (World.ownsRow.alloc (w := W.drewN nq) hrow _) (W.heap.size + 1) (some ⟨W.heap.size, 0, none⟩) 1 1 [.int .i64 (Sp.get4 x y z u)] rfl rfl (Rd.new (W.drewN nq) _ _ _ (Nat.lt_succ_self _)) (by simp [Value.oneCell']) (by unfold maxLen; omega) (by omega) (by simp; omega) ?_; intro v' w1 hown' hgrow; obtain ⟨A', c', rfl, _, _⟩ := own_slice hown'; have hB1 := (Bk.alloc (w := W.drewN nq) hB _).grown hgrow (own_at hrow (by omega)); have hc1 := hB1.cell 0; have hf1 := hB1.frozen 0))
    refine ⟨?_, _, hB1.set_ 0 _, ?_, ?_⟩
    · exact ((((RKeep.refl _ W).drewN nq).alloc _).grown hgrow (fun g hg _ => .inr (by have := (hrow.lt g hg).1; simpa using this)) (row_cells (World.ownsRow.alloc (w := W.drewN nq) hrow _))).setCell (fun _ => .inl rfl) _
    · have e1 : is_ (firsts l (k + 1)) = is_ (firsts l k) ++ [.int .i64 (Sp.get4 x y z u)] := by rw [firsts_succ hget]; simp [is_]
      rw [e1]
      exact own_set hown' (by show w.heap.size < _; omega) _
    · exact (((below_drewN hbel nq).alloc (by simp; omega) _).grown hgrow (by simp; omega) (fun g hg => by have := (hrow.lt g hg).1; omega)).setCell (Nat.le_refl _) _
  case hdone =>
    rintro D W hD ⟨v, hB, hrow, hbel⟩ hK
    simp only [World.size_alloc] at hD
    have hc0 : W.cell? ⟨w.heap.size, 0, none⟩ = some v := hB.cell 0
    go_wp2
    rw [firsts_all] at hrow
    exact leave_mark hK (results_tmp2 rfl _ _ _) ⟨v, rfl, below_put hbel _ _ (by omega), own_put (ownsRow_base hrow (by omega)) hK rfl⟩
end Go.Proofs.Ytgdlombjhbfbiaa
