/-
  A range over a function whose rounds all go on: one law for the caller, also for an iterator that keeps state of its own in cells; a function that holds such a loop.
-/
import Derived.RangeFuncNested
import Derived.RangeFuncBound
import Derived.RangeFuncCalls
import Derived.RangeFuncLeaves
import Derived.WalkKit
import Derived.OwnWalkIn
import Derived.TacticsInMore
import Derived.LoopNIn
import Derived.LoopIn
import Derived.Test.YtgdlombjhbfbiaaMem
namespace Go.Proofs.Ytgdlombjhbfbiaa
set_option linter.unusedVariables false
set_option linter.unusedSimpArgs false
open Go.RowKit

/-- What a round leaves as it was: all but the blocks of S; whatever is no cells. -/
structure RKeep (S : Nat → Prop) (w w' : World) : Prop where
  keep : Keep S w w'
  others : KeepsOthers w w'

section
variable {S T : Nat → Prop} {w w1 w2 w' : World}
theorem RKeep.refl (S : Nat → Prop) (w : World) : RKeep S w w := ⟨.refl S w, .refl w⟩
theorem RKeep.trans (h : RKeep S w w1) (k : RKeep T w1 w2) (hs : ∀ i, i < w.heap.size → T i → S i) : RKeep S w w2 := ⟨h.keep.trans k.keep hs, h.others.trans k.others⟩
theorem RKeep.alloc (h : RKeep S w w') (o : Obj) : RKeep S w (w'.alloc o) := ⟨h.keep.alloc o, h.others.trans (.alloc w' o)⟩
theorem RKeep.drew (h : RKeep S w w') : RKeep S w w'.drew := ⟨h.keep.drew, h.others.trans (.drew w')⟩
theorem RKeep.drewN (h : RKeep S w w') (n : Nat) : RKeep S w (w'.drewN n) := ⟨h.keep.drewN n, h.others.trans ⟨Nat.le_refl _, fun _ _ h _ => h⟩⟩
theorem RKeep.setCell (h : RKeep S w w') {p : Addr} (hp : p.block < w.heap.size → S p.block) (u : Value) : RKeep S w (w'.setCell p u) := ⟨h.keep.setCell hp u, h.others.trans (.setCell w' p u)⟩
theorem KeepsOthers.of_below (h : Below w.heap.size w w') : KeepsOthers w w' := ⟨h.size, fun k o hk _ => (h.block k (Array.getElem?_eq_some_iff.1 hk).1).trans hk⟩
theorem RKeep.below (h : RKeep S w w1) (k : Below w1.heap.size w1 w2) : RKeep S w w2 :=
  ⟨h.keep.trans (Keep.of_below (S := fun _ => False) k) (fun _ _ h => h.elim), h.others.trans (KeepsOthers.of_below k)⟩
theorem RKeep.grown {row : Option Nat} (h : RKeep S w w1) (hg : w1.grownBy w2 row) (hr : ∀ g, row = some g → g < w.heap.size → S g)
    (hc : ∀ (j : Nat) (o : Obj), row = some j → w1.heap[j]? = some o → o.isCells = true) : RKeep S w w2 :=
  ⟨h.keep.grown hg hr, h.others.trans (.of_grownBy hg hc)⟩
end

theorem row_cells {w : World} {base : Nat} {e : TypeId} {size n : Nat} {v : Value} {xs : List Value} (h : w.ownsRow base e size v n xs) :
    ∀ (j : Nat) (o : Obj), v.ownBlock = some j → w.heap[j]? = some o → o.isCells = true := by
  intro j o hj ho
  rcases h.2 with ⟨rfl, _⟩ | ⟨g, cap, cur, rfl, _, hh, _⟩
  · simp [Value.ownBlock] at hj
  · simp [Value.ownBlock] at hj
    subst hj
    rw [hh] at ho
    cases ho
    rfl

theorem wide_no {p : Prop} (h : Fence.wide.depth.isSome = true) : p := by simp [Fence.wide] at h

/-- What is kept through the iterator's own steps (blocks of 'own'), and through the loop's own book-keeping (objects from B on that are no cells). -/
structure Stays (own : Nat → Prop) (B : Nat) (I : World → Prop) : Prop where
  step : ∀ A A', I A → Keep own A A' → I A'
  book : ∀ A r o o', I A → B ≤ r → A.heap[r]? = some o → o.isCells = false → I (A.putObj r o')

theorem putObj_cell {A : World} {r : Nat} {o o' : Obj} {p : Addr} {v : Value} (h : A.cell? p = some v) (hr : A.heap[r]? = some o) (ho : o.isCells = false) : (A.putObj r o').cell? p = some v := by
  have hne : p.block ≠ r := by
    intro e
    unfold World.cell? at h
    rw [e, hr] at h
    cases o <;> simp_all [Obj.isCells]
  exact (World.cell?_of_block (w := A) (World.putObj_heap_other hne)).trans h
theorem putObj_keep (A : World) (r : Nat) (o' : Obj) {S : Nat → Prop} (hs : S r) : Keep S A (A.putObj r o') :=
  ⟨rfl, rfl, rfl, by simp, fun k _ hn => World.putObj_heap_other (by rintro rfl; exact hn hs)⟩

section
variable {own : Nat → Prop} {B : Nat}
theorem Stays.pure (p : Prop) : Stays own B (fun _ => p) := ⟨fun _ _ h _ => h, fun _ _ _ _ h _ _ _ => h⟩
theorem Stays.and {I J : World → Prop} (h : Stays own B I) (k : Stays own B J) : Stays own B (fun w => I w ∧ J w) :=
  ⟨fun A A' hs hk => ⟨h.step A A' hs.1 hk, k.step A A' hs.2 hk⟩, fun A r o o' hs hr ho hc => ⟨h.book A r o o' hs.1 hr ho hc, k.book A r o o' hs.2 hr ho hc⟩⟩
theorem Stays.ex {β : Type} {I : β → World → Prop} (h : ∀ x, Stays own B (I x)) : Stays own B (fun w => ∃ x, I x w) :=
  ⟨fun A A' ⟨x, hs⟩ hk => ⟨x, (h x).step A A' hs hk⟩, fun A r o o' ⟨x, hs⟩ hr ho hc => ⟨x, (h x).book A r o o' hs hr ho hc⟩⟩
theorem Stays.all {β : Type} {I : β → World → Prop} (h : ∀ x, Stays own B (I x)) : Stays own B (fun w => ∀ x, I x w) :=
  ⟨fun A A' hs hk x => (h x).step A A' (hs x) hk, fun A r o o' hs hr ho hc x => (h x).book A r o o' (hs x) hr ho hc⟩
theorem Stays.imp {p : Prop} {I : World → Prop} (h : Stays own B I) : Stays own B (fun w => p → I w) :=
  ⟨fun A A' hs hk x => h.step A A' (hs x) hk, fun A r o o' hs hr ho hc x => h.book A r o o' (hs x) hr ho hc⟩
theorem Stays.cell (p : Addr) (v : Value) (hp : ¬ own p.block) : Stays own B (fun w => w.cell? p = some v) :=
  ⟨fun A A' hs hk => (hk.cell (World.block_lt_of_cell? A p hs) hp).trans hs, fun A r o o' hs _ ho hc => putObj_cell hs ho hc⟩
theorem Stays.bk (g : Nat) (t : TypeId) (cs : Array Value) (hp : ¬ own g) : Stays own B (fun w => Bk w g t cs) :=
  ⟨fun A A' hs hk => hs.kept hk hp, fun A r o o' hs _ ho hc => by
    have hne : g ≠ r := by
      rintro rfl
      unfold Bk at hs
      rw [hs] at ho
      cases ho
      cases hc
    exact (World.putObj_heap_other hne).trans hs⟩
theorem Stays.below {n₀ : Nat} {w0 : World} (hn : n₀ ≤ w0.heap.size) (hB : n₀ ≤ B) (hp : ∀ b, b < n₀ → ¬ own b) : Stays own B (fun w => Below n₀ w0 w) :=
  ⟨fun A A' hs hk => hs.trans (hk.below (Nat.le_trans hn hs.size) hp), fun A r o o' hs hr _ _ =>
    hs.trans ⟨rfl, rfl, rfl, by simp, fun k hk => World.putObj_heap_other (by omega)⟩⟩
theorem Stays.size (n₀ : Nat) : Stays own B (fun w => n₀ ≤ w.heap.size) := ⟨fun _ _ hs hk => Nat.le_trans hs hk.size, fun _ _ _ _ hs _ _ _ => by simpa using hs⟩
theorem Stays.row {base : Nat} (hp : ∀ b, base ≤ b → ¬ own b) (e : TypeId) (size : Nat) (v : Value) (n : Nat) (xs : List Value) : Stays own B (fun w => w.ownsRow base e size v n xs) :=
  ⟨fun A A' hs hk => by
    refine ⟨hs.1, ?_⟩
    rcases hs.2 with h | ⟨g, cap, cur, rfl, hb, hh, rest⟩
    · exact .inl h
    · exact .inr ⟨g, cap, cur, rfl, hb, (hk.block g (Array.getElem?_eq_some_iff.1 hh).1 (hp g hb)).trans hh, rest⟩,
   fun A r o o' hs _ ho hc => by
    refine hs.kept (grownBy_putObj' A r o') (.inr ?_)
    intro e
    have := row_cells hs r o e ho
    rw [this] at hc
    cases hc⟩
theorem Stays.rd (B' : Nat) (A : Option Addr) (xs : List Value) (hp : ∀ b, b < B' → ¬ own b) : Stays own B (fun w => Rd w B' A xs ∧ B' ≤ w.heap.size) :=
  ⟨fun W W' hs hk => ⟨hs.1.kept hk hs.2 hp, Nat.le_trans hs.2 hk.size⟩, fun W r o o' hs _ ho hc => ⟨fun hn => by
    obtain ⟨b, off, rfl, hb, hcl⟩ := hs.1 hn
    exact ⟨b, off, rfl, hb, fun j u hu => putObj_cell (hcl j u hu) ho hc⟩, by simpa using hs.2⟩⟩
end

/-- AN ITERATOR that hands on N values, all rounds going on: it writes the blocks of 'own' alone, leans on those of 'prot'; E: what it hands on. -/
def Iter (P : Program) (gf : Nat) (lb : Array Value) (own prot : Nat → Prop) (N : Nat) (E : Nat → Array Value → World → Prop) (w : World) : Prop :=
  ∀ (l : Nat) (S : Nat → Prop) (J : Nat → World → Prop) (W : World), Below w.heap.size w W → (∀ b, prot b → ¬ S b) →
    (∀ k A A', J k A → Keep own A A' → J k A') →
    (∀ k x W1, k < N → J k W1 → E k x W1 → YieldAt Fence.wide 0 P l x W1 fun e W' => e = .returned (.bool true) ∧ J (k + 1) W' ∧ Keep S W1 W') →
    J 0 W →
    CallsIn Fence.wide 0 P gf (#[.func (.yield l) #[] #[]] ++ lb) W fun e W' => e = .returned (.tuple #[]) ∧ J N W'

def goesOn (S : Nat → Prop) (I : World → Prop) (W : World) : Exit → Act → World → Prop
  | .normal, _, W' => RKeep S W W' ∧ I W'
  | _, _, _ => False

/-- A call of a function with a body enters it. -/
theorem enters_ {P : Program} {f : FuncId} {fn : Func} {c : Code} (hf : P.funcs[f]? = some fn) (hname : (fn.name == "runtime.NumGoroutine") = false) (hb : fn.body = some c) (args : Array Value) (w : World) :
    (callFunc f args).run P w = .ok (.enter f args) w := by
  have h1 : fn.name ≠ "runtime.NumGoroutine" := by simpa using hname
  simp [callFunc, hf, h1, hb, mark]

/-- THE LAW. -/
theorem wp_rangeFunc {P : Program} {g : Operand} {ps : Array Tmp} {assign body : Code} {Q : Exit → Act → World → Prop} {a : Act} {w : World}
    {gf : Nat} {lb : Array Value} (hg : a.eval g = .func (.func gf) #[] lb) (eg : ∀ args w, (callFunc gf args).run P w = .ok (.enter gf args) w)
    (own prot S : Nat → Prop) (N : Nat) (E : Nat → Array Value → World → Prop) (hit : Iter P gf lb own prot N E w)
    (hprot : ∀ b, prot b → b < w.heap.size ∧ ¬ S b) (hown : ∀ b, own b → b < w.heap.size)
    (I : Nat → World → Prop) (hI : ∀ k, Stays own w.heap.size (I k)) (h0 : I 0 w)
    (hE : ∀ k x W r o o', E k x W → w.heap.size ≤ r → W.heap[r]? = some o → o.isCells = false → E k x (W.putObj r o'))
    (hps : ∀ k x W, E k x W → x.size = ps.size) (a₁ : Array Value → Act)
    (hassign : ∀ (l k : Nat) (x : Array Value) (W : World) (K : Act → World → Prop), E k x W → K (a₁ x) W →
      assign.wpIn (Fence.wide.inRound l) 0 P (Exit.then K (fun _ _ _ => False)) { tmps := (ps.zip x).foldl (fun t (p, v) => t.setIfInBounds p v) a.tmps, defers := [] } W)
    (hbody : ∀ (l k : Nat) (x : Array Value) (W : World), k < N → I k W → E k x W → w.heap.size ≤ W.heap.size →
      body.wpIn (Fence.wide.inRound l) 0 P (goesOn (fun b => S b ∨ w.heap.size ≤ b) (I (k + 1)) W) (a₁ x) W)
    (hdone : ∀ (D : Nat) (W : World), w.heap.size ≤ D → I N W → W.heap[D]? = some (.deferred (some [])) →
      Q .normal { a with defers := { target := .collected D, args := #[] } :: a.defers } W) :
    (Code.rangeFunc g ps assign body).wp P Q a w := by
  refine (wpIn_wide (n := 1)).1 (wpIn_rangeFunc ?_)
  intro fn hfn
  show ∃ l mark w₁ d w₁' f args w₂, (Instr.enterLoop fn a.tmps ps assign body none).run P w = _ ∧ _
  obtain ⟨rec, hrec⟩ : ∃ rec : LoopState → Option Code → Loop, rec = fun st pe => { state := st, pending := pe, fn, tmps := a.tmps, params := ps, assign, body, defers := w.heap.size } := ⟨_, rfl⟩
  obtain ⟨W1, hW1⟩ : ∃ W1, (w.alloc (.deferred (some []))).alloc (.loop (rec .ready none)) = W1 := ⟨_, rfl⟩
  have hL1 : W1.heap[w.heap.size + 1]? = some (.loop (rec .ready none)) := by
    rw [← hW1]; have := World.alloc_heap_new (w.alloc (.deferred (some []))) (.loop (rec .ready none)); rwa [World.size_alloc] at this
  have hK1 : W1.heap[w.heap.size]? = some (.deferred (some [])) := by
    rw [← hW1]; exact (Below.heap_alloc _ _ _ (by simp)).trans (World.alloc_heap_new w _)
  have hkeep1 : Keep own w W1 := by rw [← hW1]; exact ((Keep.refl own w).alloc _).alloc _
  have hI1 : I 0 W1 := (hI 0).step w W1 h0 hkeep1
  have hb1 : Below w.heap.size w W1 := by
    rw [← hW1]; exact ((Below.refl _ w).alloc (Nat.le_refl _) _).alloc (by simp) _
  have hnown : ∀ b, w.heap.size ≤ b → ¬ own b := fun b hb ho => by have := hown b ho; omega
  refine ⟨w.heap.size + 1, [{ target := .collected w.heap.size, args := #[] }], W1, { target := .fn (.func gf) lb, args := #[.func (.yield (w.heap.size + 1)) #[] #[]] }, W1, gf,
    #[.func (.yield (w.heap.size + 1)) #[] #[]] ++ lb, W1, ?_, ?_, ?_, ?_, fun h => by simp [Fence.wide] at h, ?_⟩
  · rw [← hW1, hrec]; exact run_enterLoop_outer _ _ _ _ _
  · simp only [resolve, hg]
    simp [go_sem]
  · intro f' _; trivial
  · simp [invoke, go_sem, eg]
  · refine (hit (w.heap.size + 1) (fun b => S b ∨ w.heap.size ≤ b)
      (fun k W => I k W ∧ W.heap[w.heap.size + 1]? = some (.loop (rec .ready none)) ∧ W.heap[w.heap.size]? = some (.deferred (some [])))
      W1 hb1 (fun b hb hs => by obtain ⟨h1, h2⟩ := hprot b hb; rcases hs with h | h; exact h2 h; omega) ?_ ?_ ⟨hI1, hL1, hK1⟩).mono ?_
    · rintro k A A' ⟨hi, hl, hk⟩ hkp
      exact ⟨(hI k).step A A' hi hkp, (hkp.block _ (Array.getElem?_eq_some_iff.1 hl).1 (hnown _ (by omega))).trans hl, (hkp.block _ (Array.getElem?_eq_some_iff.1 hk).1 (hnown _ (Nat.le_refl _))).trans hk⟩
    · rintro k x W hkN ⟨hi, hl, hk⟩ hEx
      have hlt : w.heap.size + 1 < W.heap.size := (Array.getElem?_eq_some_iff.1 hl).1
      have hy := run_yield (P := P) (args := x) hl (by rw [hrec]; exact hps k x W hEx)
      rw [hrec] at hy
      refine ⟨fn, _, assign, body, hy, roundIn_of_wpIn hfn (hassign _ k x W _ hEx ⟨_, run_beginRound hl (by rw [hrec]), ?_⟩)⟩
      have hl2 : (W.putObj (w.heap.size + 1) (.loop { rec .ready none with state := .busy })).heap[w.heap.size + 1]? = some (.loop { rec .ready none with state := .busy }) := World.putObj_heap_same hlt
      have hk2 : (W.putObj (w.heap.size + 1) (.loop { rec .ready none with state := .busy })).heap[w.heap.size]? = some (.deferred (some [])) := (World.putObj_heap_other (by omega)).trans hk
      have hkp2 : Keep (fun b => S b ∨ w.heap.size ≤ b) W (W.putObj (w.heap.size + 1) (.loop { rec .ready none with state := .busy })) := putObj_keep _ _ _ (.inr (by omega))
      refine wpIn_mono (hbody _ k x _ hkN ((hI k).book _ _ _ _ hi (by omega) hl rfl) (hE k x W _ _ _ hEx (by omega) hl rfl) (by simp; omega)) ?_
      rintro e a3 W3 hp
      cases e with
      | normal =>
        obtain ⟨hrk, hi3⟩ := hp
        have hl3 := hrk.others.same _ _ hl2 rfl
        have hk3 := hrk.others.same _ _ hk2 rfl
        have hr := run_endRound (P := P) none hl3
        rw [hrec] at hr
        refine ⟨_, _, hr, rfl, ⟨(hI (k + 1)).book _ _ _ _ hi3 (by omega) hl3 rfl, ?_, (World.putObj_heap_other (by omega)).trans hk3⟩, ?_⟩
        · rw [hrec]
          exact World.putObj_heap_same (Array.getElem?_eq_some_iff.1 hl3).1
        · exact (hkp2.trans hrk.keep (fun _ _ h => h)).trans (putObj_keep (S := fun b => S b ∨ w.heap.size ≤ b) _ _ _ (.inr (by omega))) (fun _ _ h => h)
      | ret => exact hp.elim
      | exit id => exact hp.elim
      | goto t => exact hp.elim
      | panic ch => exact hp.elim
      | outgrown => exact hp.elim
    · rintro e W2 ⟨rfl, hi, hl, hk⟩
      refine ⟨none, _, by have := run_endLoop (P := P) hl (by rw [hrec]; simp); rw [hrec] at this; exact this, hdone _ _ (Nat.le_refl _) ((hI N).book _ _ _ _ hi (by omega) hl rfl) ((World.putObj_heap_other (by omega)).trans hk)⟩

/-- THE LAW at one loop variable, without anything boxed. -/
theorem wp_rangeFunc1 {P : Program} {g : Operand} {p : Tmp} {assign body : Code} {Q : Exit → Act → World → Prop} {a : Act} {w : World} {a₁ : Value → Act}
    {gf : Nat} {lb : Array Value} (own prot S : Nat → Prop) (N : Nat) (E : Nat → Value → World → Prop) (I : Nat → World → Prop)
    (hg : a.eval g = .func (.func gf) #[] lb) (eg : ∀ args w, (callFunc gf args).run P w = .ok (.enter gf args) w)
    (hit : Iter P gf lb own prot N (fun k x W => ∃ v, x = #[v] ∧ E k v W) w)
    (hprot : ∀ b, prot b → b < w.heap.size ∧ ¬ S b) (hown : ∀ b, own b → b < w.heap.size)
    (hI : ∀ k, Stays own w.heap.size (I k)) (h0 : I 0 w)
    (hE : ∀ k x W r o o', E k x W → w.heap.size ≤ r → W.heap[r]? = some o → o.isCells = false → E k x (W.putObj r o'))
    (hassign : ∀ (l : Nat) (x : Value) (W : World),
      assign.wpIn (Fence.wide.inRound l) 0 P (Exit.then (fun a' W' => a' = a₁ x ∧ W' = W) (fun _ _ _ => False)) { tmps := a.tmps.setIfInBounds p x, defers := [] } W)
    (hbody : ∀ (l k : Nat) (x : Value) (W : World), k < N → I k W → E k x W → w.heap.size ≤ W.heap.size →
      body.wpIn (Fence.wide.inRound l) 0 P (goesOn (fun b => S b ∨ w.heap.size ≤ b) (I (k + 1)) W) (a₁ x) W)
    (hdone : ∀ (D : Nat) (W : World), w.heap.size ≤ D → I N W → W.heap[D]? = some (.deferred (some [])) →
      Q .normal { a with defers := { target := .collected D, args := #[] } :: a.defers } W) :
    (Code.rangeFunc g #[p] assign body).wp P Q a w := by
  refine wp_rangeFunc hg eg own prot S N _ hit hprot hown I hI h0 ?_ ?_ (fun x => a₁ (x.getD 0 undef)) ?_ ?_ hdone
  · rintro k x W r o o' ⟨v, rfl, h⟩ hr ho hc
    exact ⟨v, rfl, hE k v W r o o' h hr ho hc⟩
  · rintro k x W ⟨v, rfl, h⟩
    rfl
  · rintro l k x W K ⟨v, rfl, h⟩ hK
    refine wpIn_mono (by simpa [Array.zip] using hassign l v W) ?_
    rintro e a' W' hq
    cases e with
    | normal => obtain ⟨rfl, rfl⟩ := hq; exact hK
    | _ => exact hq.elim
  · rintro l k x W hk hi ⟨v, rfl, h⟩ hs
    exact hbody l k v W hk hi h hs

/-- THE LAW at two loop variables. -/
theorem wp_rangeFunc2 {P : Program} {g : Operand} {p q : Tmp} {assign body : Code} {Q : Exit → Act → World → Prop} {a : Act} {w : World} {a₁ : Value → Value → Act}
    {gf : Nat} {lb : Array Value} (own prot S : Nat → Prop) (N : Nat) (E : Nat → Value → Value → World → Prop) (I : Nat → World → Prop)
    (hg : a.eval g = .func (.func gf) #[] lb) (eg : ∀ args w, (callFunc gf args).run P w = .ok (.enter gf args) w)
    (hit : Iter P gf lb own prot N (fun k x W => ∃ v u, x = #[v, u] ∧ E k v u W) w)
    (hprot : ∀ b, prot b → b < w.heap.size ∧ ¬ S b) (hown : ∀ b, own b → b < w.heap.size)
    (hI : ∀ k, Stays own w.heap.size (I k)) (h0 : I 0 w)
    (hE : ∀ k x y W r o o', E k x y W → w.heap.size ≤ r → W.heap[r]? = some o → o.isCells = false → E k x y (W.putObj r o'))
    (hassign : ∀ (l : Nat) (x y : Value) (W : World),
      assign.wpIn (Fence.wide.inRound l) 0 P (Exit.then (fun a' W' => a' = a₁ x y ∧ W' = W) (fun _ _ _ => False)) { tmps := (a.tmps.setIfInBounds p x).setIfInBounds q y, defers := [] } W)
    (hbody : ∀ (l k : Nat) (x y : Value) (W : World), k < N → I k W → E k x y W → w.heap.size ≤ W.heap.size →
      body.wpIn (Fence.wide.inRound l) 0 P (goesOn (fun b => S b ∨ w.heap.size ≤ b) (I (k + 1)) W) (a₁ x y) W)
    (hdone : ∀ (D : Nat) (W : World), w.heap.size ≤ D → I N W → W.heap[D]? = some (.deferred (some [])) →
      Q .normal { a with defers := { target := .collected D, args := #[] } :: a.defers } W) :
    (Code.rangeFunc g #[p, q] assign body).wp P Q a w := by
  refine wp_rangeFunc hg eg own prot S N _ hit hprot hown I hI h0 ?_ ?_ (fun x => a₁ (x.getD 0 undef) (x.getD 1 undef)) ?_ ?_ hdone
  · rintro k x W r o o' ⟨v, u, rfl, h⟩ hr ho hc
    exact ⟨v, u, rfl, hE k v u W r o o' h hr ho hc⟩
  · rintro k x W ⟨v, u, rfl, h⟩
    rfl
  · rintro l k x W K ⟨v, u, rfl, h⟩ hK
    refine wpIn_mono (by simpa [Array.zip] using hassign l v u W) ?_
    rintro e a' W' hq
    cases e with
    | normal => obtain ⟨rfl, rfl⟩ := hq; exact hK
    | _ => exact hq.elim
  · rintro l k x W hk hi ⟨v, u, rfl, h⟩ hs
    exact hbody l k v u W hk hi h hs

/-- A function's contract, where its body holds such a loop. -/
theorem calls_of_wp_marks {P : Program} {f : FuncId} {fn : Func} {c : Code} {args : Array Value} {w : World} {R : Ending → World → Prop}
    (hf : P.funcs[f]? = some fn) (hb : fn.body = some c)
    (h : c.wp P (bodyPostM Fence.wide 0 P fn R) { tmps := args ++ Array.replicate (fn.ntmps - args.size) undef, defers := [] } w) : Calls P f args w R :=
  (callsIn_wide (n := 0)).1 (callsIn_of_wp_marks hf hb trivial (wpIn_wide.2 h) rfl)

/-- At its return, behind the loop. -/
theorem leave_mark {P : Program} {fn : Func} {R : Ending → World → Prop} {D : Nat} {tmps : Array Value} {W : World} {v : Value}
    (hK : W.heap[D]? = some (.deferred (some []))) (hr : (results fn tmps).run P (W.putObj D (.deferred none)) = .ok v (W.putObj D (.deferred none))) (hR : R (.returned v) (W.putObj D (.deferred none))) :
    bodyPostM Fence.wide 0 P fn R .ret { tmps, defers := [{ target := .collected D, args := #[] }] } W :=
  ⟨by simp, .inl ⟨D, _, rfl, run_takeDeferred hK, v, hr, hR⟩⟩
theorem leave_mark_end {P : Program} {fn : Func} {R : Ending → World → Prop} {D : Nat} {tmps : Array Value} {W : World} {v : Value}
    (hK : W.heap[D]? = some (.deferred (some []))) (hr : (results fn tmps).run P (W.putObj D (.deferred none)) = .ok v (W.putObj D (.deferred none))) (hR : R (.returned v) (W.putObj D (.deferred none))) :
    bodyPostM Fence.wide 0 P fn R .normal { tmps, defers := [{ target := .collected D, args := #[] }] } W :=
  ⟨by simp, .inl ⟨D, _, rfl, run_takeDeferred hK, v, hr, hR⟩⟩
/-- At a return ahead of the loop. -/
theorem leave_plain {P : Program} {fn : Func} {R : Ending → World → Prop} {tmps : Array Value} {W : World} {v : Value}
    (hr : (results fn tmps).run P W = .ok v W) (hR : R (.returned v) W) : bodyPostM Fence.wide 0 P fn R .ret { tmps, defers := [] } W := ⟨v, hr, hR⟩

/-- How long the slice is that lies in a block's only cell. -/
def lenAt (w : World) (g : Nat) : Nat := match w.cell? ⟨g, 0, none⟩ with | some (.slice _ n _) => n | _ => 0
theorem lenAt_eq {w : World} {g : Nat} {t : TypeId} {A : Option Addr} {n c : Nat} (h : Bk w g t #[.slice A n c]) : lenAt w g = n := by
  have : w.cell? ⟨g, 0, none⟩ = some (.slice A n c) := h.cell 0
  unfold lenAt
  rw [this]
end Go.Proofs.Ytgdlombjhbfbiaa
