/-
  Two values of a plain type (numbers, bools, strings; structs and arrays of these) are compared by their cells.
-/
import Derived.WalkKit
import Derived.DeepKeys
import Derived.Laws.StructEq
namespace Go.Proofs.Ytgdlombjhbfbiaa
set_option linter.unusedVariables false
set_option linter.unusedSimpArgs false
open Go.RowKit

/-- What a cell holds. -/
inductive Kd where
  | b
  | i (k : IntKind)
  | s

def Kd.fits : Kd → Value → Prop
  | .b, v => ∃ x, v = .bool x
  | .i k, v => ∃ n, v = .int k n ∧ (Lit.int k n).wf = true
  | .s, v => ∃ x : ByteArray, v = .string x ∧ x.size ≤ maxLen

/-- Cells of these kinds. -/
def Kinds : List Kd → List Value → Prop
  | [], [] => True
  | k :: ks, v :: vs => k.fits v ∧ Kinds ks vs
  | _, _ => False

theorem Kinds.length : ∀ {ks : List Kd} {vs : List Value}, Kinds ks vs → vs.length = ks.length
  | [], [], _ => rfl
  | _ :: _, _ :: _, h => by simp [Kinds.length h.2]
  | [], _ :: _, h => h.elim
  | _ :: _, [], h => h.elim
theorem Kinds.drop : ∀ {ks : List Kd} {vs : List Value} (n : Nat), Kinds ks vs → Kinds (ks.drop n) (vs.drop n)
  | _, _, 0, h => h
  | [], [], _ + 1, _ => trivial
  | _ :: _, _ :: _, n + 1, h => Kinds.drop n h.2
  | [], _ :: _, _ + 1, h => h.elim
  | _ :: _, [], _ + 1, h => h.elim
theorem Kinds.take : ∀ {ks : List Kd} {vs : List Value} (n : Nat), Kinds ks vs → Kinds (ks.take n) (vs.take n)
  | _, _, 0, _ => by simp [Kinds]
  | [], [], _ + 1, _ => trivial
  | _ :: _, _ :: _, n + 1, h => ⟨h.1, Kinds.take n h.2⟩
  | [], _ :: _, _ + 1, h => h.elim
  | _ :: _, [], _ + 1, h => h.elim
theorem Kinds.append : ∀ {ks ks' : List Kd} {vs vs' : List Value}, Kinds ks vs → Kinds ks' vs' → Kinds (ks ++ ks') (vs ++ vs')
  | [], _, [], _, _, h => h
  | _ :: _, _, _ :: _, _, h, h' => ⟨h.1, Kinds.append h.2 h'⟩
  | [], _, _ :: _, _, h, _ => h.elim
  | _ :: _, _, [], _, h, _ => h.elim
theorem Kinds.ints {l : List Int} (h : ∀ n ∈ l, (Lit.int .i64 n).wf = true) : Kinds (List.replicate l.length (.i .i64)) (l.map (Value.int .i64)) := by
  induction l with
  | nil => trivial
  | cons n l ih => exact ⟨⟨n, rfl, h n List.mem_cons_self⟩, ih (fun x hx => h x (List.mem_cons_of_mem _ hx))⟩
theorem Kinds.blocks {α : Type} {ks : List Kd} {f : α → List Value} {l : List α} (h : ∀ x ∈ l, Kinds ks (f x)) : Kinds (List.replicate l.length ks).flatten (l.flatMap f) := by
  induction l with
  | nil => trivial
  | cons n l ih => exact Kinds.append (h n List.mem_cons_self) (ih (fun x hx => h x (List.mem_cons_of_mem _ hx)))

theorem wf_i64 {n : Int} (h : -9223372036854775808 ≤ n ∧ n ≤ 9223372036854775807) : (Lit.int .i64 n).wf = true := by
  simp [Lit.wf, IntKind.min, IntKind.max, IntKind.signed, IntKind.bits]
  omega

/-- Fields without room between them. -/
def contig (P : Program) : List Field → Nat → Nat → Bool
  | [], o, n => o == n
  | f :: r, o, n => f.offset == o && contig P r (o + P.cellsOf f.type) n

/-- A type whose cells are of these kinds. -/
def okFlat (P : Program) : Nat → TypeId → List Kd → Bool
  | 0, _, _ => false
  | d + 1, t, ks =>
    match P.underlying t, ks with
    | some .bool, [.b] => true
    | some (.int q), [.i q'] => q == q'
    | some .string, [.s] => true
    | some (.array n e), ks => ks.length == P.cellsOf t && P.cellsOf t == n * P.cellsOf e && (List.range n).all fun i => okFlat P d e ((ks.drop (i * P.cellsOf e)).take (P.cellsOf e))
    | some (.struct fs), ks => ks.length == P.cellsOf t && contig P fs.toList 0 (P.cellsOf t) && fs.all (·.name != "_") && fs.toList.all fun f => okFlat P d f.type ((ks.drop f.offset).take (P.cellsOf f.type))
    | _, _ => false

theorem mapM_some {α β : Type} {f : α → Option β} : ∀ {l : List α}, (∀ x ∈ l, ∃ y, f x = some y) → ∃ ys, l.mapM f = some ys
  | [], _ => ⟨[], rfl⟩
  | x :: l, h => by
    obtain ⟨y, hy⟩ := h x List.mem_cons_self
    obtain ⟨ys, hys⟩ := mapM_some (fun z hz => h z (List.mem_cons_of_mem _ hz))
    exact ⟨y :: ys, by rw [List.mapM_cons, hy, hys]; rfl⟩

theorem okFlat_lits {P : Program} : ∀ (d : Nat) (t : TypeId) (ks : List Kd) (cs : List Value), okFlat P d t ks = true → Kinds ks cs → ∃ la, P.keyLits d t cs = some la
  | 0, _, _, _, h, _ => by simp [okFlat] at h
  | d + 1, t, ks, cs, h, hk => by
    unfold okFlat at h
    unfold Program.keyLits
    cases hu : P.underlying t with
    | none => rw [hu] at h; simp at h
    | some kd =>
      rw [hu] at h
      cases kd
      case bool =>
        split at h <;> simp_all
        match cs, hk with
        | [v], ⟨⟨x, hx⟩, _⟩ => exact ⟨_, by rw [hx]⟩
      case int q =>
        rcases ks with _ | ⟨k, _ | ⟨k2, r⟩⟩
        · simp at h
        · cases k <;> simp at h
          subst h
          match cs, hk with
          | [v], ⟨⟨n, hx, hw⟩, _⟩ => exact ⟨[.int q n], by rw [hx]; simp [hw]⟩
        · cases k <;> simp at h
      case string =>
        split at h <;> simp_all
        match cs, hk with
        | [v], ⟨⟨x, hx, hw⟩, _⟩ => exact ⟨[.string x.data.toList], by rw [hx]; simp [hw]⟩
      case array n e =>
        simp only [Bool.and_eq_true, beq_iff_eq, List.all_eq_true] at h
        obtain ⟨⟨h1, _⟩, h2⟩ := h
        obtain ⟨ys, hys⟩ := mapM_some (f := fun i => P.keyLits d e ((cs.drop (i * P.cellsOf e)).take (P.cellsOf e))) (l := List.range n) (fun i hi => okFlat_lits d e _ _ (h2 i hi) ((hk.drop _).take _))
        simp only
        rw [if_pos (hk.length.trans h1), hys]
        exact ⟨_, rfl⟩
      case struct fs =>
        simp only [Bool.and_eq_true, beq_iff_eq, List.all_eq_true] at h
        obtain ⟨⟨⟨h1, _⟩, h2⟩, h3⟩ := h
        obtain ⟨ys, hys⟩ := mapM_some (f := fun f : Field => P.keyLits d f.type ((cs.drop f.offset).take (P.cellsOf f.type))) (l := fs.toList) (fun f hf => okFlat_lits d f.type _ _ (h3 f hf) ((hk.drop _).take _))
        simp only
        rw [if_pos ⟨hk.length.trans h1, h2⟩, hys]
        exact ⟨_, rfl⟩
      all_goals (simp at h)

/-- A cell as a literal. -/
def toLit : Value → Lit
  | .int k n => .int k n
  | .bool b => .bool b
  | .string s => .string s.data.toList
  | _ => .bool false

theorem mapM_map {α β : Type} {f : α → Option β} {g : α → β} : ∀ {l : List α} {ys : List β}, l.mapM f = some ys → (∀ x ∈ l, ∀ y, f x = some y → y = g x) → ys = l.map g
  | [], ys, h, _ => by simp at h; subst h; rfl
  | x :: l, ys, h, hg => by
    rw [List.mapM_cons] at h
    simp only [bind, Option.bind_eq_some_iff, pure, Option.some.injEq] at h
    obtain ⟨y, hy, ys', hys, rfl⟩ := h
    rw [List.map_cons, ← hg x List.mem_cons_self y hy, ← mapM_map hys (fun z hz => hg z (List.mem_cons_of_mem _ hz))]

theorem chunks_all {α : Type} (m : Nat) : ∀ (n : Nat) (l : List α), l.length = n * m → ((List.range n).map fun i => (l.drop (i * m)).take m).flatten = l
  | 0, l, h => by
    obtain rfl : l = [] := List.eq_nil_of_length_eq_zero (by simpa using h)
    rfl
  | n + 1, l, h => by
    rw [List.range_succ_eq_map, List.map_cons, List.map_map, List.flatten_cons, Nat.zero_mul, List.drop_zero]
    have e : ((List.range n).map ((fun i => (l.drop (i * m)).take m) ∘ Nat.succ)) = ((List.range n).map fun i => ((l.drop m).drop (i * m)).take m) := by
      refine List.map_congr_left (fun i _ => ?_)
      simp only [Function.comp_def]
      rw [List.drop_drop, Nat.succ_mul, Nat.add_comm]
    rw [e, chunks_all m n (l.drop m) (by rw [List.length_drop, h, Nat.succ_mul]; omega), List.take_append_drop]

theorem contig_all {P : Program} {α : Type} : ∀ (fs : List Field) (o n : Nat) (l : List α), contig P fs o n = true → l.length = n → o ≤ n → (fs.map fun f => (l.drop f.offset).take (P.cellsOf f.type)).flatten = l.drop o
  | [], o, n, l, h, hl, _ => by
    simp only [contig, beq_iff_eq] at h
    subst h
    rw [List.drop_of_length_le (by omega)]
    rfl
  | f :: r, o, n, l, h, hl, ho => by
    simp only [contig, Bool.and_eq_true, beq_iff_eq] at h
    obtain ⟨h1, h2⟩ := h
    rw [List.map_cons, List.flatten_cons, h1]
    by_cases hle : o + P.cellsOf f.type ≤ n
    · rw [contig_all r _ n l h2 hl hle, ← List.drop_drop, List.take_append_drop]
    · exfalso
      have : ∀ (r : List Field) (o : Nat), contig P r o n = true → o ≤ n := by
        intro r
        induction r with
        | nil => intro o h; simp only [contig, beq_iff_eq] at h; omega
        | cons g r ih => intro o h; simp only [contig, Bool.and_eq_true, beq_iff_eq] at h; have := ih _ h.2; omega
      exact hle (this r _ h2)

theorem okFlat_toLit {P : Program} : ∀ (d : Nat) (t : TypeId) (ks : List Kd) (cs : List Value) (la : List Lit), okFlat P d t ks = true → P.keyLits d t cs = some la → la = cs.map toLit
  | 0, _, _, _, _, h, _ => by simp [okFlat] at h
  | d + 1, t, ks, cs, la, h, hl => by
    unfold okFlat at h
    unfold Program.keyLits at hl
    cases hu : P.underlying t with
    | none => rw [hu] at h; simp at h
    | some kd =>
      rw [hu] at h hl
      cases kd
      case bool => split at hl <;> simp_all; subst hl; rfl
      case int q =>
        split at hl <;> simp_all
        obtain ⟨⟨rfl, _⟩, rfl⟩ := hl
        rfl
      case string =>
        split at hl <;> simp_all
        obtain ⟨_, rfl⟩ := hl
        rfl
      case array n e =>
        simp only [Bool.and_eq_true, beq_iff_eq, List.all_eq_true] at h
        obtain ⟨⟨h1, h0⟩, h2⟩ := h
        simp only at hl
        split at hl
        · rename_i hc
          simp only [Option.map_eq_some_iff] at hl
          obtain ⟨ys, hys, rfl⟩ := hl
          have e1 := mapM_map (g := fun i => ((cs.drop (i * P.cellsOf e)).take (P.cellsOf e)).map toLit) hys (fun i hi y hy => okFlat_toLit d e _ _ _ (h2 i hi) hy)
          have e2 := congrArg (List.map toLit) (chunks_all (P.cellsOf e) n cs (hc.trans h0))
          rw [e1, ← e2, List.map_flatten, List.map_map]
          rfl
        · cases hl
      case struct fs =>
        simp only [Bool.and_eq_true, beq_iff_eq, List.all_eq_true] at h
        obtain ⟨⟨⟨h1, h0⟩, h2⟩, h3⟩ := h
        simp only at hl
        split at hl
        · rename_i hc
          simp only [Option.map_eq_some_iff] at hl
          obtain ⟨ys, hys, rfl⟩ := hl
          have e1 := mapM_map (g := fun f : Field => ((cs.drop f.offset).take (P.cellsOf f.type)).map toLit) hys (fun f hf y hy => okFlat_toLit d f.type _ _ _ (h3 f hf) hy)
          have e2 := congrArg (List.map toLit) (contig_all fs.toList 0 _ cs h0 hc.1 (Nat.zero_le _))
          rw [List.drop_zero] at e2
          rw [e1, ← e2, List.map_flatten, List.map_map]
          rfl
        · cases hl
      all_goals (simp at h)

theorem kinds_toLit : ∀ {ks : List Kd} {a b : List Value}, Kinds ks a → Kinds ks b → a.map toLit = b.map toLit → a = b
  | [], [], [], _, _, _ => rfl
  | k :: ks, x :: a, y :: b, ha, hb, h => by
    rw [List.map_cons, List.map_cons] at h
    injection h with h1 h2
    rw [kinds_toLit ha.2 hb.2 h2]
    congr 1
    cases k with
    | b =>
      obtain ⟨u, rfl⟩ := ha.1
      obtain ⟨v, rfl⟩ := hb.1
      simp only [toLit, Lit.bool.injEq] at h1
      rw [h1]
    | i q =>
      obtain ⟨u, rfl, _⟩ := ha.1
      obtain ⟨v, rfl, _⟩ := hb.1
      simp only [toLit, Lit.int.injEq, true_and] at h1
      rw [h1]
    | s =>
      obtain ⟨u, rfl, _⟩ := ha.1
      obtain ⟨v, rfl, _⟩ := hb.1
      simp only [toLit, Lit.string.injEq] at h1
      have : u = v := by
        cases u; cases v
        simp only at h1
        congr 1
        exact Array.toList_inj.1 h1
      rw [this]
  | [], _ :: _, _, h, _, _ => h.elim
  | [], [], _ :: _, _, h, _ => h.elim
  | _ :: _, [], _, h, _, _ => h.elim
  | _ :: _, _ :: _, [], _, h, _ => h.elim

/-- THE LAW: '==' and '!=' on two structs, or arrays, of a plain type. -/
theorem plain_equal {P : Program} {t : TypeId} {m d : Nat} {ks : List Kd} (hk : P.keyTypeAt m t = true) (hm : m ≤ 10000) (hf : okFlat P d t ks = true) (td : TypeDesc) (hu : P.underlying t = some td) (hrow : (match td with | .array _ _ | .struct _ => true | _ => false) = true)
    {a b : Array Value} (ha : Kinds ks a.toList) (hb : Kinds ks b.toList) (w : World) (r : Bool) (he : r = true ↔ a = b) : (Op.equalIn 10000 t (.agg a) (.agg b)).run P w = .ok r w := by
  obtain ⟨la, hla⟩ := okFlat_lits d t ks a.toList hf ha
  obtain ⟨lb, hlb⟩ := okFlat_lits d t ks b.toList hf hb
  have hsz : ks.length = P.cellsOf t := by
    unfold okFlat at hf
    cases d with
    | zero => simp at hf
    | succ d =>
      simp only [hu] at hf
      cases td <;> simp at hrow <;> simp only [Bool.and_eq_true, beq_iff_eq] at hf
      · exact hf.1.1
      · exact hf.1.1.1
  have hform : ∀ {c : Array Value}, Kinds ks c.toList → (Value.agg c).formed P t = true := by
    intro c hc
    have hl := hc.length
    rw [Array.length_toList] at hl
    unfold Value.formed
    cases td <;> simp at hrow <;> simp_all
  have := run_equalIn_deep (P := P) (10000 - m) m t hk
  rw [show 10000 - m + m = 10000 from by omega] at this
  obtain ⟨q, hr, hiff⟩ := this w d d (.agg a) (.agg b) la lb (hform ha) (hform hb) hla hlb
  rw [hr]
  have e1 := okFlat_toLit d t ks _ _ hf hla
  have e2 := okFlat_toLit d t ks _ _ hf hlb
  have : q = r := by
    rw [Bool.eq_iff_iff, hiff, he]
    constructor
    · intro e
      rw [e1, e2] at e
      exact Array.toList_inj.1 (kinds_toLit ha hb e)
    · rintro rfl
      rw [e1, e2]
  rw [this]
theorem plain_eql {P : Program} {t : TypeId} {m d : Nat} {ks : List Kd} (hk : P.keyTypeAt m t = true) (hm : m ≤ 10000) (hf : okFlat P d t ks = true) (td : TypeDesc) (hu : P.underlying t = some td) (hrow : (match td with | .array _ _ | .struct _ => true | _ => false) = true)
    {a b : Array Value} (ha : Kinds ks a.toList) (hb : Kinds ks b.toList) (w : World) (r : Bool) (he : r = true ↔ a = b) : (binOp .eql t (.agg a) (.agg b)).run P w = .ok (.bool r) w := by
  rw [run_eql_struct, plain_equal hk hm hf td hu hrow ha hb w r he]; rfl
theorem plain_neq {P : Program} {t : TypeId} {m d : Nat} {ks : List Kd} (hk : P.keyTypeAt m t = true) (hm : m ≤ 10000) (hf : okFlat P d t ks = true) (td : TypeDesc) (hu : P.underlying t = some td) (hrow : (match td with | .array _ _ | .struct _ => true | _ => false) = true)
    {a b : Array Value} (ha : Kinds ks a.toList) (hb : Kinds ks b.toList) (w : World) (r : Bool) (he : r = true ↔ a = b) : (binOp .neq t (.agg a) (.agg b)).run P w = .ok (.bool (!r)) w := by
  rw [run_neq_struct, plain_equal hk hm hf td hu hrow ha hb w r he]; rfl
end Go.Proofs.Ytgdlombjhbfbiaa
