/-
  Plain mathematics: bits of masks; statuses as words; outputs as bytes. No program in sight.
-/
import Derived.Test.YtgdlombjhbfbiaaSpecB
namespace Go.Proofs.Ytgdlombjhbfbiaa
set_option linter.unusedVariables false
set_option linter.unusedSimpArgs false
namespace Sp

/-- Is a bit of a mask 1? -/
def has (m i : Int) : Bool := decide (0 ≤ m) && decide (m < 65536) && decide (0 ≤ i) && decide (i < 16) && decide (m / 2 ^ i.toNat % 2 = 1)

theorem has_nat {m : Int} {i : Nat} (h0 : 0 ≤ m) (h1 : m < 65536) (hi : i < 16) : has m (i : Int) = decide (m / 2 ^ i % 2 = 1) := by
  unfold has
  rw [Int.toNat_natCast]
  simp only [decide_eq_true h0, decide_eq_true h1, Bool.true_and]
  rw [decide_eq_true (by omega : (0 : Int) ≤ (i : Int)), decide_eq_true (by omega : (i : Int) < 16)]
  simp only [Bool.true_and]

/-- A status: the channels that are in, those that are latched, the suspect, whether it failed. -/
structure St where
  i : Int
  l : Int
  s : Int
  f : Bool
def St.zero : St := ⟨0, 0, 0, false⟩
def St.right (x : St) : Bool :=
  decide (0 ≤ x.i) && decide (x.i ≤ 15) && decide (0 ≤ x.l) && decide (x.l ≤ 15) && (x.f == (x.i == 0)) && (x.s == -1 || decide (0 ≤ x.s) && decide (x.s < 4) && has x.i x.s)
def St.word (x : St) : Int := x.i + x.l * 16 + (if x.s < 0 then 7 else x.s) * 256 + (if x.f = true then 2048 else 0)
/-- The parts of a word. -/
def St.parts (n : Int) : St := ⟨n % 16, n / 16 % 16, if n / 256 % 8 = 7 then -1 else n / 256 % 8, decide (2048 ≤ n)⟩
/-- The status of a word, if it is one's. -/
def St.parse (n : Int) : Option St := if 0 ≤ n ∧ n < 4096 ∧ (St.parts n).right = true then some (St.parts n) else none

theorem St.right_iff (x : St) : x.right = true ↔ 0 ≤ x.i ∧ x.i ≤ 15 ∧ 0 ≤ x.l ∧ x.l ≤ 15 ∧ x.f = (x.i == 0) ∧ (x.s = -1 ∨ 0 ≤ x.s ∧ x.s < 4 ∧ has x.i x.s = true) := by
  unfold St.right
  simp only [Bool.and_eq_true, decide_eq_true_eq, Bool.or_eq_true, beq_iff_eq]
  constructor
  · rintro ⟨⟨⟨⟨⟨a, b⟩, c⟩, d⟩, e⟩, h⟩
    exact ⟨a, b, c, d, e, h.imp id (fun ⟨⟨p, q⟩, r⟩ => ⟨p, q, r⟩)⟩
  · rintro ⟨a, b, c, d, e, h⟩
    exact ⟨⟨⟨⟨⟨a, b⟩, c⟩, d⟩, e⟩, h.imp id (fun ⟨p, q, r⟩ => ⟨⟨p, q⟩, r⟩)⟩

theorem St.word_range {x : St} (h : x.right = true) : 0 ≤ x.word ∧ x.word < 4096 := by
  rw [St.right_iff] at h
  obtain ⟨a, b, c, d, e, h⟩ := h
  unfold St.word
  have hs : (if x.s < 0 then 7 else x.s) ≤ 7 ∧ 0 ≤ (if x.s < 0 then 7 else x.s) := by split <;> omega
  have hf : (if x.f = true then (2048 : Int) else 0) ≤ 2048 ∧ 0 ≤ (if x.f = true then (2048 : Int) else 0) := by split <;> omega
  omega
theorem St.parts_word {x : St} (h : x.right = true) : St.parts x.word = x := by
  rw [St.right_iff] at h
  obtain ⟨a, b, c, d, e, h⟩ := h
  obtain ⟨i, l, s, f⟩ := x
  dsimp only at a b c d e h
  unfold St.parts St.word
  dsimp only
  have hs : ∃ q : Int, (if s < 0 then 7 else s) = q ∧ 0 ≤ q ∧ q ≤ 7 ∧ (q = 7 → s = -1) ∧ (q ≠ 7 → s = q) := by
    refine ⟨_, rfl, ?_⟩
    split <;> omega
  obtain ⟨q, hq, q0, q1, q2, q3⟩ := hs
  rw [hq]
  cases f with
  | true =>
    simp only [if_true]
    rw [show (i + l * 16 + q * 256 + 2048) % 16 = i from by omega, show (i + l * 16 + q * 256 + 2048) / 16 % 16 = l from by omega, show (i + l * 16 + q * 256 + 2048) / 256 % 8 = q from by omega,
      decide_eq_true (by omega : (2048 : Int) ≤ i + l * 16 + q * 256 + 2048)]
    split
    · rw [q2 (by assumption)]
    · rw [q3 (by assumption)]
  | false =>
    simp only [Bool.false_eq_true, if_false, Int.add_zero]
    rw [show (i + l * 16 + q * 256) % 16 = i from by omega, show (i + l * 16 + q * 256) / 16 % 16 = l from by omega, show (i + l * 16 + q * 256) / 256 % 8 = q from by omega,
      decide_eq_false (by omega : ¬ (2048 : Int) ≤ i + l * 16 + q * 256)]
    split
    · rw [q2 (by assumption)]
    · rw [q3 (by assumption)]
theorem St.parse_word {x : St} (h : x.right = true) : St.parse x.word = some x := by
  obtain ⟨a, b⟩ := St.word_range h
  unfold St.parse
  rw [St.parts_word h, if_pos ⟨a, b, h⟩]
theorem St.word_parts {n : Int} (h0 : 0 ≤ n) (h1 : n < 4096) : (St.parts n).word = n := by
  unfold St.parts St.word
  dsimp only
  have hs : (if (if n / 256 % 8 = 7 then (-1 : Int) else n / 256 % 8) < 0 then (7 : Int) else (if n / 256 % 8 = 7 then -1 else n / 256 % 8)) = n / 256 % 8 := by
    split <;> split at * <;> omega
  rw [hs]
  by_cases h : 2048 ≤ n
  · rw [decide_eq_true h, if_pos rfl]; omega
  · rw [decide_eq_false h, if_neg (by decide)]; omega
theorem St.parse_some {n : Int} {x : St} (h : St.parse n = some x) : x.right = true ∧ x.word = n := by
  unfold St.parse at h
  split at h
  · rename_i hc
    injection h with h
    subst h
    exact ⟨hc.2.2, St.word_parts hc.1 hc.2.1⟩
  · cases h

/-! ### outputs -/
structure Out where
  seq : Int
  vals : List Int
  sts : List St
def Out.Wf (o : Out) : Prop := o.vals.length = 8 ∧ o.sts.length = 8
def Out.zero : Out := ⟨0, List.replicate 8 0, List.replicate 8 St.zero⟩
def Out.right (o : Out) : Bool := isSeq o.seq && o.vals.all is32 && o.sts.all St.right
def failedOf (l : List St) : Nat := (l.filter St.f).length
def Out.failed (o : Out) : Int := failedOf o.sts
def words (l : List St) : List Int := l.flatMap fun s => put2 s.word
def Out.body (o : Out) : List Int := [90, o.failed] ++ put2 o.seq ++ putAll o.vals ++ words o.sts
def Out.enc (o : Out) : List Int := withSum o.body
/-- The status of two bytes; none's: the empty one. -/
def stOf (a b : Int) : St := (St.parse (get2 a b)).getD St.zero
def stsOf : List Int → List St
  | a :: b :: l => stOf a b :: stsOf l
  | _ => []
/-- What bytes tell, whether or not they are an output's. -/
def outOf (b : List Int) : Out := ⟨get2 (b.getD 2 0) (b.getD 3 0), getAll ((b.drop 4).take 32), stsOf ((b.drop 36).take 16)⟩
/-- The output of bytes, if they are one's. -/
def outDec (b : List Int) : Option Out := if b.length = 54 ∧ (outOf b).right = true ∧ (outOf b).enc = b then some (outOf b) else none

theorem words_length (l : List St) : (words l).length = 2 * l.length := by
  induction l with
  | nil => rfl
  | cons x l ih => unfold words at *; rw [List.flatMap_cons, List.length_append, ih, List.length_cons]; simp [put2]; omega
theorem failedOf_le (l : List St) : failedOf l ≤ l.length := List.length_filter_le _ _
theorem Out.body_length {o : Out} (h : o.Wf) : o.body.length = 52 := by
  obtain ⟨h1, h2⟩ := h
  unfold Out.body
  simp only [List.length_append, putAll_length, words_length, h1, h2]
  rfl
theorem Out.enc_length {o : Out} (h : o.Wf) : o.enc.length = 54 := by unfold Out.enc; rw [withSum_length, Out.body_length h]
theorem words_bytes {l : List St} (h : ∀ x ∈ l, St.right x = true) : Bytes (words l) := by
  intro c hc
  unfold words at hc
  rw [List.mem_flatMap] at hc
  obtain ⟨x, hx, hc⟩ := hc
  have := St.word_range (h x hx)
  exact put2_bytes (by unfold isSeq; simp; omega) c hc
theorem Out.right_parts {o : Out} (h : o.right = true) : isSeq o.seq = true ∧ (∀ n ∈ o.vals, is32 n = true) ∧ ∀ x ∈ o.sts, St.right x = true := by
  unfold Out.right at h
  simp only [Bool.and_eq_true, List.all_eq_true] at h
  exact ⟨h.1.1, h.1.2, h.2⟩
theorem Out.body_bytes {o : Out} (hw : o.Wf) (h : o.right = true) : Bytes o.body := by
  obtain ⟨h1, h2, h3⟩ := Out.right_parts h
  unfold Out.body
  refine Bytes.append (Bytes.append (Bytes.append (fun c hc => ?_) (put2_bytes h1)) (putAll_bytes _)) (words_bytes h3)
  have hf := failedOf_le o.sts
  have := hw.2
  simp at hc
  unfold IsByte Out.failed at *
  omega
theorem Out.enc_bytes {o : Out} (hw : o.Wf) (h : o.right = true) : Bytes o.enc := withSum_bytes (Out.body_bytes hw h)
theorem stsOf_words {l : List St} (h : ∀ x ∈ l, St.right x = true) : stsOf (words l) = l := by
  induction l with
  | nil => rfl
  | cons x l ih =>
    have e : words (x :: l) = (x.word / 256) :: (x.word % 256) :: words l := rfl
    rw [e, stsOf, ih (fun y hy => h y (List.mem_cons_of_mem _ hy))]
    unfold stOf
    rw [get2_put2, St.parse_word (h x List.mem_cons_self)]
    rfl
/-- An output's bytes, part by part. -/
theorem Out.enc_form (o : Out) : o.enc = 90 :: o.failed :: (o.seq / 256) :: (o.seq % 256) :: (putAll o.vals ++ (words o.sts ++ [crc 65535 o.body / 256, crc 65535 o.body % 256])) := by
  unfold Out.enc withSum
  have : o.body = 90 :: o.failed :: (o.seq / 256) :: (o.seq % 256) :: (putAll o.vals ++ words o.sts) := by unfold Out.body; simp [put2]
  rw [this]
  simp
theorem outOf_enc {o : Out} (hw : o.Wf) (h : o.right = true) : outOf o.enc = o := by
  obtain ⟨h1, h2, h3⟩ := Out.right_parts h
  have hl : (putAll o.vals).length = 32 := by rw [putAll_length, hw.1]
  have hw2 : (words o.sts).length = 16 := by rw [words_length, hw.2]
  unfold outOf
  rw [Out.enc_form]
  have g2 : ∀ (a b c d : Int) (l : List Int), (a :: b :: c :: d :: l).getD 2 0 = c := fun _ _ _ _ _ => rfl
  have g3 : ∀ (a b c d : Int) (l : List Int), (a :: b :: c :: d :: l).getD 3 0 = d := fun _ _ _ _ _ => rfl
  have d4 : ∀ (a b c d : Int) (l : List Int), (a :: b :: c :: d :: l).drop 4 = l := fun _ _ _ _ _ => rfl
  have d36 : ∀ (a b c d : Int) (l : List Int), (a :: b :: c :: d :: l).drop 36 = l.drop 32 := fun _ _ _ _ _ => rfl
  rw [g2, g3, d4, d36, get2_put2, List.take_left' hl, List.drop_left' hl, List.take_left' hw2, getAll_putAll h2, stsOf_words h3]
/-- There and back. -/
theorem outDec_enc {o : Out} (hw : o.Wf) (h : o.right = true) : outDec o.enc = some o := by
  unfold outDec
  rw [outOf_enc hw h, if_pos ⟨Out.enc_length hw, h, rfl⟩]
theorem outDec_some {b : List Int} {o : Out} (h : outDec b = some o) : o.right = true ∧ o.enc = b ∧ b.length = 54 := by
  unfold outDec at h
  split at h
  · rename_i hc
    injection h with h
    subst h
    exact ⟨hc.2.1, hc.2.2, hc.1⟩
  · cases h
theorem stsOf_length : ∀ (n : Nat) (l : List Int), l.length = 2 * n → (stsOf l).length = n
  | 0, l, h => by obtain rfl : l = [] := List.eq_nil_of_length_eq_zero (by omega); rfl
  | n + 1, a :: b :: l, h => by simp only [stsOf, List.length_cons]; rw [stsOf_length n l (by simp at h; omega)]
  | n + 1, [], h => by simp at h
  | n + 1, [_], h => by simp at h; omega
theorem getAll_length4 : ∀ (n : Nat) (l : List Int), l.length = 4 * n → (getAll l).length = n
  | 0, l, h => by obtain rfl : l = [] := List.eq_nil_of_length_eq_zero (by omega); rfl
  | n + 1, a :: b :: c :: d :: l, h => by simp only [getAll, List.length_cons]; rw [getAll_length4 n l (by simp at h; omega)]
  | n + 1, [], h => by simp at h
  | n + 1, [_], h => by simp at h; omega
  | n + 1, [_, _], h => by simp at h; omega
  | n + 1, [_, _, _], h => by simp at h; omega
theorem outOf_wf {b : List Int} (h : b.length = 54) : (outOf b).Wf :=
  ⟨getAll_length4 8 _ (by rw [List.length_take, List.length_drop]; omega), stsOf_length 8 _ (by rw [List.length_take, List.length_drop]; omega)⟩

/-- Bytes with their sum; one of them changed: these have another. -/
theorem withSum_tells {d e : List Int} (hd : Bytes d) (he : Bytes e) (hl : d.length = e.length) {k : Nat} {x : Int} (hk : k < d.length + 2) (hs : withSum e = (withSum d).set k x) : (withSum d)[k]? = some x := by
  by_cases hlt : k < d.length
  · have h1 : (withSum d).set k x = d.set k x ++ [crc 65535 d / 256, crc 65535 d % 256] := by
      unfold withSum; rw [List.set_append, if_pos hlt]
    rw [h1] at hs
    unfold withSum at hs
    have hp := List.append_inj hs (by rw [List.length_set]; exact hl.symm)
    obtain ⟨he1, he2⟩ := hp
    have hc : crc 65535 e = crc 65535 d := by
      simp only [List.cons.injEq, and_true] at he2
      omega
    have hdx : d = d.take k ++ d[k] :: d.drop (k + 1) := by rw [List.getElem_cons_drop, List.take_append_drop]
    have hex : e = d.take k ++ x :: d.drop (k + 1) := by rw [he1, List.set_eq_take_append_cons_drop, if_pos hlt]
    have hxb : IsByte x := he x (by rw [hex]; simp)
    have hdb : IsByte d[k] := hd _ (List.getElem_mem hlt)
    have := crc_tells (a := d.take k) (b := d.drop (k + 1)) (c := x) (d := d[k]) (s := 65535) (fun y hy => hd y (List.mem_of_mem_take hy)) (fun y hy => hd y (List.mem_of_mem_drop hy)) hxb hdb
      (by unfold Is16; omega) (by rw [← hex, ← hdx]; exact hc)
    unfold withSum
    rw [List.getElem?_append_left hlt, List.getElem?_eq_getElem hlt, this]
  · have h1 : (withSum d).set k x = d ++ ([crc 65535 d / 256, crc 65535 d % 256].set (k - d.length) x) := by
      unfold withSum; rw [List.set_append, if_neg hlt]
    rw [h1] at hs
    have hp := List.append_inj (show e ++ _ = d ++ _ from hs) hl.symm
    obtain ⟨he1, he2⟩ := hp
    subst he1
    unfold withSum
    rw [List.getElem?_append_right (by omega)]
    have hkk : k - e.length < 2 := by omega
    generalize k - e.length = j at he2 hkk ⊢
    match j, hkk with
    | 0, _ => simp only [List.set_cons_zero, List.cons.injEq, and_true] at he2; simp [he2]
    | 1, _ => simp only [List.set_cons_succ, List.set_cons_zero, List.cons.injEq, and_true, true_and] at he2; simp [he2]
/-- An output's bytes with one byte changed are none's. -/
theorem outDec_changed {o : Out} (hw : o.Wf) (h : o.right = true) {k : Nat} {x : Int} (hk : k < 54) (hx : o.enc[k]? ≠ some x) : outDec (o.enc.set k x) = none := by
  cases hd : outDec (o.enc.set k x) with
  | none => rfl
  | some p =>
    exfalso
    obtain ⟨h1, h2, h3⟩ := outDec_some hd
    have hwp : p.Wf := by
      unfold outDec at hd
      split at hd
      · rename_i hc
        injection hd with hd
        rw [← hd]
        exact outOf_wf hc.1
      · cases hd
    refine hx ?_
    exact withSum_tells (d := o.body) (e := p.body) (Out.body_bytes hw h) (Out.body_bytes hwp h1) (by rw [Out.body_length hw, Out.body_length hwp]) (by rw [Out.body_length hw]; exact hk) h2
end Sp
end Go.Proofs.Ytgdlombjhbfbiaa
