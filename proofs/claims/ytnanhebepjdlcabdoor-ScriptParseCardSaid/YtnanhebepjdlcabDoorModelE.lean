/- The reference's Parse in plain Lean: numbers, words, lines, commands step by step. No program in sight. -/
import Derived.Test.YtnanhebepjdlcabDoorModelD
namespace ScrM
open Go.Lib

/-! ### Numbers -/

/-- What the reference's number answers. -/
def numI (most : Nat) (w : List UInt8) : Int := match num most w with
  | some v => (v : Int)
  | none => -1

theorem numI_canon {most : Nat} {w : List UInt8} (h : canon w = false) : numI most w = -1 := by
  unfold numI num
  rw [h]
  simp

theorem numI_len {most : Nat} {w : List UInt8} (h : w.length < 1 ∨ 5 < w.length) : numI most w = -1 := by
  refine numI_canon ?_
  unfold canon
  rcases h with h | h
  · rw [decide_eq_false (by omega)]; simp
  · rw [show decide (w.length ≤ 5) = false from decide_eq_false (by omega)]; simp

theorem numI_zero {most : Nat} {w : List UInt8} (h0 : w.head? = some 48) (h1 : 1 < w.length) : numI most w = -1 := by
  refine numI_canon ?_
  unfold canon
  rw [h0, decide_eq_true h1]
  simp

theorem numI_digit {most : Nat} {w : List UInt8} {c : UInt8} (h : c ∈ w) (hc : isDigit c = false) : numI most w = -1 := by
  refine numI_canon ?_
  unfold canon
  rw [show w.all isDigit = false from List.all_eq_false.2 ⟨c, h, by rw [hc]; simp⟩]
  simp

theorem numI_val {most : Nat} {w : List UInt8} (h1 : 1 ≤ w.length) (h5 : w.length ≤ 5) (hz : w.head? ≠ some 48 ∨ w.length ≤ 1) (hd : ∀ c ∈ w, isDigit c = true) : numI most w = if numVal w ≤ most then (numVal w : Int) else -1 := by
  have hc : canon w = true := by
    unfold canon
    rw [decide_eq_true h1, decide_eq_true h5, List.all_eq_true.2 hd]
    rcases hz with hz | hz
    · simp [hz]
    · simp; omega
  unfold numI num
  rw [hc]
  by_cases h : numVal w ≤ most
  · simp [h]
  · simp [h]

theorem numI_none {most : Nat} {w : List UInt8} (h : num most w = none) : numI most w = -1 := by rw [numI, h]
theorem numI_some {most v : Nat} {w : List UInt8} (h : num most w = some v) : numI most w = (v : Int) := by rw [numI, h]
theorem numI_neg {most : Nat} {w : List UInt8} (h : numI most w < 0) : num most w = none := by
  unfold numI at h
  cases hn : num most w with
  | none => rfl
  | some v => rw [hn] at h; simp at h; omega
theorem numI_pos {most : Nat} {w : List UInt8} (h : 0 ≤ numI most w) : num most w = some (numI most w).toNat := by
  unfold numI at h ⊢
  cases hn : num most w with
  | none => rw [hn] at h; simp at h
  | some v => simp

/-! ### Words and lines -/

theorem wordsA_sep {c : UInt8} (h : isSep c = true) (cur l : List UInt8) : wordsA cur (c :: l) = if cur.isEmpty then wordsA [] l else cur :: wordsA [] l := by
  rw [wordsA, if_pos h]

theorem wordsA_more {c : UInt8} (h : isSep c = false) (cur l : List UInt8) : wordsA cur (c :: l) = wordsA (cur ++ [c]) l := by
  rw [wordsA, if_neg (by rw [h]; simp)]

/-- The words behind the bytes cur of a word begun, from place k on; past the end: none. -/
def wordsAt (s : List UInt8) (k : Nat) (cur : List UInt8) : List (List UInt8) := if k ≤ s.length then wordsA cur (s.drop k) else []

theorem wordsAt_start (s : List UInt8) : wordsAt s 0 [] = words s := by
  unfold wordsAt
  rw [if_pos (by omega)]
  rfl

theorem wordsAt_past {s cur : List UInt8} {k : Nat} (h : s.length < k) : wordsAt s k cur = [] := by
  unfold wordsAt
  rw [if_neg (by omega)]

theorem wordsAt_sep {s : List UInt8} {k : Nat} {c : UInt8} (h : s[k]? = some c) (hc : isSep c = true) (cur : List UInt8) : wordsAt s k cur = (if cur.isEmpty then [] else [cur]) ++ wordsAt s (k + 1) [] := by
  obtain ⟨hk, e⟩ := List.getElem?_eq_some_iff.1 h
  unfold wordsAt
  rw [if_pos (show k ≤ s.length by omega), if_pos (show k + 1 ≤ s.length by omega), List.drop_eq_getElem_cons hk, e, wordsA_sep hc]
  split <;> simp

theorem wordsAt_more {s : List UInt8} {k : Nat} {c : UInt8} (h : s[k]? = some c) (hc : isSep c = false) (cur : List UInt8) : wordsAt s k cur = wordsAt s (k + 1) (cur ++ [c]) := by
  obtain ⟨hk, e⟩ := List.getElem?_eq_some_iff.1 h
  unfold wordsAt
  rw [if_pos (show k ≤ s.length by omega), if_pos (show k + 1 ≤ s.length by omega), List.drop_eq_getElem_cons hk, e, wordsA_more hc]

theorem wordsAt_end (s cur : List UInt8) : wordsAt s s.length cur = (if cur.isEmpty then [] else [cur]) ++ wordsAt s (s.length + 1) [] := by
  unfold wordsAt
  rw [if_pos (Nat.le_refl s.length), if_neg (show ¬ s.length + 1 ≤ s.length by omega), List.drop_length, wordsA, List.append_nil]

/-- The lines behind the bytes cur of a line begun, from place k on; past the end: none. -/
def linesAt (s : List UInt8) (k : Nat) (cur : List UInt8) : List (List UInt8) := if k ≤ s.length then lines (cur ++ s.drop k) else []

theorem linesAt_nl {s : List UInt8} {k : Nat} {cur : List UInt8} (h : s[k]? = some 10) (hc : ∀ c ∈ cur, c ≠ 10) : linesAt s k cur = cur :: linesAt s (k + 1) [] := by
  obtain ⟨hk, e⟩ := List.getElem?_eq_some_iff.1 h
  unfold linesAt
  rw [if_pos (by omega), if_pos (by omega), List.drop_eq_getElem_cons hk, e, lines_join, lines_one cur hc, List.nil_append]
  rfl

theorem linesAt_more {s : List UInt8} {k : Nat} {cur : List UInt8} {c : UInt8} (h : s[k]? = some c) : linesAt s k cur = linesAt s (k + 1) (cur ++ [c]) := by
  obtain ⟨hk, e⟩ := List.getElem?_eq_some_iff.1 h
  unfold linesAt
  rw [if_pos (by omega), if_pos (by omega), List.drop_eq_getElem_cons hk, e]
  simp

theorem linesAt_end {s cur : List UInt8} (hc : ∀ c ∈ cur, c ≠ 10) : linesAt s s.length cur = [cur] := by
  unfold linesAt
  rw [if_pos (Nat.le_refl _), List.drop_length, List.append_nil, lines_one cur hc]

theorem linesAt_past {s cur : List UInt8} {k : Nat} (h : s.length < k) : linesAt s k cur = [] := by
  unfold linesAt
  rw [if_neg (by omega)]

theorem linesAt_start (s : List UInt8) : linesAt s 0 [] = lines s := by
  unfold linesAt
  rw [if_pos (by omega)]
  rfl

/-! ### Commands -/

theorem nums_bad : ∀ {k n : Nat} {r : List (List UInt8)} {y : List UInt8}, k < n → r[k]? = some y → num 65535 y = none → nums n r = none
  | k, 0, r, y, h, _, _ => by omega
  | k, n + 1, [], y, _, _, _ => rfl
  | 0, n + 1, x :: r, y, _, h1, h2 => by
    have e : x = y := by simpa using h1
    rw [nums, e, h2]
  | k + 1, n + 1, x :: r, y, h, h1, h2 => by
    rw [nums, nums_bad (k := k) (n := n) (r := r) (by omega) (by simpa using h1) h2]
    cases num 65535 x <;> rfl

theorem nums_few {n : Nat} {r : List (List UInt8)} (h : r.length < n) : nums n r = none := by
  cases hn : nums n r with
  | none => rfl
  | some al => have := (nums_some n r al hn).2.2.2; omega

theorem nums_next {k : Nat} {r : List (List UInt8)} {al : List Int} {y : List UInt8} (h : nums k r = some al) (hy : r[k]? = some y) (hn : 0 ≤ numI 65535 y) : nums (k + 1) r = some (al ++ [numI 65535 y]) := by
  obtain ⟨hk, e⟩ := List.getElem?_eq_some_iff.1 hy
  rw [nums_snoc, h, List.drop_eq_getElem_cons hk, e]
  show (match some al, num 65535 y with | some l, some n => some (l ++ [(n : Int)]) | _, _ => none) = _
  rw [numI_pos hn]
  simp only
  rw [Int.toNat_of_nonneg hn]

/-- Where the reference's command stands behind the cut: the words u that are left. -/
def StageR (x : List UInt8) (r : List (List UInt8)) (al : List Int) (cut bytes : Int) (u : List (List UInt8)) : Prop :=
  command (x :: r) = match noiseOf u with
    | some n => some ⟨(opOf x : Int), al, cut, bytes, n⟩
    | none => none

theorem arity_known {x : List UInt8} (h : opOf x ≠ 0) : arity (opOf x : Int) = (arityOf x : Int) := by
  have h20 := opOf_le x
  unfold arity arityOf
  rw [if_neg h, if_pos (show (1 : Int) ≤ (opOf x : Int) ∧ (opOf x : Int) ≤ 20 by omega)]
  rfl

theorem command_unknown {x : List UInt8} {r : List (List UInt8)} (h : opOf x = 0) : command (x :: r) = none := by rw [command_eq, if_pos h]

theorem command_nums {x : List UInt8} {r : List (List UInt8)} (h : nums (arityOf x) r = none) : command (x :: r) = none := by
  rw [command_eq, h]
  split <;> rfl

theorem stageR_no {x : List UInt8} {r : List (List UInt8)} {al : List Int} (h0 : opOf x ≠ 0) (h1 : nums (arityOf x) r = some al) (h : (r.drop (arityOf x)).length < 3 ∨ (r.drop (arityOf x)).head? ≠ some wCut) : StageR x r al (-1) 0 (r.drop (arityOf x)) := by
  unfold StageR
  rw [command_eq, if_neg h0, h1]
  generalize r.drop (arityOf x) = t at h
  by_cases hh : t.head? = some wCut
  · have h3 : t.length < 3 := by
      rcases h with h | h
      · exact h
      · exact absurd hh h
    have hne : wCut ≠ wNoise := by decide
    cases t with
    | nil => simp at hh
    | cons a t =>
      have e : a = wCut := by simpa using hh
      subst e
      cases t with
      | nil => rfl
      | cons b t =>
        cases t with
        | nil => simp [cutOf, noiseOf, hne]
        | cons c t => simp at h3; omega
  · rw [cutOf_no hh]
    simp only
    cases noiseOf t <;> rfl

theorem stageR_bad {x : List UInt8} {r : List (List UInt8)} {al : List Int} {a b : List UInt8} {t : List (List UInt8)} (h0 : opOf x ≠ 0) (h1 : nums (arityOf x) r = some al) (h : r.drop (arityOf x) = wCut :: a :: b :: t) (hn : numI 65535 a < 0 ∨ numI 256 b < 0) : command (x :: r) = none := by
  rw [command_eq, if_neg h0, h1, h]
  simp only [cutOf, if_true]
  rcases hn with hn | hn
  · rw [numI_neg hn]
  · rw [numI_neg hn]
    cases num 65535 a <;> rfl

theorem stageR_yes {x : List UInt8} {r : List (List UInt8)} {al : List Int} {a b : List UInt8} {t : List (List UInt8)} (h0 : opOf x ≠ 0) (h1 : nums (arityOf x) r = some al) (h : r.drop (arityOf x) = wCut :: a :: b :: t) (ha : 0 ≤ numI 65535 a) (hb : 0 ≤ numI 256 b) : StageR x r al (numI 65535 a) (numI 256 b) t := by
  unfold StageR
  rw [command_eq, if_neg h0, h1, h]
  simp only [cutOf, if_true]
  rw [numI_pos ha, numI_pos hb]
  simp only
  rw [Int.toNat_of_nonneg ha, Int.toNat_of_nonneg hb]
  cases noiseOf t <;> rfl

theorem finR_no {x : List UInt8} {r u : List (List UInt8)} {al : List Int} {cut bytes : Int} (h : StageR x r al cut bytes u) (hh : u.length < 2 ∨ u.head? ≠ some wNoise) : command (x :: r) = if u.length = 0 then some ⟨(opOf x : Int), al, cut, bytes, 0⟩ else none := by
  rw [h]
  cases u with
  | nil => rfl
  | cons a t =>
    cases t with
    | nil => simp [noiseOf]
    | cons b t =>
      have hn : (a :: b :: t).head? ≠ some wNoise := by
        rcases hh with hh | hh
        · simp at hh; omega
        · exact hh
      rw [noiseOf_no hn]
      simp

theorem finR_bad {x a : List UInt8} {r t : List (List UInt8)} {al : List Int} {cut bytes : Int} (h : StageR x r al cut bytes (wNoise :: a :: t)) (hn : numI 65535 a ≤ 0) : command (x :: r) = none := by
  rw [h, noiseOf_yes]
  simp only [hd]
  cases hv : num 65535 a with
  | none => rfl
  | some v =>
    rw [numI_some hv] at hn
    simp only
    rw [if_neg (by omega)]

theorem finR_yes {x a : List UInt8} {r t : List (List UInt8)} {al : List Int} {cut bytes : Int} (h : StageR x r al cut bytes (wNoise :: a :: t)) (hn : 0 < numI 65535 a) : command (x :: r) = if t.length = 0 then some ⟨(opOf x : Int), al, cut, bytes, numI 65535 a⟩ else none := by
  have hp := numI_pos (show 0 ≤ numI 65535 a by omega)
  have hq := Int.toNat_of_nonneg (show 0 ≤ numI 65535 a by omega)
  have h1 : 1 ≤ (numI 65535 a).toNat := by omega
  generalize numI 65535 a = v at hp hq h1 ⊢
  rw [h, noiseOf_yes, hd, hp]
  cases t with
  | nil =>
    simp only [List.tail_cons, h1, and_self, if_true, List.length_nil, hq]
  | cons b t => simp

end ScrM
