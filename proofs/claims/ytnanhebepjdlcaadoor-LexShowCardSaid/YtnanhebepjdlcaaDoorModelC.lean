/- The scanner's loop: what holds of the tokens collected so far; the operators in the order in which they are tried. No program in sight. -/
import Derived.Test.YtnanhebepjdlcaaDoorModelB
import Derived.Lib.Strings
namespace LexM

def atOf (l : List Tk) : Nat := match l.getLast? with
  | none => 0
  | some t => t.pos + t.text.length

theorem atOf_snoc (l : List Tk) (t : Tk) : atOf (l ++ [t]) = t.pos + t.text.length := by simp [atOf]

/-- The tokens L are those of the text's start; what is left decides. -/
structure Inv (l : List UInt8) (L : List Tk) : Prop where
  rest : both (some L) (scan (l.length + 1) (atOf L) (l.drop (atOf L))) = lex l
  le : atOf L ≤ l.length
  cnt : L.length ≤ atOf L
  bd : ∀ t ∈ L, t.pos ≤ l.length ∧ t.text.length ≤ l.length

theorem both_nil (x : Option (List Tk)) : both (some []) x = x := by
  cases x <;> rfl

theorem Inv.start (l : List UInt8) : Inv l [] :=
  ⟨by rw [both_nil]; rfl, Nat.zero_le _, Nat.le_refl _, fun t h => by simp at h⟩

theorem Inv.done {l : List UInt8} {L : List Tk} (h : Inv l L) (hs : skip (l.drop (atOf L)) = []) : lex l = some L := by
  rw [← h.rest]
  simp [scan, hs, both]

theorem Inv.fail {l : List UInt8} {L : List Tk} (h : Inv l L) (hs : skip (l.drop (atOf L)) ≠ []) (ht : tokAt (skip (l.drop (atOf L))) = none) : lex l = none := by
  rw [← h.rest]
  simp [scan, hs, ht, both]

theorem Inv.step {l : List UInt8} {L : List Tk} (h : Inv l L) (hs : skip (l.drop (atOf L)) ≠ []) {k : Nat} {kd n : Int} (ht : tokAt (skip (l.drop (atOf L))) = some (k, kd, n)) :
    Inv l (L ++ [{ kind := kd, text := (skip (l.drop (atOf L))).take k, n := n, pos := l.length - (skip (l.drop (atOf L))).length }]) := by
  obtain ⟨h0, h1⟩ := tokAt_pos ht
  have hle := h.le
  have hcnt := h.cnt
  have hsl := skip_length (l.drop (atOf L))
  have hsp := span_le isBlank (l.drop (atOf L))
  rw [List.length_drop] at hsl hsp
  have hpos : l.length - (skip (l.drop (atOf L))).length = atOf L + span isBlank (l.drop (atOf L)) := by omega
  have hlen : ((skip (l.drop (atOf L))).take k).length = k := by rw [List.length_take]; omega
  refine ⟨?_, ?_, ?_, ?_⟩
  · rw [atOf_snoc, ← h.rest]
    simp only [hlen, hpos]
    rw [show scan (l.length + 1) (atOf L) (l.drop (atOf L)) = _ from by rw [scan, if_neg hs, ht]]
    simp only
    rw [scan_fuel (l.length + 1) l.length _ _ (by simp; omega) (by simp; omega)]
    rw [show (skip (l.drop (atOf L))).drop k = l.drop (atOf L + span isBlank (l.drop (atOf L)) + k) by
      simp only [skip, List.drop_drop]]
    cases scan l.length (atOf L + span isBlank (l.drop (atOf L)) + k) (l.drop (atOf L + span isBlank (l.drop (atOf L)) + k)) with
    | none => rfl
    | some m => simp [both]
  · rw [atOf_snoc]
    simp only [hlen, hpos]
    omega
  · rw [atOf_snoc]
    simp only [hlen, hpos, List.length_append, List.length_singleton]
    omega
  · intro t hm
    rcases List.mem_append.1 hm with hm | hm
    · exact h.bd t hm
    · simp only [List.mem_singleton] at hm
      subst hm
      simp only [hlen]
      omega

/-! ### The operators -/

def opAt : Nat → List UInt8
  | 0 => [61, 61]
  | 1 => [38, 38]
  | 2 => [124, 124]
  | 3 => [62, 61]
  | 4 => [123]
  | 5 => [125]
  | 6 => [40]
  | 7 => [41]
  | 8 => [59]
  | 9 => [61]
  | 10 => [43]
  | 11 => [45]
  | 12 => [42]
  | 13 => [60]
  | 14 => [33]
  | _ => []

theorem beq_toNat (c x : UInt8) : (x == c) = (c.toNat == x.toNat) := by
  rw [Bool.eq_iff_iff, beq_iff_eq, beq_iff_eq, ← UInt8.toNat_inj]
  exact eq_comm
theorem pre_one (c x : UInt8) (s : List UInt8) : Go.Lib.hasPrefix (c :: s) [x] = (c.toNat == x.toNat) := by
  show (x == c && ([] : List UInt8).isPrefixOf s) = _
  rw [beq_toNat]
  simp
theorem pre_two (c d x y : UInt8) (s : List UInt8) : Go.Lib.hasPrefix (c :: d :: s) [x, y] = (c.toNat == x.toNat && d.toNat == y.toNat) := by
  show (x == c && (y == d && ([] : List UInt8).isPrefixOf s)) = _
  rw [beq_toNat, beq_toNat]
  simp
theorem pre_two_short (c x y : UInt8) : Go.Lib.hasPrefix [c] [x, y] = false := by simp [Go.Lib.hasPrefix, List.isPrefixOf]
theorem pre_nil (x : UInt8) (s : List UInt8) : Go.Lib.hasPrefix [] (x :: s) = false := by simp [Go.Lib.hasPrefix, List.isPrefixOf]

theorem no_two {c d : UInt8} {s : List UInt8} (h : ∀ j, j < 4 → Go.Lib.hasPrefix (c :: d :: s) (opAt j) = false) : two c d = false := by
  have h0 := h 0 (by omega); have h1 := h 1 (by omega); have h2 := h 2 (by omega); have h3 := h 3 (by omega)
  simp only [opAt, pre_two] at h0 h1 h2 h3
  simp only [two]
  rw [show (c.toNat == 61 && d.toNat == 61) = false from h0, show (c.toNat == 38 && d.toNat == 38) = false from h1, show (c.toNat == 124 && d.toNat == 124) = false from h2,
    show (c.toNat == 62 && d.toNat == 61) = false from h3]
  rfl

theorem no_one {c : UInt8} {s : List UInt8} (h : ∀ j, j < 15 → Go.Lib.hasPrefix (c :: s) (opAt j) = false) : one c = false := by
  have a4 := h 4 (by omega); have a5 := h 5 (by omega); have a6 := h 6 (by omega); have a7 := h 7 (by omega); have a8 := h 8 (by omega); have a9 := h 9 (by omega)
  have a10 := h 10 (by omega); have a11 := h 11 (by omega); have a12 := h 12 (by omega); have a13 := h 13 (by omega); have a14 := h 14 (by omega)
  simp only [opAt, pre_one] at a4 a5 a6 a7 a8 a9 a10 a11 a12 a13 a14
  simp only [one]
  rw [show (c.toNat == 123) = false from a4, show (c.toNat == 125) = false from a5, show (c.toNat == 40) = false from a6, show (c.toNat == 41) = false from a7, show (c.toNat == 59) = false from a8,
    show (c.toNat == 61) = false from a9, show (c.toNat == 43) = false from a10, show (c.toNat == 45) = false from a11, show (c.toNat == 42) = false from a12, show (c.toNat == 60) = false from a13,
    show (c.toNat == 33) = false from a14]
  rfl

theorem sign_none {s : List UInt8} (h : ∀ j, j < 15 → Go.Lib.hasPrefix s (opAt j) = false) : sign s = 0 := by
  match s with
  | [] => rfl
  | [c] =>
    simp only [sign, no_one h]
    rfl
  | c :: d :: s =>
    simp only [sign, no_one h, no_two fun j hj => h j (by omega)]
    rfl

theorem sign_two {c d : UInt8} {s : List UInt8} (h : two c d = true) : sign (c :: d :: s) = 2 := by simp [sign, h]

theorem sign_one {c : UInt8} {s : List UInt8} (h : one c = true) (hno : ∀ j, j < 4 → Go.Lib.hasPrefix (c :: s) (opAt j) = false) : sign (c :: s) = 1 := by
  match s with
  | [] => simp [sign, h]
  | d :: s => simp [sign, h, no_two hno]

theorem sign_first {s : List UInt8} {i : Nat} (hi : i < 15) (hno : ∀ j, j < i → Go.Lib.hasPrefix s (opAt j) = false) (hy : Go.Lib.hasPrefix s (opAt i) = true) :
    sign s = (opAt i).length ∧ s.take (opAt i).length = opAt i := by
  have htake : s.take (opAt i).length = opAt i := by
    have h1 : opAt i <+: s := by simpa [Go.Lib.hasPrefix] using hy
    exact (List.prefix_iff_eq_take.1 h1).symm
  refine ⟨?_, htake⟩
  have hlow : i < 4 → ∃ x y, opAt i = [x, y] ∧ two x y = true := fun h => by
    match i, h with
    | 0, _ => exact ⟨61, 61, rfl, by decide⟩
    | 1, _ => exact ⟨38, 38, rfl, by decide⟩
    | 2, _ => exact ⟨124, 124, rfl, by decide⟩
    | 3, _ => exact ⟨62, 61, rfl, by decide⟩
  have hhigh : ¬ i < 4 → ∃ x, opAt i = [x] ∧ one x = true := fun h => by
    match i, hi, h with
    | 0, _, h => omega
    | 1, _, h => omega
    | 2, _, h => omega
    | 3, _, h => omega
    | 4, _, _ => exact ⟨123, rfl, by decide⟩
    | 5, _, _ => exact ⟨125, rfl, by decide⟩
    | 6, _, _ => exact ⟨40, rfl, by decide⟩
    | 7, _, _ => exact ⟨41, rfl, by decide⟩
    | 8, _, _ => exact ⟨59, rfl, by decide⟩
    | 9, _, _ => exact ⟨61, rfl, by decide⟩
    | 10, _, _ => exact ⟨43, rfl, by decide⟩
    | 11, _, _ => exact ⟨45, rfl, by decide⟩
    | 12, _, _ => exact ⟨42, rfl, by decide⟩
    | 13, _, _ => exact ⟨60, rfl, by decide⟩
    | 14, _, _ => exact ⟨33, rfl, by decide⟩
  by_cases h4 : i < 4
  · obtain ⟨x, y, he, h2⟩ := hlow h4
    rw [he] at htake ⊢
    match s, htake with
    | [], ht => simp at ht
    | [c], ht => simp at ht
    | c :: d :: s, ht =>
      simp at ht
      obtain ⟨rfl, rfl⟩ := ht
      rw [sign_two h2]
      rfl
  · obtain ⟨x, he, h1⟩ := hhigh h4
    rw [he] at htake ⊢
    match s, htake, hno with
    | [], ht, _ => simp at ht
    | c :: s, ht, hno =>
      simp at ht
      subst ht
      rw [sign_one h1 fun j hj => hno j (by omega)]
      rfl

theorem opAt_le (i : Nat) : (opAt i).length ≤ 2 := by
  unfold opAt
  split <;> simp

theorem tok_letter {s : List UInt8} (h : headIs isLetter s = true) : tokAt s = if span isWithin s ≤ 12 then some (span isWithin s, 1, 0) else none := by
  unfold tokAt
  rw [if_pos h]
theorem tok_digit {s : List UInt8} (h : headIs isLetter s = false) (hd : headIs isDigit s = true) :
    tokAt s = if numOk (s.take (span isDigit s)) (s.drop (span isDigit s)) then some (span isDigit s, 2, (numVal (s.take (span isDigit s)) : Int)) else none := by
  unfold tokAt
  rw [if_neg (by simp [h]), if_pos hd]
theorem tok_sign {s : List UInt8} (h : headIs isLetter s = false) (hd : headIs isDigit s = false) : tokAt s = if sign s = 0 then none else some (sign s, 3, 0) := by
  unfold tokAt
  rw [if_neg (by simp [h]), if_neg (by simp [hd])]

end LexM
