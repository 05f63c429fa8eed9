/- The plain model of layer 12 on lists of bytes: the scanner, the joined spellings. No program in sight. -/
namespace LexM

def isLetter (c : UInt8) : Bool := (97 ≤ c.toNat && c.toNat ≤ 122) || (65 ≤ c.toNat && c.toNat ≤ 90)
def isDigit (c : UInt8) : Bool := 48 ≤ c.toNat && c.toNat ≤ 57
def isWithin (c : UInt8) : Bool := isLetter c || isDigit c || c.toNat == 95
def isBlank (c : UInt8) : Bool := c.toNat == 32 || c.toNat == 9 || c.toNat == 10

structure Tk where
  kind : Int
  text : List UInt8
  n : Int
  pos : Nat

/-- The value of a digit sequence. -/
def numVal (w : List UInt8) : Nat := w.foldl (fun n c => 10 * n + (c.toNat - 48)) 0

/-- The length of the longest prefix of which every byte satisfies p. -/
def span (p : UInt8 → Bool) : List UInt8 → Nat
  | [] => 0
  | c :: s => if p c then span p s + 1 else 0

def headIs (p : UInt8 → Bool) : List UInt8 → Bool
  | [] => false
  | c :: _ => p c

/-- A well formed number: w its digits, r what follows. -/
def numOk (w r : List UInt8) : Bool :=
  decide (w.length ≤ 5) && !(headIs (fun c => c.toNat == 48) w && decide (1 < w.length)) && decide (numVal w < 65536) && !headIs isWithin r

def one (c : UInt8) : Bool :=
  c.toNat == 123 || c.toNat == 125 || c.toNat == 40 || c.toNat == 41 || c.toNat == 59 || c.toNat == 61 || c.toNat == 43 || c.toNat == 45 || c.toNat == 42 || c.toNat == 60 || c.toNat == 33

def two (c d : UInt8) : Bool :=
  (c.toNat == 61 && d.toNat == 61) || (c.toNat == 38 && d.toNat == 38) || (c.toNat == 124 && d.toNat == 124) || (c.toNat == 62 && d.toNat == 61)

/-- The length of the operator at the start, 0 if there is none. -/
def sign : List UInt8 → Nat
  | [] => 0
  | c :: s => match s with
    | [] => if one c then 1 else 0
    | d :: _ => if two c d then 2 else if one c then 1 else 0

/-- The token at the start of a text that does not start with white space: its length, kind, value. -/
def tokAt (s : List UInt8) : Option (Nat × Int × Int) :=
  if headIs isLetter s then
    (if span isWithin s ≤ 12 then some (span isWithin s, 1, 0) else none)
  else if headIs isDigit s then
    (if numOk (s.take (span isDigit s)) (s.drop (span isDigit s)) then some (span isDigit s, 2, (numVal (s.take (span isDigit s)) : Int)) else none)
  else if sign s = 0 then none else some (sign s, 3, 0)

def skip (s : List UInt8) : List UInt8 := s.drop (span isBlank s)

/-- The tokens of s, which lies at offset pos. -/
def scan : Nat → Nat → List UInt8 → Option (List Tk)
  | 0, _, _ => some []
  | f + 1, pos, s =>
    if skip s = [] then some []
    else match tokAt (skip s) with
      | none => none
      | some (k, kd, n) =>
        match scan f (pos + span isBlank s + k) ((skip s).drop k) with
        | none => none
        | some l => some ({ kind := kd, text := (skip s).take k, n := n, pos := pos + span isBlank s } :: l)

def lex (s : List UInt8) : Option (List Tk) := scan (s.length + 1) 0 s

/-- What Tokens returns: the tokens and the error. -/
def tokens (s : List UInt8) : List Tk × Int :=
  if 1500 < s.length then ([], 2) else match lex s with
    | some l => (l, 0)
    | none => ([], 3)

def joinSp : List (List UInt8) → List UInt8
  | [] => []
  | [w] => w
  | w :: r => w ++ 32 :: joinSp r

def showT (l : List Tk) : List UInt8 := joinSp (l.map (·.text))

/-! Facts on span -/

theorem span_le (p : UInt8 → Bool) : ∀ s : List UInt8, span p s ≤ s.length
  | [] => Nat.le_refl 0
  | c :: s => by
    have := span_le p s
    unfold span
    split <;> simp <;> omega

theorem tokAt_pos {s : List UInt8} {k : Nat} {kd n : Int} (h : tokAt s = some (k, kd, n)) : 0 < k ∧ k ≤ s.length := by
  unfold tokAt at h
  split at h
  · rename_i hl
    split at h <;> simp at h
    obtain ⟨rfl, -, -⟩ := h
    refine ⟨?_, span_le _ _⟩
    cases s with
    | nil => simp [headIs] at hl
    | cons c s =>
      simp only [headIs] at hl
      simp [span, isWithin, hl]
  · split at h
    · rename_i hl
      split at h <;> simp at h
      obtain ⟨rfl, -, -⟩ := h
      refine ⟨?_, span_le _ _⟩
      cases s with
      | nil => simp [headIs] at hl
      | cons c s =>
        simp only [headIs] at hl
        simp [span, hl]
    · split at h <;> simp at h
      obtain ⟨rfl, -, -⟩ := h
      rename_i h0
      refine ⟨Nat.pos_of_ne_zero h0, ?_⟩
      cases s with
      | nil => simp [sign]
      | cons c s =>
        cases s with
        | nil => simp only [sign]; split <;> simp
        | cons d s => simp only [sign]; split <;> (try split) <;> simp

theorem skip_length (s : List UInt8) : (skip s).length = s.length - span isBlank s := by simp [skip]

/-- More fuel than the text is long changes nothing. -/
theorem scan_fuel : ∀ (f g pos : Nat) (s : List UInt8), s.length < f → s.length < g → scan f pos s = scan g pos s := by
  intro f
  induction f with
  | zero => intro g pos s h; omega
  | succ f ih =>
    intro g pos s hf hg
    cases g with
    | zero => omega
    | succ g =>
      simp only [scan]
      split
      · rfl
      · cases h : tokAt (skip s) with
        | none => rfl
        | some x =>
          obtain ⟨k, kd, n⟩ := x
          obtain ⟨h0, h1⟩ := tokAt_pos h
          have := skip_length s
          simp only
          rw [ih g _ _ (by simp; omega) (by simp; omega)]

end LexM
