/- Simulation scripts in plain Lean: what Parse, Text, Valid answer. No program in sight. -/
import Derived.Lib.ItoaNum
namespace ScrM
open Go.Lib

def isDigit (c : UInt8) : Bool := 48 ≤ c.toNat && c.toNat ≤ 57
def isSep (c : UInt8) : Bool := c == 32 || c == 9
def numVal (w : List UInt8) : Nat := w.foldl (fun n c => 10 * n + (c.toNat - 48)) 0

/-- The lines of a text. -/
def lines : List UInt8 → List (List UInt8)
  | [] => [[]]
  | c :: l => if c = 10 then [] :: lines l else match lines l with
    | [] => [[c]]
    | x :: r => (c :: x) :: r

/-- The words of a line, behind the bytes cur of a word begun. -/
def wordsA : List UInt8 → List UInt8 → List (List UInt8)
  | cur, [] => if cur.isEmpty then [] else [cur]
  | cur, c :: l => if isSep c then (if cur.isEmpty then wordsA [] l else cur :: wordsA [] l) else wordsA (cur ++ [c]) l

def words (l : List UInt8) : List (List UInt8) := wordsA [] l

/-- The operations' names. -/
def names : List (List UInt8) :=
  [[], [98, 111, 111, 116], [115, 116, 114, 97, 112], [109, 97, 105, 108], [103, 108, 105, 116, 99, 104], [115, 116, 97, 103, 101], [99, 111, 110, 102, 105, 114, 109], [114, 111, 116, 97, 116, 101], [115, 101, 97, 108],
    [119, 105, 100, 101, 110], [110, 97, 114, 114, 111, 119], [111, 112, 101, 110], [113, 117, 111, 116, 101], [115, 110, 97, 112], [114, 101, 112, 108, 97, 121], [103, 111, 115, 115, 105, 112], [116, 101, 108, 108], [111, 117, 116],
    [109, 101, 115, 115, 97, 103, 101], [99, 97, 108, 108], [106, 117, 100, 103, 101]]

def arities : List Nat := [0, 1, 3, 3, 3, 2, 1, 2, 2, 1, 1, 1, 3, 1, 2, 2, 2, 2, 1, 3, 1]

def nameOf (op : Nat) : List UInt8 := names.getD op []
def arityN (op : Nat) : Nat := arities.getD op 0

/-- Arity, for every number. -/
def arity (op : Int) : Int := if 1 ≤ op ∧ op ≤ 20 then (arityN op.toNat : Int) else -1

/-- The operation of a name; 0: none. -/
def opOf (w : List UInt8) : Nat := ((List.range 21).find? fun i => decide (1 ≤ i) && nameOf i == w).getD 0

/-- A number without leading zeros, at most most. -/
def canon (w : List UInt8) : Bool := decide (1 ≤ w.length) && decide (w.length ≤ 5) && w.all isDigit && !(w.head? == some 48 && decide (1 < w.length))
def num (most : Nat) (w : List UInt8) : Option Nat := if canon w && decide (numVal w ≤ most) then some (numVal w) else none

structure Cm where
  op : Int
  args : List Int
  cut : Int
  bytes : Int
  noise : Int
  deriving DecidableEq

def nums : Nat → List (List UInt8) → Option (List Int)
  | 0, _ => some []
  | _ + 1, [] => none
  | k + 1, w :: r => match num 65535 w, nums k r with
    | some n, some l => some ((n : Int) :: l)
    | _, _ => none

def wCut : List UInt8 := [99, 117, 116]
def wNoise : List UInt8 := [110, 111, 105, 115, 101]

def cutOf : List (List UInt8) → Option (Int × Int × List (List UInt8))
  | [] => some (-1, 0, [])
  | w :: r => if w = wCut then (match r with
    | a :: b :: r' => match num 65535 a, num 256 b with
      | some n, some m => some ((n : Int), (m : Int), r')
      | _, _ => none
    | _ => none) else some (-1, 0, w :: r)

def noiseOf : List (List UInt8) → Option Int
  | [] => some 0
  | [w, a] => if w = wNoise then (match num 65535 a with
    | some n => if 1 ≤ n then some (n : Int) else none
    | none => none) else none
  | _ => none

/-- The command of a line's words. -/
def command : List (List UInt8) → Option Cm
  | [] => none
  | w :: r => if opOf w = 0 then none else match nums (arityN (opOf w)) r, cutOf (r.drop (arityN (opOf w))) with
    | some as, some (c, b, r') => (match noiseOf r' with
      | some n => some ⟨(opOf w : Int), as, c, b, n⟩
      | none => none)
    | _, _ => none

/-- Commands of a list of lines; none: one of them is malformed. -/
def cmds : List (List UInt8) → Option (List Cm)
  | [] => some []
  | s :: r => if words s = [] then cmds r else match command (words s), cmds r with
    | some c, some l => some (c :: l)
    | _, _ => none

def parseL (s : List UInt8) : Option (List Cm) := cmds (lines s)

/-- What Parse answers. -/
def parse (s : List UInt8) : List Cm × Int := match parseL s with
  | none => ([], 3)
  | some l => if 400 < l.length then ([], 2) else (l, 0)

def within (n : Int) (a b : Int) : Bool := decide (a ≤ n) && decide (n ≤ b)

def valid (c : Cm) : Bool :=
  decide (0 ≤ arity c.op) && decide ((c.args.length : Int) = arity c.op) && c.args.all (fun n => within n 0 65535) && within c.cut (-1) 65535 && within c.noise 0 65535 && within c.bytes 0 256 && (decide (0 ≤ c.cut) || decide (c.bytes = 0))

def dec (n : Int) : List UInt8 := decDigits n.toNat

/-- The words of a valid command. -/
def wordsOf (c : Cm) : List (List UInt8) :=
  nameOf c.op.toNat :: (c.args.map dec ++ ((if 0 ≤ c.cut then [wCut, dec c.cut, dec c.bytes] else []) ++ (if 1 ≤ c.noise then [wNoise, dec c.noise] else [])))

def joinSp : List (List UInt8) → List UInt8
  | [] => []
  | [x] => x
  | x :: y :: r => x ++ 32 :: joinSp (y :: r)

def lineOf (c : Cm) : List UInt8 := joinSp (wordsOf c)
def textL (l : List Cm) : List UInt8 := l.flatMap fun c => lineOf c ++ [10]

/-! ### Lines -/

theorem lines_ne : ∀ l, lines l ≠ []
  | [] => by simp [lines]
  | c :: l => by
    unfold lines
    split
    · simp
    · split <;> simp

theorem lines_join : ∀ a b : List UInt8, lines (a ++ 10 :: b) = lines a ++ lines b
  | [], b => by simp [lines]
  | c :: a, b => by
    have ih := lines_join a b
    by_cases hc : c = 10
    · subst hc
      simp [lines, ih]
    · have hn := lines_ne a
      rw [List.cons_append, lines, if_neg hc, ih]
      conv => rhs; rw [lines, if_neg hc]
      cases h : lines a with
      | nil => exact absurd h hn
      | cons x r => rfl

theorem lines_one : ∀ a : List UInt8, (∀ c ∈ a, c ≠ 10) → lines a = [a]
  | [], _ => rfl
  | c :: a, h => by
    rw [lines, if_neg (h c (by simp)), lines_one a fun x hx => h x (by simp [hx])]

theorem cmds_append : ∀ a b : List (List UInt8), cmds (a ++ b) = match cmds a, cmds b with
    | some l, some m => some (l ++ m)
    | _, _ => none
  | [], b => by
    simp only [List.nil_append, cmds]
    cases cmds b <;> rfl
  | s :: a, b => by
    have ih := cmds_append a b
    simp only [List.cons_append, cmds]
    split
    · exact ih
    · rw [ih]
      cases command (words s) <;> cases cmds a <;> cases cmds b <;> rfl

/-- The commands of two texts joined by a newline. -/
theorem parseL_join (a b : List UInt8) : parseL (a ++ 10 :: b) = match parseL a, parseL b with
    | some l, some m => some (l ++ m)
    | _, _ => none := by
  unfold parseL
  rw [lines_join, cmds_append]

/-! ### Words -/

theorem wordsA_run : ∀ (w cur l : List UInt8), (∀ c ∈ w, isSep c = false) → wordsA cur (w ++ l) = wordsA (cur ++ w) l
  | [], cur, l, _ => by simp
  | c :: w, cur, l, h => by
    rw [List.cons_append, wordsA, if_neg (by simp [h c (by simp)]), wordsA_run w _ l fun x hx => h x (by simp [hx])]
    simp

/-- Words that can be shown. -/
def Plain (w : List UInt8) : Prop := w ≠ [] ∧ ∀ c ∈ w, isSep c = false ∧ c ≠ 10

theorem words_join : ∀ ws : List (List UInt8), (∀ w ∈ ws, Plain w) → words (joinSp ws) = ws
  | [], _ => rfl
  | [x], h => by
    obtain ⟨h0, h1⟩ := h x (by simp)
    show wordsA [] x = [x]
    have := wordsA_run x [] [] fun c hc => (h1 c hc).1
    rw [List.append_nil, List.nil_append] at this
    rw [this, wordsA, if_neg (by simpa using h0)]
  | x :: y :: r, h => by
    obtain ⟨h0, h1⟩ := h x (by simp)
    have ih := words_join (y :: r) fun w hw => h w (by simp [List.mem_cons] at hw ⊢; exact .inr hw)
    show wordsA [] (x ++ 32 :: joinSp (y :: r)) = _
    rw [wordsA_run x [] _ fun c hc => (h1 c hc).1, List.nil_append, wordsA, if_pos (by decide), if_neg (by simpa using h0)]
    rw [show wordsA [] (joinSp (y :: r)) = words (joinSp (y :: r)) from rfl, ih]

theorem join_nl : ∀ ws : List (List UInt8), (∀ w ∈ ws, Plain w) → ∀ c ∈ joinSp ws, c ≠ 10
  | [], _, c, hc => by simp [joinSp] at hc
  | [x], h, c, hc => ((h x (by simp)).2 c hc).2
  | x :: y :: r, h, c, hc => by
    have hc' : c ∈ x ∨ c = 32 ∨ c ∈ joinSp (y :: r) := by simpa [joinSp] using hc
    rcases hc' with hc' | rfl | hc'
    · exact ((h x (by simp)).2 c hc').2
    · decide
    · exact join_nl (y :: r) (fun w hw => h w (by simp [List.mem_cons] at hw ⊢; exact .inr hw)) c hc'

end ScrM
