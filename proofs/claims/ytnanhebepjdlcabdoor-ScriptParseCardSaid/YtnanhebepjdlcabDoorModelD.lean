/- A command's words, step by step as line.command takes them. No program in sight. -/
import Derived.Test.YtnanhebepjdlcabDoorModelC
namespace ScrM
open Go.Lib

/-- The number at the head. -/
def hd (most : Nat) : List (List UInt8) → Option Nat
  | [] => none
  | w :: _ => num most w

theorem nums_snoc : ∀ (k : Nat) (ws : List (List UInt8)), nums (k + 1) ws = match nums k ws, hd 65535 (ws.drop k) with
    | some l, some n => some (l ++ [(n : Int)])
    | _, _ => none
  | 0, [] => rfl
  | 0, w :: r => by
    simp only [nums, List.drop_zero, hd]
    cases num 65535 w <;> rfl
  | k + 1, [] => rfl
  | k + 1, w :: r => by
    rw [nums, nums_snoc k r, nums, List.drop_succ_cons]
    cases num 65535 w with
    | none => rfl
    | some a =>
      cases nums k r with
      | none => rfl
      | some l =>
        cases hd 65535 (r.drop k) with
        | none => rfl
        | some b => rfl

theorem cutOf_yes (t : List (List UInt8)) : cutOf (wCut :: t) = match hd 65535 t, hd 256 t.tail with
    | some n, some m => some ((n : Int), (m : Int), t.tail.tail)
    | _, _ => none := by
  cases t with
  | nil => rfl
  | cons a t =>
    cases t with
    | nil =>
      simp only [cutOf, if_true, hd, List.tail_cons]
      cases num 65535 a <;> rfl
    | cons b t =>
      simp only [cutOf, if_true, hd, List.tail_cons]
      cases num 65535 a <;> cases num 256 b <;> rfl

theorem cutOf_no {ws : List (List UInt8)} (h : ws.head? ≠ some wCut) : cutOf ws = some (-1, 0, ws) := by
  cases ws with
  | nil => rfl
  | cons w r =>
    have : w ≠ wCut := fun e => h (by rw [e]; rfl)
    simp only [cutOf, if_neg this]

theorem noiseOf_yes (t : List (List UInt8)) : noiseOf (wNoise :: t) = match hd 65535 t with
    | some n => if 1 ≤ n ∧ t.tail = [] then some (n : Int) else none
    | none => none := by
  cases t with
  | nil => rfl
  | cons a t =>
    cases t with
    | nil =>
      simp only [noiseOf, if_true, hd, List.tail_cons, and_true]
      cases num 65535 a <;> rfl
    | cons b t =>
      simp only [noiseOf, hd, List.tail_cons]
      cases num 65535 a with
      | none => rfl
      | some n => simp

theorem noiseOf_no {ws : List (List UInt8)} (h : ws.head? ≠ some wNoise) : noiseOf ws = if ws = [] then some 0 else none := by
  cases ws with
  | nil => rfl
  | cons w r =>
    have hw : w ≠ wNoise := fun e => h (by rw [e]; rfl)
    cases r with
    | nil => simp [noiseOf]
    | cons b t =>
      cases t with
      | nil => simp only [noiseOf, if_neg hw]; simp
      | cons c t => simp [noiseOf]

/-- How many numbers line.command reads. -/
def arityOf (w : List UInt8) : Nat := if opOf w = 0 then 0 else arityN (opOf w)

theorem opOf_le (w : List UInt8) : opOf w ≤ 20 := by
  by_cases h : opOf w = 0
  · omega
  · exact (opOf_spec h).2.1

theorem arityOf_eq (w : List UInt8) : (if 0 ≤ arity (opOf w : Int) then arity (opOf w : Int) else 0) = (arityOf w : Int) := by
  have h20 := opOf_le w
  unfold arity arityOf
  by_cases h : opOf w = 0
  · rw [if_pos h, h]
    decide
  · rw [if_neg h, if_pos (show (1 : Int) ≤ (opOf w : Int) ∧ (opOf w : Int) ≤ 20 by omega)]
    rw [if_pos (by omega)]
    rfl

theorem arity_le : ∀ i, i ≤ 20 → arityN i ≤ 3 := by
  have h : ∀ i : Fin 21, arityN i.val ≤ 3 := by decide
  intro i hi
  exact h ⟨i, by omega⟩

theorem arityOf_le (w : List UInt8) : arityOf w ≤ 3 := by
  unfold arityOf
  split
  · omega
  · exact arity_le _ (opOf_le w)

/-- The command, from the steps: op, numbers, what cut answers, what noise answers. -/
theorem command_eq (w : List UInt8) (r : List (List UInt8)) : command (w :: r) = if opOf w = 0 then none else match nums (arityOf w) r, cutOf (r.drop (arityOf w)) with
    | some as, some (c, b, r') => (match noiseOf r' with
      | some n => some ⟨(opOf w : Int), as, c, b, n⟩
      | none => none)
    | _, _ => none := by
  rw [command]
  unfold arityOf
  split
  · rfl
  · rfl

/-! ### The map of names -/

/-- The operation that the map holds at a name behind k rounds. -/
def mop (w : List UInt8) : Nat → Nat
  | 0 => 0
  | k + 1 => if 1 ≤ k ∧ nameOf k = w then k else mop w k

theorem mop_none {w : List UInt8} : ∀ (k : Nat), (∀ i, 1 ≤ i → i < k → nameOf i ≠ w) → mop w k = 0
  | 0, _ => rfl
  | k + 1, h => by
    rw [mop, if_neg (fun hc => h k hc.1 (by omega) hc.2)]
    exact mop_none k fun i h1 h2 => h i h1 (by omega)

theorem mop_all (w : List UInt8) : mop w 21 = opOf w := by
  by_cases h : ∃ i, 1 ≤ i ∧ i < 21 ∧ nameOf i = w
  · obtain ⟨i, h1, h2, rfl⟩ := h
    have hd : ∀ i : Fin 21, 1 ≤ i.val → mop (nameOf i.val) 21 = opOf (nameOf i.val) := by decide
    exact hd ⟨i, h2⟩ h1
  · rw [mop_none 21 fun i h1 h2 h3 => h ⟨i, h1, h2, h3⟩]
    by_cases h0 : opOf w = 0
    · exact h0.symm
    · obtain ⟨h1, h2, h3⟩ := opOf_spec h0
      exact absurd ⟨opOf w, h1, by omega, h3⟩ h

end ScrM
