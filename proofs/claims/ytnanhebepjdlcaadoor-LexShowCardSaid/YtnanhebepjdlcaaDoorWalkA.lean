/- The leaves of the lexer and of its reference: letter, digit, within, class, Blank, operators: what each call returns. -/
import Derived.Test.YtnanhebepjdlcaaDoorRows
import Derived.Test.YtnanhebepjdlcaaDoorModel
import Derived.WalkKit
import Derived.WalkSpells
import Derived.WalkLawsBesides
namespace Go.Proofs.YtnanhebepjdlcaaDoor
open Go.RowKit

def letB (c : Int) : Bool := decide ((97 ≤ c ∧ c ≤ 122) ∨ (65 ≤ c ∧ c ≤ 90))
def digB (c : Int) : Bool := decide (48 ≤ c ∧ c ≤ 57)
def witB (c : Int) : Bool := letB c || digB c || decide (c = 95)

theorem letB_yes {c : Int} (h : (97 ≤ c ∧ c ≤ 122) ∨ (65 ≤ c ∧ c ≤ 90)) : letB c = true := decide_eq_true h
theorem letB_no {c : Int} (h : ¬ ((97 ≤ c ∧ c ≤ 122) ∨ (65 ≤ c ∧ c ≤ 90))) : letB c = false := decide_eq_false h
theorem digB_yes {c : Int} (h : 48 ≤ c ∧ c ≤ 57) : digB c = true := decide_eq_true h
theorem digB_no {c : Int} (h : ¬ (48 ≤ c ∧ c ≤ 57)) : digB c = false := decide_eq_false h

theorem ret_bool {a b : Bool} (h : a = b) : Ending.returned (.bool a) = .returned (.bool b) := by rw [h]
theorem ret_int {k : IntKind} {a b : Int} (h : a = b) : Ending.returned (.int k a) = .returned (.int k b) := by rw [h]

theorem beq_lit (a b : Int) : (a == b) = decide (a = b) := by rw [Bool.eq_iff_iff]; simp

set_option maxHeartbeats 400000 in
theorem letter_any (c : Int) (w : World) : Calls Tryd.prog 20 #[.int .i32 c] w fun e w' => e = .returned (.bool (letB c)) ∧ w = w' := by
  go_enter Tryd.func20, Tryd.ntmps20
  go_wp2
  all_goals
    go_ret
    refine ⟨ret_bool ?_, rfl⟩
    rw [Bool.eq_iff_iff]
    simp [letB]
    omega

set_option maxHeartbeats 400000 in
theorem digit_any (c : Int) (w : World) : Calls Tryd.prog 23 #[.int .i32 c] w fun e w' => e = .returned (.bool (digB c)) ∧ w = w' := by
  go_enter Tryd.func23, Tryd.ntmps23
  go_wp2
  all_goals
    go_ret
    refine ⟨ret_bool ?_, rfl⟩
    rw [Bool.eq_iff_iff]
    simp [digB]
    omega

set_option maxHeartbeats 400000 in
theorem within_any (c : Int) (w : World) : Calls Tryd.prog 22 #[.int .i32 c] w fun e w' => e = .returned (.bool (witB c)) ∧ w = w' := by
  go_enter Tryd.func22, Tryd.ntmps22
  go_wp2_with (first
    | (go_at_call 20; refine (letter_any _ _).mono ?_; rintro e w' ⟨rfl, rfl⟩)
    | (go_at_call 23; refine (digit_any _ _).mono ?_; rintro e w' ⟨rfl, rfl⟩))
  all_goals
    go_ret
    refine ⟨ret_bool ?_, rfl⟩
    simp_all [witB, beq_lit]

def clsI (c : Int) : Int :=
  if (97 ≤ c ∧ c ≤ 122) ∨ (65 ≤ c ∧ c ≤ 90) then 1 else if 48 ≤ c ∧ c ≤ 57 then 2 else if c = 95 then 3 else if c = 9 ∨ c = 10 ∨ c = 32 then 4 else 0

set_option maxHeartbeats 1000000 in
theorem class_any (c : Int) (w : World) : Calls Tryd.prog 27 #[.int .u8 c] w fun e w' => e = .returned (.int .i64 (clsI c)) ∧ w = w' := by
  go_enter Tryd.func27, Tryd.ntmps27
  go_wp2
  all_goals
    go_ret
    refine ⟨ret_int ?_, rfl⟩
    try simp only [beq_iff_eq, beq_eq_false_iff_ne, ne_eq] at *
    unfold clsI
    repeat' split
    all_goals omega

set_option maxHeartbeats 400000 in
theorem blank_any (c : Int) (w : World) : Calls Tryd.prog 15 #[.int .u8 c] w fun e w' => e = .returned (.bool (decide (clsI c = 4))) ∧ w = w' := by
  go_enter Tryd.func15, Tryd.ntmps15
  go_wp2_with (go_at_call 27; refine (class_any _ _).mono ?_; rintro e w' ⟨rfl, rfl⟩)
  go_ret
  exact ⟨ret_bool (beq_lit _ _), rfl⟩

def opCells : Array Value := #[.string ⟨#[61, 61]⟩, .string ⟨#[38, 38]⟩, .string ⟨#[124, 124]⟩, .string ⟨#[62, 61]⟩, .string ⟨#[123]⟩, .string ⟨#[125]⟩, .string ⟨#[40]⟩, .string ⟨#[41]⟩, .string ⟨#[59]⟩, .string ⟨#[61]⟩, .string ⟨#[43]⟩, .string ⟨#[45]⟩, .string ⟨#[42]⟩, .string ⟨#[60]⟩, .string ⟨#[33]⟩]

set_option maxHeartbeats 400000 in
theorem operators_any (w : World) : Calls Tryd.prog 25 #[] w fun e w' => e = .returned (.agg opCells) ∧ w.alloc (.cells opCells 45) = w' := by
  go_enter Tryd.func25, Tryd.ntmps25
  go_wp2
  exact bodyPost_ret (v := .agg opCells) (by simp [results, Tryd.results25, go_sem, opCells]) rfl ⟨rfl, rfl⟩

end Go.Proofs.YtnanhebepjdlcaaDoor
