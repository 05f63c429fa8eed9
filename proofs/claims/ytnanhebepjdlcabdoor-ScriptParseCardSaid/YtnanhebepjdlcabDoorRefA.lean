/- The reference's Arity, Name, Valid. -/
import Derived.Test.YtnanhebepjdlcabDoorWalkF
namespace Go.Proofs.YtnanhebepjdlcabDoor
open Go.RowKit

set_option maxHeartbeats 4000000 in
set_option maxRecDepth 100000 in
theorem refarity_any (op : Int) (w : World) : Calls Tryd.prog 16 #[.int .i64 op] w fun e w' => e = .returned (.int .i64 (ScrM.arity op)) ∧ w = w' := by
  by_cases hin : 1 ≤ op ∧ op ≤ 20
  · have hc : op = 1 ∨ op = 2 ∨ op = 3 ∨ op = 4 ∨ op = 5 ∨ op = 6 ∨ op = 7 ∨ op = 8 ∨ op = 9 ∨ op = 10 ∨ op = 11 ∨ op = 12 ∨ op = 13 ∨ op = 14 ∨ op = 15 ∨ op = 16 ∨ op = 17 ∨ op = 18 ∨ op = 19 ∨ op = 20 := by omega
    rcases hc with rfl | rfl | rfl | rfl | rfl | rfl | rfl | rfl | rfl | rfl | rfl | rfl | rfl | rfl | rfl | rfl | rfl | rfl | rfl | rfl
    all_goals
      clear hin
      go_enter Tryd.func16, Tryd.ntmps16
      go_wp2_with fail
      go_ret
      exact ⟨rfl, rfl⟩
  · have HN := Lib.hid hin
    have n1 : (op == 1) = false := beq_eq_false_iff_ne.2 (by omega)
    have n2 : (op == 2) = false := beq_eq_false_iff_ne.2 (by omega)
    have n3 : (op == 3) = false := beq_eq_false_iff_ne.2 (by omega)
    have n4 : (op == 4) = false := beq_eq_false_iff_ne.2 (by omega)
    have n5 : (op == 5) = false := beq_eq_false_iff_ne.2 (by omega)
    have n6 : (op == 6) = false := beq_eq_false_iff_ne.2 (by omega)
    have n7 : (op == 7) = false := beq_eq_false_iff_ne.2 (by omega)
    have n8 : (op == 8) = false := beq_eq_false_iff_ne.2 (by omega)
    have n9 : (op == 9) = false := beq_eq_false_iff_ne.2 (by omega)
    have n10 : (op == 10) = false := beq_eq_false_iff_ne.2 (by omega)
    have n11 : (op == 11) = false := beq_eq_false_iff_ne.2 (by omega)
    have n12 : (op == 12) = false := beq_eq_false_iff_ne.2 (by omega)
    have n13 : (op == 13) = false := beq_eq_false_iff_ne.2 (by omega)
    have n14 : (op == 14) = false := beq_eq_false_iff_ne.2 (by omega)
    have n15 : (op == 15) = false := beq_eq_false_iff_ne.2 (by omega)
    have n16 : (op == 16) = false := beq_eq_false_iff_ne.2 (by omega)
    have n17 : (op == 17) = false := beq_eq_false_iff_ne.2 (by omega)
    have n18 : (op == 18) = false := beq_eq_false_iff_ne.2 (by omega)
    have n19 : (op == 19) = false := beq_eq_false_iff_ne.2 (by omega)
    have n20 : (op == 20) = false := beq_eq_false_iff_ne.2 (by omega)
    clear hin
    go_enter Tryd.func16, Tryd.ntmps16
    go_wp2_with fail
    go_ret
    refine ⟨ret_int ?_, rfl⟩
    rw [ScrM.arity, if_neg HN.out]

set_option maxHeartbeats 4000000 in
set_option maxRecDepth 100000 in
theorem refname_any (op : Int) (w : World) (hin : 1 ≤ op ∧ op ≤ 20) : Calls Tryd.prog 36 #[.int .i64 op] w fun e w' => e = .returned (.string (strOf (ScrM.nameOf op.toNat))) ∧ w = w' := by
  have hc : op = 1 ∨ op = 2 ∨ op = 3 ∨ op = 4 ∨ op = 5 ∨ op = 6 ∨ op = 7 ∨ op = 8 ∨ op = 9 ∨ op = 10 ∨ op = 11 ∨ op = 12 ∨ op = 13 ∨ op = 14 ∨ op = 15 ∨ op = 16 ∨ op = 17 ∨ op = 18 ∨ op = 19 ∨ op = 20 := by omega
  rcases hc with rfl | rfl | rfl | rfl | rfl | rfl | rfl | rfl | rfl | rfl | rfl | rfl | rfl | rfl | rfl | rfl | rfl | rfl | rfl | rfl
  all_goals
    clear hin
    go_enter Tryd.func36, Tryd.ntmps36
    go_wp2_with fail
    go_ret
    exact ⟨rfl, rfl⟩

end Go.Proofs.YtnanhebepjdlcabDoor
