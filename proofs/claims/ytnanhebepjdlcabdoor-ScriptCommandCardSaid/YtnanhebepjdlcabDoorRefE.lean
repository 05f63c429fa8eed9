/- The reference's SameFaults, where both are alike. -/
import Derived.Test.YtnanhebepjdlcabDoorWalkL
import Derived.Deep.QuietTactic
import Derived.BigQuiet
namespace Go.Proofs.YtnanhebepjdlcabDoor
open Go.RowKit

theorem FtRow.cells_at {w : World} {g n : Nat} {cut bytes noise : Int} (h : FtRow w g n n cut bytes noise) {j : Nat} (hj : j < n) : ∃ (a : Bool) (b : Int) (c : Bool),
    (a = ((j : Int) == cut) ∧ b = (if ((j : Int) == cut) = true then bytes else 0) ∧ c = nbit noise j) ∧ w.cell? ⟨g, j * 3, none⟩ = some (.bool a) ∧ w.cell? ⟨g, j * 3 + 1, none⟩ = some (.int .i64 b) ∧ w.cell? ⟨g, j * 3 + 2, none⟩ = some (.bool c) := by
  have hc := h.cells j hj
  rw [decide_eq_true hj, Bool.true_and, Bool.true_and] at hc
  exact ⟨_, _, _, ⟨rfl, rfl, rfl⟩, hc⟩

set_option maxHeartbeats 2000000 in
set_option maxRecDepth 100000 in
theorem samefaults_yes (g g' n : Nat) (cut bytes noise : Int) (hn : n ≤ 100000) (w : World) (h : FtRow w g n n cut bytes noise) (h' : FtRow w g' n n cut bytes noise) :
    Calls Tryd.prog 19 #[.slice (some ⟨g, 0, none⟩) n n, .slice (some ⟨g', 0, none⟩) n n] w fun e w' => e = .returned (.bool true) ∧ Below w.heap.size w w' := by
  have HF := Lib.hid h
  have HF' := Lib.hid h'
  clear h h'
  go_enter Tryd.func19, Tryd.ntmps19
  go_wp2_with fail
  go_loopw [5] (fun i w' => ∃ k m : Nat, k ≤ n ∧ i = .int .i64 k ∧ w' = w.drewN m) (fun i _ => n - (intOf i).toNat)
  case atStart => exact ⟨0, 0, by omega, rfl, rfl⟩
  case round =>
    obtain ⟨k, m, hk, rfl, rfl⟩ := hrel
    by_cases hlt : k < n
    · obtain ⟨a, b, c, ⟨ha, hb, hc⟩, e0, e1, e2⟩ := HF.out.cells_at hlt
      obtain ⟨a', b', c', ⟨ha', hb', hc'⟩, f0, f1, f2⟩ := HF'.out.cells_at hlt
      rw [show a' = a from ha'.trans ha.symm] at f0
      rw [show b' = b from hb'.trans hb.symm] at f1
      rw [show c' = c from hc'.trans hc.symm] at f2
      clear ha hb hc ha' hb' hc'
      have hk0 : (0 : Int) ≤ (k : Int) := by omega
      have hk63 : (k : Int) < (n : Int) := by omega
      go_wp2_with fail
      go_quiet (fail)
      go_wp2_with fail
      go_roundw
      case rel => exact ⟨k + 1, m + nq, by omega, by go_num, rfl⟩
      case measure => simp [intOf]; omega
    · obtain rfl : k = n := by omega
      go_wp2_with fail
      go_ret
      exact ⟨rfl, below_drewN (Below.refl _ _) m⟩

theorem samefaults_nil (w : World) :
    Calls Tryd.prog 19 #[.slice none 0 0, .slice none 0 0] w fun e w' => e = .returned (.bool true) ∧ Below w.heap.size w w' := by
  go_enter Tryd.func19, Tryd.ntmps19
  go_wp2_with fail
  go_loopw [5] (fun i w' => ∃ k : Nat, k = 0 ∧ i = .int .i64 k ∧ Below w.heap.size w w') (fun _ _ => 0)
  case atStart => exact ⟨0, rfl, rfl, Below.refl _ _⟩
  case round =>
    obtain ⟨k, rfl, rfl, hb⟩ := hrel
    go_wp2_with fail
    go_ret
    exact ⟨rfl, hb⟩

end Go.Proofs.YtnanhebepjdlcabDoor
