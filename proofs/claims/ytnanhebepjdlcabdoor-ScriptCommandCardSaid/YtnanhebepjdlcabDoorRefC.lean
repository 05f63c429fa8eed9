/- The reference's Bit. -/
import Derived.Test.YtnanhebepjdlcabDoorWalkL
import Derived.WalkArith
import Derived.Laws.Bits64b
namespace Go.Proofs.YtnanhebepjdlcabDoor
open Go.RowKit

theorem and_one_i64 (x : Int) : bits BinOp.and .i64 x 1 = x % 2 := by
  show IntKind.i64.wrap ((BitVec.ofInt 64 x &&& BitVec.ofInt 64 1).toNat : Int) = _
  have h2 : (BitVec.ofInt 64 1).toNat = 1 := by decide
  rw [BitVec.toNat_and, h2, Nat.and_one_is_mod, BitVec.toNat_ofInt, IntKind.wrap_i64]
  omega

theorem tmod2 (x : Int) : x.tmod 2 = if 0 ≤ x then x % 2 else -((-x) % 2) := by
  split
  · rw [Int.tmod_eq_emod_of_nonneg (by omega)]
  · have h : x.tmod 2 = -((-x).tmod 2) := by rw [Int.neg_tmod]; simp
    rw [h, Int.tmod_eq_emod_of_nonneg (by omega)]

theorem tdiv2 (x : Int) : x.tdiv 2 = if 0 ≤ x then x / 2 else -((-x) / 2) := by
  split
  · rw [Int.tdiv_eq_ediv_of_nonneg (by omega)]
  · have h : x.tdiv 2 = -((-x).tdiv 2) := by rw [Int.neg_tdiv]; simp
    rw [h, Int.tdiv_eq_ediv_of_nonneg (by omega)]

theorem odd_iff (x : Int) : (x.tmod 2 != 0) = (x % 2 == 1) := by
  rw [tmod2, Bool.eq_iff_iff]
  simp only [bne_iff_ne, beq_iff_eq]
  split <;> omega

theorem nbit_eq (n : Int) (k : Nat) (hk : k < 16) : nbit n k = ((n / 2 ^ k).tmod 2 != 0) := by
  rw [nbit, Nat.mod_eq_of_lt hk, and_one_i64, odd_iff]

theorem shift_bound (n : Int) (h0 : -9223372036854775808 ≤ n) (h1 : n ≤ 9223372036854775807) : ∀ j : Nat, -9223372036854775808 ≤ n / 2 ^ j ∧ n / 2 ^ j ≤ 9223372036854775807
  | 0 => by simp; omega
  | j + 1 => by
    have ih := shift_bound n h0 h1 j
    have e : n / 2 ^ (j + 1) = n / 2 ^ j / 2 := by rw [Int.pow_succ, Int.ediv_ediv_of_nonneg (Int.le_of_lt (Int.pow_pos (by decide)))]
    rw [e]
    omega

set_option maxHeartbeats 2000000 in
set_option maxRecDepth 100000 in
theorem bit_any (n : Int) (h0 : -9223372036854775808 ≤ n) (h1 : n ≤ 9223372036854775807) (k : Nat) (hk : k < 16) (w : World) :
    Calls Tryd.prog 38 #[.int .i64 n, .int .i64 (k : Int)] w fun e w' => e = .returned (.bool (nbit n k)) ∧ w = w' := by
  have HB := Lib.hid (shift_bound n h0 h1)
  have HE := Lib.hid (nbit_eq n k hk)
  go_enter Tryd.func38, Tryd.ntmps38
  go_wp2_with fail
  go_loopw [0, 5] (fun x i w' => ∃ j : Nat, j ≤ k ∧ i = .int .i64 j ∧ x = .int .i64 (n / 2 ^ j) ∧ w' = w) (fun _ i _ => k - (intOf i).toNat)
  case atStart => exact ⟨0, by omega, rfl, by simp, rfl⟩
  case round =>
    obtain ⟨j, hj, rfl, rfl, rfl⟩ := hrel
    obtain ⟨hb0, hb1⟩ := HB.out j
    have HS := Lib.hid (show n / 2 ^ (j + 1) = n / 2 ^ j / 2 by rw [Int.pow_succ, Int.ediv_ediv_of_nonneg (Int.le_of_lt (Int.pow_pos (by decide)))])
    by_cases hlt : j < k
    · have hj63 : (j : Int) < (k : Int) := by omega
      generalize n / 2 ^ j = x at hb0 hb1 HS
      by_cases hx : x < 0
      · have hxd : decide (x < 0) = true := decide_eq_true hx
        cases ho : (x.tmod 2 != 0) with
        | true =>
          have hodd := ho
          rw [odd_iff, beq_iff_eq] at hodd
          have e1 : wrap64 (x - 1) = x - 1 := by unfold wrap64; omega
          have e2 : (x - 1).tdiv 2 = x / 2 := by rw [tdiv2]; split <;> omega
          have e3 : wrap64 (x / 2) = x / 2 := by unfold wrap64; omega
          have HX := Lib.hid (show wrap64 ((wrap64 (x - 1)).tdiv 2) = x / 2 by rw [e1, e2, e3])
          clear hodd e1 e2 e3
          go_wp2_with fail
          go_roundw
          case rel => exact ⟨j + 1, by omega, by go_num, by rw [HS.out, HX.out], trivial⟩
          case measure => simp [intOf]; omega
        | false =>
          have hev := ho
          rw [odd_iff, beq_eq_false_iff_ne] at hev
          have HX := Lib.hid (show x.tdiv 2 = x / 2 by rw [tdiv2]; split <;> omega)
          clear hev
          go_wp2_with fail
          go_roundw
          case rel => exact ⟨j + 1, by omega, by go_num, by rw [HS.out, HX.out], trivial⟩
          case measure => simp [intOf]; omega
      · have hxd : decide (x < 0) = false := decide_eq_false hx
        go_wp2_with fail
        go_roundw
        case rel => exact ⟨j + 1, by omega, by go_num, by rw [HS.out], trivial⟩
        case measure => simp [intOf]; omega
    · obtain rfl : j = k := by omega
      go_wp2_with fail
      go_ret
      exact ⟨ret_bool HE.out.symm, rfl⟩

end Go.Proofs.YtnanhebepjdlcabDoor
