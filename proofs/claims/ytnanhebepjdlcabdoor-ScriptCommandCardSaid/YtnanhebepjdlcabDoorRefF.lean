/- The reference's Decimal. -/
import Derived.Test.YtnanhebepjdlcabDoorWalkO
import Derived.Laws.IdiomStrings
namespace Go.Proofs.YtnanhebepjdlcabDoor
open Go.RowKit

/-- The digits ahead of the last. -/
def decPre (x : Nat) : List UInt8 := if x ≤ 9 then [] else Lib.decDigits (x / 10)

theorem dec_pre (x : Nat) : Lib.decDigits x = decPre x ++ [UInt8.ofNat (48 + x % 10)] := by
  rw [Lib.decDigits, decPre]
  by_cases h : x < 10
  · rw [dif_pos h, if_pos (by omega), Nat.mod_eq_of_lt h]
    rfl
  · rw [dif_neg h, if_neg (by omega)]

def digB (x : Nat) : ByteArray := ⟨#[UInt8.ofNat (48 + x % 10)]⟩

theorem conv_digit (x : Nat) (w : World) : (convert 62 9 (.slice (some ⟨w.heap.size, 0, none⟩) 1 1)).run Tryd.prog (w.alloc (.cells #[.int .u8 (48 + (x : Int) % 10)] 5)) = .ok (.string (digB x)) (w.alloc (.cells #[.int .u8 (48 + (x : Int) % 10)] 5)) := by
  have h := run_convert_bytes_back (P := Tryd.prog) (w.alloc (.cells #[.int .u8 (48 + (x : Int) % 10)] 5)) 62 9 5 ⟨w.heap.size, 0, none⟩ 1 [UInt8.ofNat (48 + x % 10)] Tryd.underlying62 Tryd.underlying5 Tryd.underlying9 (fun j hj => by
    simp at hj
    subst hj
    rw [Addr.add_mid, World.cell?_alloc_at _ _ _ _ rfl]
    simp
    omega)
  exact h

theorem digB_bl (x : Nat) : bl (digB x) = [UInt8.ofNat (48 + x % 10)] := rfl

theorem pow_step (n j : Nat) : n / 10 ^ (j + 1) = n / 10 ^ j / 10 := by rw [Nat.pow_succ, Nat.div_div_eq_div_mul]

theorem few_digits {n j : Nat} (hn : n ≤ 65535) (hj : j ≤ 5) (h : 9 < n / 10 ^ j) : j + 1 ≤ 5 := by
  have hj' : j = 0 ∨ j = 1 ∨ j = 2 ∨ j = 3 ∨ j = 4 ∨ j = 5 := by omega
  rcases hj' with rfl | rfl | rfl | rfl | rfl | rfl
  · omega
  · omega
  · omega
  · omega
  · omega
  · exfalso
    have : n / 10 ^ 5 = 0 := Nat.div_eq_of_lt (by omega)
    omega

set_option maxHeartbeats 2000000 in
set_option maxRecDepth 100000 in
theorem decimal_any (n : Nat) (hn : n ≤ 65535) (w : World) :
    Calls Tryd.prog 37 #[.int .i64 (n : Int)] w fun e w' => e = .returned (.string (strOf (Lib.decDigits n))) ∧ Below w.heap.size w w' := by
  have hcv := conv_digit n w
  go_enter Tryd.func37, Tryd.ntmps37
  go_wp2_with fail
  clear hcv
  go_loopw [0, 3, 4] (fun x s i w' => ∃ (j : Nat) (y : ByteArray), j ≤ 5 ∧ i = .int .i64 j ∧ x = .int .i64 ((n / 10 ^ j : Nat) : Int) ∧ s = .string y ∧ y.size ≤ j + 1 ∧ Lib.decDigits n = decPre (n / 10 ^ j) ++ bl y ∧ Below w.heap.size w w') (fun _ _ i _ => 5 - (intOf i).toNat)
  case atStart => exact ⟨0, digB n, by omega, rfl, by simp, rfl, Nat.le_refl _, by rw [digB_bl]; simpa using dec_pre n, (Below.refl _ _).alloc (Nat.le_refl _) _⟩
  case round =>
    obtain ⟨j, y, hj, rfl, rfl, rfl, hys, hd, hb⟩ := hrel
    have HD := Lib.hid hd
    have HB := Lib.hid hb
    have hsz := hb.size
    have HP := Lib.hid (pow_step n j)
    have HF := Lib.hid (fun h => @few_digits n j hn hj h)
    have hm6 : n / 10 ^ j ≤ 65535 := Nat.le_trans (Nat.div_le_self _ _) hn
    clear hd hb
    generalize n / 10 ^ j = m at HD HP HF hm6
    have hj20 : decide ((j : Int) < 20) = true := decide_eq_true (by omega)
    by_cases h9 : 9 < m
    · have h9d : decide ((9 : Int) < (m : Int)) = true := decide_eq_true (by omega)
      have hcv := conv_digit (m / 10) wr
      rw [show ((m / 10 : Nat) : Int) = (m : Int) / 10 by omega] at hcv
      have hj5 := HF.out h9
      have HC := Lib.hid (show Lib.decDigits n = decPre (m / 10) ++ bl (digB (m / 10) ++ y) by
        rw [HD.out, decPre, if_neg (by omega), dec_pre (m / 10), bl_append, digB_bl, List.append_assoc])
      have hcs : (digB (m / 10) ++ y).size = y.size + 1 := by rw [ByteArray.size_append, show (digB (m / 10)).size = 1 from rfl]; omega
      have hdg : (digB (m / 10)).size = 1 := rfl
      go_wp2_with fail
      go_roundw
      case rel => exact ⟨j + 1, digB (m / 10) ++ y, hj5, by go_num, by rw [HP.out]; congr 1, rfl, by rw [hcs]; omega, by rw [HP.out]; exact HC.out, HB.out.alloc hsz _⟩
      case measure => simp [intOf]; omega
    · have h9d : decide ((9 : Int) < (m : Int)) = false := decide_eq_false (by omega)
      have HE := Lib.hid (show Lib.decDigits n = bl y by rw [HD.out, decPre, if_pos (by omega)]; rfl)
      go_wp2_with fail
      go_ret
      exact ⟨by rw [HE.out]; rfl, HB.out⟩

end Go.Proofs.YtnanhebepjdlcabDoor
