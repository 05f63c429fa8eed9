/- The reference's sign and number. -/
import Derived.Test.YtnanhebepjdlcaaDoorWalkG
import Derived.Test.YtnanhebepjdlcaaDoorModelD
namespace Go.Proofs.YtnanhebepjdlcaaDoor
open Go.RowKit

theorem ext_two (s : ByteArray) (p : Nat) (c d : UInt8) (r : List UInt8) (h : (bl s).drop p = c :: d :: r) : (s.extract p (p + 2)).toList = [c, d] := by
  rw [Lib.toList_data, Lib.extract_data, show p + 2 - p = 2 by omega]
  show ((bl s).drop p).take 2 = _
  rw [h]
  rfl

theorem sign_two_of {c d : UInt8} {r : List UInt8} (h : [c, d] = ([61, 61] : List UInt8) ∨ [c, d] = ([38, 38] : List UInt8) ∨ [c, d] = ([124, 124] : List UInt8) ∨ [c, d] = ([62, 61] : List UInt8)) : LexM.sign (c :: d :: r) = 2 := by
  refine LexM.sign_two ?_
  rcases h with h | h | h | h <;>
    (simp only [List.cons.injEq, and_true] at h; obtain ⟨rfl, rfl⟩ := h; decide)

theorem no_two_of {c d : UInt8} (h1 : ¬ [c, d] = ([61, 61] : List UInt8)) (h2 : ¬ [c, d] = ([38, 38] : List UInt8)) (h3 : ¬ [c, d] = ([124, 124] : List UInt8)) (h4 : ¬ [c, d] = ([62, 61] : List UInt8)) : LexM.two c d = false := by
  simp only [List.cons.injEq, and_true, ← UInt8.toNat_inj, not_and] at h1 h2 h3 h4
  simp only [LexM.two, Bool.or_eq_false_iff, Bool.and_eq_false_iff, beq_eq_false_iff_ne]
  simp at h1 h2 h3 h4
  omega

def oneI (c : Int) : Bool := c == 123 || c == 125 || c == 40 || c == 41 || c == 59 || c == 61 || c == 43 || c == 45 || c == 42 || c == 60 || c == 33

theorem oneI_byte (c : UInt8) : oneI (c.toNat : Int) = LexM.one c := by
  rw [Bool.eq_iff_iff]
  simp only [oneI, LexM.one, Bool.or_eq_true, beq_iff_eq]
  omega

theorem sign_no_two {c d : UInt8} {r : List UInt8} (h : LexM.two c d = false) : LexM.sign (c :: d :: r) = if oneI (c.toNat : Int) then 1 else 0 := by
  rw [oneI_byte]
  simp [LexM.sign, h]
theorem sign_single {c : UInt8} : LexM.sign [c] = if oneI (c.toNat : Int) then 1 else 0 := by
  rw [oneI_byte]
  simp [LexM.sign]

set_option maxHeartbeats 400000 in
set_option maxRecDepth 100000 in
theorem sgn_t0 (s : ByteArray) (p : Nat) (_hp : p < s.size) (hs : s.size ≤ 1500) (w : World) (h2 : p + 2 ≤ s.size) (hle : decide ((p : Int) + 2 ≤ (s.size : Int)) = true)  (e0 : ((s.extract p (p + 2)).toList == [61, 61]) = true) :
    Calls Tryd.prog 28 #[.string s, .int .i64 (p : Int)] w fun e w' => e = .returned (.int .i64 2) ∧ w = w' := by
  have hp0 : (0 : Int) ≤ (p : Int) := by omega
  go_enter Tryd.func28, Tryd.ntmps28
  go_wp2_with fail
  go_ret
  exact ⟨rfl, rfl⟩

set_option maxHeartbeats 400000 in
set_option maxRecDepth 100000 in
theorem sgn_t1 (s : ByteArray) (p : Nat) (_hp : p < s.size) (hs : s.size ≤ 1500) (w : World) (h2 : p + 2 ≤ s.size) (hle : decide ((p : Int) + 2 ≤ (s.size : Int)) = true) (e0 : ((s.extract p (p + 2)).toList == [61, 61]) = false) (e1 : ((s.extract p (p + 2)).toList == [38, 38]) = true) :
    Calls Tryd.prog 28 #[.string s, .int .i64 (p : Int)] w fun e w' => e = .returned (.int .i64 2) ∧ w = w' := by
  have hp0 : (0 : Int) ≤ (p : Int) := by omega
  go_enter Tryd.func28, Tryd.ntmps28
  go_wp2_with fail
  go_ret
  exact ⟨rfl, rfl⟩

set_option maxHeartbeats 400000 in
set_option maxRecDepth 100000 in
theorem sgn_t2 (s : ByteArray) (p : Nat) (_hp : p < s.size) (hs : s.size ≤ 1500) (w : World) (h2 : p + 2 ≤ s.size) (hle : decide ((p : Int) + 2 ≤ (s.size : Int)) = true) (e0 : ((s.extract p (p + 2)).toList == [61, 61]) = false) (e1 : ((s.extract p (p + 2)).toList == [38, 38]) = false) (e2 : ((s.extract p (p + 2)).toList == [124, 124]) = true) :
    Calls Tryd.prog 28 #[.string s, .int .i64 (p : Int)] w fun e w' => e = .returned (.int .i64 2) ∧ w = w' := by
  have hp0 : (0 : Int) ≤ (p : Int) := by omega
  go_enter Tryd.func28, Tryd.ntmps28
  go_wp2_with fail
  go_ret
  exact ⟨rfl, rfl⟩

set_option maxHeartbeats 400000 in
set_option maxRecDepth 100000 in
theorem sgn_t3 (s : ByteArray) (p : Nat) (_hp : p < s.size) (hs : s.size ≤ 1500) (w : World) (h2 : p + 2 ≤ s.size) (hle : decide ((p : Int) + 2 ≤ (s.size : Int)) = true) (e0 : ((s.extract p (p + 2)).toList == [61, 61]) = false) (e1 : ((s.extract p (p + 2)).toList == [38, 38]) = false) (e2 : ((s.extract p (p + 2)).toList == [124, 124]) = false) (e3 : ((s.extract p (p + 2)).toList == [62, 61]) = true) :
    Calls Tryd.prog 28 #[.string s, .int .i64 (p : Int)] w fun e w' => e = .returned (.int .i64 2) ∧ w = w' := by
  have hp0 : (0 : Int) ≤ (p : Int) := by omega
  go_enter Tryd.func28, Tryd.ntmps28
  go_wp2_with fail
  go_ret
  exact ⟨rfl, rfl⟩

set_option maxHeartbeats 400000 in
set_option maxRecDepth 100000 in
theorem sgn_n0 (s : ByteArray) (p : Nat) (hp : p < s.size) (hs : s.size ≤ 1500) (w : World) (h2 : p + 2 ≤ s.size) (hle : decide ((p : Int) + 2 ≤ (s.size : Int)) = true) (e0 : ((s.extract p (p + 2)).toList == [61, 61]) = false) (e1 : ((s.extract p (p + 2)).toList == [38, 38]) = false) (e2 : ((s.extract p (p + 2)).toList == [124, 124]) = false) (e3 : ((s.extract p (p + 2)).toList == [62, 61]) = false)  (b0 : ((s[p].toNat : Int) == 123) = true) :
    Calls Tryd.prog 28 #[.string s, .int .i64 (p : Int)] w fun e w' => e = .returned (.int .i64 1) ∧ w = w' := by
  have hp0 : (0 : Int) ≤ (p : Int) := by omega
  go_enter Tryd.func28, Tryd.ntmps28
  go_wp2_with fail
  go_ret
  exact ⟨rfl, rfl⟩

set_option maxHeartbeats 400000 in
set_option maxRecDepth 100000 in
theorem sgn_n1 (s : ByteArray) (p : Nat) (hp : p < s.size) (hs : s.size ≤ 1500) (w : World) (h2 : p + 2 ≤ s.size) (hle : decide ((p : Int) + 2 ≤ (s.size : Int)) = true) (e0 : ((s.extract p (p + 2)).toList == [61, 61]) = false) (e1 : ((s.extract p (p + 2)).toList == [38, 38]) = false) (e2 : ((s.extract p (p + 2)).toList == [124, 124]) = false) (e3 : ((s.extract p (p + 2)).toList == [62, 61]) = false) (b0 : ((s[p].toNat : Int) == 123) = false) (b1 : ((s[p].toNat : Int) == 125) = true) :
    Calls Tryd.prog 28 #[.string s, .int .i64 (p : Int)] w fun e w' => e = .returned (.int .i64 1) ∧ w = w' := by
  have hp0 : (0 : Int) ≤ (p : Int) := by omega
  go_enter Tryd.func28, Tryd.ntmps28
  go_wp2_with fail
  go_ret
  exact ⟨rfl, rfl⟩

set_option maxHeartbeats 400000 in
set_option maxRecDepth 100000 in
theorem sgn_n2 (s : ByteArray) (p : Nat) (hp : p < s.size) (hs : s.size ≤ 1500) (w : World) (h2 : p + 2 ≤ s.size) (hle : decide ((p : Int) + 2 ≤ (s.size : Int)) = true) (e0 : ((s.extract p (p + 2)).toList == [61, 61]) = false) (e1 : ((s.extract p (p + 2)).toList == [38, 38]) = false) (e2 : ((s.extract p (p + 2)).toList == [124, 124]) = false) (e3 : ((s.extract p (p + 2)).toList == [62, 61]) = false) (b0 : ((s[p].toNat : Int) == 123) = false) (b1 : ((s[p].toNat : Int) == 125) = false) (b2 : ((s[p].toNat : Int) == 40) = true) :
    Calls Tryd.prog 28 #[.string s, .int .i64 (p : Int)] w fun e w' => e = .returned (.int .i64 1) ∧ w = w' := by
  have hp0 : (0 : Int) ≤ (p : Int) := by omega
  go_enter Tryd.func28, Tryd.ntmps28
  go_wp2_with fail
  go_ret
  exact ⟨rfl, rfl⟩

set_option maxHeartbeats 400000 in
set_option maxRecDepth 100000 in
theorem sgn_n3 (s : ByteArray) (p : Nat) (hp : p < s.size) (hs : s.size ≤ 1500) (w : World) (h2 : p + 2 ≤ s.size) (hle : decide ((p : Int) + 2 ≤ (s.size : Int)) = true) (e0 : ((s.extract p (p + 2)).toList == [61, 61]) = false) (e1 : ((s.extract p (p + 2)).toList == [38, 38]) = false) (e2 : ((s.extract p (p + 2)).toList == [124, 124]) = false) (e3 : ((s.extract p (p + 2)).toList == [62, 61]) = false) (b0 : ((s[p].toNat : Int) == 123) = false) (b1 : ((s[p].toNat : Int) == 125) = false) (b2 : ((s[p].toNat : Int) == 40) = false) (b3 : ((s[p].toNat : Int) == 41) = true) :
    Calls Tryd.prog 28 #[.string s, .int .i64 (p : Int)] w fun e w' => e = .returned (.int .i64 1) ∧ w = w' := by
  have hp0 : (0 : Int) ≤ (p : Int) := by omega
  go_enter Tryd.func28, Tryd.ntmps28
  go_wp2_with fail
  go_ret
  exact ⟨rfl, rfl⟩

set_option maxHeartbeats 400000 in
set_option maxRecDepth 100000 in
theorem sgn_n4 (s : ByteArray) (p : Nat) (hp : p < s.size) (hs : s.size ≤ 1500) (w : World) (h2 : p + 2 ≤ s.size) (hle : decide ((p : Int) + 2 ≤ (s.size : Int)) = true) (e0 : ((s.extract p (p + 2)).toList == [61, 61]) = false) (e1 : ((s.extract p (p + 2)).toList == [38, 38]) = false) (e2 : ((s.extract p (p + 2)).toList == [124, 124]) = false) (e3 : ((s.extract p (p + 2)).toList == [62, 61]) = false) (b0 : ((s[p].toNat : Int) == 123) = false) (b1 : ((s[p].toNat : Int) == 125) = false) (b2 : ((s[p].toNat : Int) == 40) = false) (b3 : ((s[p].toNat : Int) == 41) = false) (b4 : ((s[p].toNat : Int) == 59) = true) :
    Calls Tryd.prog 28 #[.string s, .int .i64 (p : Int)] w fun e w' => e = .returned (.int .i64 1) ∧ w = w' := by
  have hp0 : (0 : Int) ≤ (p : Int) := by omega
  go_enter Tryd.func28, Tryd.ntmps28
  go_wp2_with fail
  go_ret
  exact ⟨rfl, rfl⟩

set_option maxHeartbeats 400000 in
set_option maxRecDepth 100000 in
theorem sgn_n5 (s : ByteArray) (p : Nat) (hp : p < s.size) (hs : s.size ≤ 1500) (w : World) (h2 : p + 2 ≤ s.size) (hle : decide ((p : Int) + 2 ≤ (s.size : Int)) = true) (e0 : ((s.extract p (p + 2)).toList == [61, 61]) = false) (e1 : ((s.extract p (p + 2)).toList == [38, 38]) = false) (e2 : ((s.extract p (p + 2)).toList == [124, 124]) = false) (e3 : ((s.extract p (p + 2)).toList == [62, 61]) = false) (b0 : ((s[p].toNat : Int) == 123) = false) (b1 : ((s[p].toNat : Int) == 125) = false) (b2 : ((s[p].toNat : Int) == 40) = false) (b3 : ((s[p].toNat : Int) == 41) = false) (b4 : ((s[p].toNat : Int) == 59) = false) (b5 : ((s[p].toNat : Int) == 61) = true) :
    Calls Tryd.prog 28 #[.string s, .int .i64 (p : Int)] w fun e w' => e = .returned (.int .i64 1) ∧ w = w' := by
  have hp0 : (0 : Int) ≤ (p : Int) := by omega
  go_enter Tryd.func28, Tryd.ntmps28
  go_wp2_with fail
  go_ret
  exact ⟨rfl, rfl⟩

set_option maxHeartbeats 400000 in
set_option maxRecDepth 100000 in
theorem sgn_n6 (s : ByteArray) (p : Nat) (hp : p < s.size) (hs : s.size ≤ 1500) (w : World) (h2 : p + 2 ≤ s.size) (hle : decide ((p : Int) + 2 ≤ (s.size : Int)) = true) (e0 : ((s.extract p (p + 2)).toList == [61, 61]) = false) (e1 : ((s.extract p (p + 2)).toList == [38, 38]) = false) (e2 : ((s.extract p (p + 2)).toList == [124, 124]) = false) (e3 : ((s.extract p (p + 2)).toList == [62, 61]) = false) (b0 : ((s[p].toNat : Int) == 123) = false) (b1 : ((s[p].toNat : Int) == 125) = false) (b2 : ((s[p].toNat : Int) == 40) = false) (b3 : ((s[p].toNat : Int) == 41) = false) (b4 : ((s[p].toNat : Int) == 59) = false) (b5 : ((s[p].toNat : Int) == 61) = false) (b6 : ((s[p].toNat : Int) == 43) = true) :
    Calls Tryd.prog 28 #[.string s, .int .i64 (p : Int)] w fun e w' => e = .returned (.int .i64 1) ∧ w = w' := by
  have hp0 : (0 : Int) ≤ (p : Int) := by omega
  go_enter Tryd.func28, Tryd.ntmps28
  go_wp2_with fail
  go_ret
  exact ⟨rfl, rfl⟩

set_option maxHeartbeats 400000 in
set_option maxRecDepth 100000 in
theorem sgn_n7 (s : ByteArray) (p : Nat) (hp : p < s.size) (hs : s.size ≤ 1500) (w : World) (h2 : p + 2 ≤ s.size) (hle : decide ((p : Int) + 2 ≤ (s.size : Int)) = true) (e0 : ((s.extract p (p + 2)).toList == [61, 61]) = false) (e1 : ((s.extract p (p + 2)).toList == [38, 38]) = false) (e2 : ((s.extract p (p + 2)).toList == [124, 124]) = false) (e3 : ((s.extract p (p + 2)).toList == [62, 61]) = false) (b0 : ((s[p].toNat : Int) == 123) = false) (b1 : ((s[p].toNat : Int) == 125) = false) (b2 : ((s[p].toNat : Int) == 40) = false) (b3 : ((s[p].toNat : Int) == 41) = false) (b4 : ((s[p].toNat : Int) == 59) = false) (b5 : ((s[p].toNat : Int) == 61) = false) (b6 : ((s[p].toNat : Int) == 43) = false) (b7 : ((s[p].toNat : Int) == 45) = true) :
    Calls Tryd.prog 28 #[.string s, .int .i64 (p : Int)] w fun e w' => e = .returned (.int .i64 1) ∧ w = w' := by
  have hp0 : (0 : Int) ≤ (p : Int) := by omega
  go_enter Tryd.func28, Tryd.ntmps28
  go_wp2_with fail
  go_ret
  exact ⟨rfl, rfl⟩

set_option maxHeartbeats 400000 in
set_option maxRecDepth 100000 in
theorem sgn_n8 (s : ByteArray) (p : Nat) (hp : p < s.size) (hs : s.size ≤ 1500) (w : World) (h2 : p + 2 ≤ s.size) (hle : decide ((p : Int) + 2 ≤ (s.size : Int)) = true) (e0 : ((s.extract p (p + 2)).toList == [61, 61]) = false) (e1 : ((s.extract p (p + 2)).toList == [38, 38]) = false) (e2 : ((s.extract p (p + 2)).toList == [124, 124]) = false) (e3 : ((s.extract p (p + 2)).toList == [62, 61]) = false) (b0 : ((s[p].toNat : Int) == 123) = false) (b1 : ((s[p].toNat : Int) == 125) = false) (b2 : ((s[p].toNat : Int) == 40) = false) (b3 : ((s[p].toNat : Int) == 41) = false) (b4 : ((s[p].toNat : Int) == 59) = false) (b5 : ((s[p].toNat : Int) == 61) = false) (b6 : ((s[p].toNat : Int) == 43) = false) (b7 : ((s[p].toNat : Int) == 45) = false) (b8 : ((s[p].toNat : Int) == 42) = true) :
    Calls Tryd.prog 28 #[.string s, .int .i64 (p : Int)] w fun e w' => e = .returned (.int .i64 1) ∧ w = w' := by
  have hp0 : (0 : Int) ≤ (p : Int) := by omega
  go_enter Tryd.func28, Tryd.ntmps28
  go_wp2_with fail
  go_ret
  exact ⟨rfl, rfl⟩

set_option maxHeartbeats 400000 in
set_option maxRecDepth 100000 in
theorem sgn_n9 (s : ByteArray) (p : Nat) (hp : p < s.size) (hs : s.size ≤ 1500) (w : World) (h2 : p + 2 ≤ s.size) (hle : decide ((p : Int) + 2 ≤ (s.size : Int)) = true) (e0 : ((s.extract p (p + 2)).toList == [61, 61]) = false) (e1 : ((s.extract p (p + 2)).toList == [38, 38]) = false) (e2 : ((s.extract p (p + 2)).toList == [124, 124]) = false) (e3 : ((s.extract p (p + 2)).toList == [62, 61]) = false) (b0 : ((s[p].toNat : Int) == 123) = false) (b1 : ((s[p].toNat : Int) == 125) = false) (b2 : ((s[p].toNat : Int) == 40) = false) (b3 : ((s[p].toNat : Int) == 41) = false) (b4 : ((s[p].toNat : Int) == 59) = false) (b5 : ((s[p].toNat : Int) == 61) = false) (b6 : ((s[p].toNat : Int) == 43) = false) (b7 : ((s[p].toNat : Int) == 45) = false) (b8 : ((s[p].toNat : Int) == 42) = false) (b9 : ((s[p].toNat : Int) == 60) = true) :
    Calls Tryd.prog 28 #[.string s, .int .i64 (p : Int)] w fun e w' => e = .returned (.int .i64 1) ∧ w = w' := by
  have hp0 : (0 : Int) ≤ (p : Int) := by omega
  go_enter Tryd.func28, Tryd.ntmps28
  go_wp2_with fail
  go_ret
  exact ⟨rfl, rfl⟩

set_option maxHeartbeats 400000 in
set_option maxRecDepth 100000 in
theorem sgn_n10 (s : ByteArray) (p : Nat) (hp : p < s.size) (hs : s.size ≤ 1500) (w : World) (h2 : p + 2 ≤ s.size) (hle : decide ((p : Int) + 2 ≤ (s.size : Int)) = true) (e0 : ((s.extract p (p + 2)).toList == [61, 61]) = false) (e1 : ((s.extract p (p + 2)).toList == [38, 38]) = false) (e2 : ((s.extract p (p + 2)).toList == [124, 124]) = false) (e3 : ((s.extract p (p + 2)).toList == [62, 61]) = false) (b0 : ((s[p].toNat : Int) == 123) = false) (b1 : ((s[p].toNat : Int) == 125) = false) (b2 : ((s[p].toNat : Int) == 40) = false) (b3 : ((s[p].toNat : Int) == 41) = false) (b4 : ((s[p].toNat : Int) == 59) = false) (b5 : ((s[p].toNat : Int) == 61) = false) (b6 : ((s[p].toNat : Int) == 43) = false) (b7 : ((s[p].toNat : Int) == 45) = false) (b8 : ((s[p].toNat : Int) == 42) = false) (b9 : ((s[p].toNat : Int) == 60) = false) (b10 : ((s[p].toNat : Int) == 33) = true) :
    Calls Tryd.prog 28 #[.string s, .int .i64 (p : Int)] w fun e w' => e = .returned (.int .i64 1) ∧ w = w' := by
  have hp0 : (0 : Int) ≤ (p : Int) := by omega
  go_enter Tryd.func28, Tryd.ntmps28
  go_wp2_with fail
  go_ret
  exact ⟨rfl, rfl⟩

set_option maxHeartbeats 400000 in
set_option maxRecDepth 100000 in
theorem sgn_nx (s : ByteArray) (p : Nat) (hp : p < s.size) (hs : s.size ≤ 1500) (w : World) (h2 : p + 2 ≤ s.size) (hle : decide ((p : Int) + 2 ≤ (s.size : Int)) = true) (e0 : ((s.extract p (p + 2)).toList == [61, 61]) = false) (e1 : ((s.extract p (p + 2)).toList == [38, 38]) = false) (e2 : ((s.extract p (p + 2)).toList == [124, 124]) = false) (e3 : ((s.extract p (p + 2)).toList == [62, 61]) = false) (b0 : ((s[p].toNat : Int) == 123) = false) (b1 : ((s[p].toNat : Int) == 125) = false) (b2 : ((s[p].toNat : Int) == 40) = false) (b3 : ((s[p].toNat : Int) == 41) = false) (b4 : ((s[p].toNat : Int) == 59) = false) (b5 : ((s[p].toNat : Int) == 61) = false) (b6 : ((s[p].toNat : Int) == 43) = false) (b7 : ((s[p].toNat : Int) == 45) = false) (b8 : ((s[p].toNat : Int) == 42) = false) (b9 : ((s[p].toNat : Int) == 60) = false) (b10 : ((s[p].toNat : Int) == 33) = false) :
    Calls Tryd.prog 28 #[.string s, .int .i64 (p : Int)] w fun e w' => e = .returned (.int .i64 0) ∧ w = w' := by
  have hp0 : (0 : Int) ≤ (p : Int) := by omega
  go_enter Tryd.func28, Tryd.ntmps28
  go_wp2_with fail
  go_ret
  exact ⟨rfl, rfl⟩

set_option maxHeartbeats 400000 in
set_option maxRecDepth 100000 in
theorem sgn_e0 (s : ByteArray) (p : Nat) (hp : p < s.size) (hs : s.size ≤ 1500) (w : World) (hle : decide ((p : Int) + 2 ≤ (s.size : Int)) = false)  (b0 : ((s[p].toNat : Int) == 123) = true) :
    Calls Tryd.prog 28 #[.string s, .int .i64 (p : Int)] w fun e w' => e = .returned (.int .i64 1) ∧ w = w' := by
  have hp0 : (0 : Int) ≤ (p : Int) := by omega
  go_enter Tryd.func28, Tryd.ntmps28
  go_wp2_with fail
  go_ret
  exact ⟨rfl, rfl⟩

set_option maxHeartbeats 400000 in
set_option maxRecDepth 100000 in
theorem sgn_e1 (s : ByteArray) (p : Nat) (hp : p < s.size) (hs : s.size ≤ 1500) (w : World) (hle : decide ((p : Int) + 2 ≤ (s.size : Int)) = false) (b0 : ((s[p].toNat : Int) == 123) = false) (b1 : ((s[p].toNat : Int) == 125) = true) :
    Calls Tryd.prog 28 #[.string s, .int .i64 (p : Int)] w fun e w' => e = .returned (.int .i64 1) ∧ w = w' := by
  have hp0 : (0 : Int) ≤ (p : Int) := by omega
  go_enter Tryd.func28, Tryd.ntmps28
  go_wp2_with fail
  go_ret
  exact ⟨rfl, rfl⟩

set_option maxHeartbeats 400000 in
set_option maxRecDepth 100000 in
theorem sgn_e2 (s : ByteArray) (p : Nat) (hp : p < s.size) (hs : s.size ≤ 1500) (w : World) (hle : decide ((p : Int) + 2 ≤ (s.size : Int)) = false) (b0 : ((s[p].toNat : Int) == 123) = false) (b1 : ((s[p].toNat : Int) == 125) = false) (b2 : ((s[p].toNat : Int) == 40) = true) :
    Calls Tryd.prog 28 #[.string s, .int .i64 (p : Int)] w fun e w' => e = .returned (.int .i64 1) ∧ w = w' := by
  have hp0 : (0 : Int) ≤ (p : Int) := by omega
  go_enter Tryd.func28, Tryd.ntmps28
  go_wp2_with fail
  go_ret
  exact ⟨rfl, rfl⟩

set_option maxHeartbeats 400000 in
set_option maxRecDepth 100000 in
theorem sgn_e3 (s : ByteArray) (p : Nat) (hp : p < s.size) (hs : s.size ≤ 1500) (w : World) (hle : decide ((p : Int) + 2 ≤ (s.size : Int)) = false) (b0 : ((s[p].toNat : Int) == 123) = false) (b1 : ((s[p].toNat : Int) == 125) = false) (b2 : ((s[p].toNat : Int) == 40) = false) (b3 : ((s[p].toNat : Int) == 41) = true) :
    Calls Tryd.prog 28 #[.string s, .int .i64 (p : Int)] w fun e w' => e = .returned (.int .i64 1) ∧ w = w' := by
  have hp0 : (0 : Int) ≤ (p : Int) := by omega
  go_enter Tryd.func28, Tryd.ntmps28
  go_wp2_with fail
  go_ret
  exact ⟨rfl, rfl⟩

set_option maxHeartbeats 400000 in
set_option maxRecDepth 100000 in
theorem sgn_e4 (s : ByteArray) (p : Nat) (hp : p < s.size) (hs : s.size ≤ 1500) (w : World) (hle : decide ((p : Int) + 2 ≤ (s.size : Int)) = false) (b0 : ((s[p].toNat : Int) == 123) = false) (b1 : ((s[p].toNat : Int) == 125) = false) (b2 : ((s[p].toNat : Int) == 40) = false) (b3 : ((s[p].toNat : Int) == 41) = false) (b4 : ((s[p].toNat : Int) == 59) = true) :
    Calls Tryd.prog 28 #[.string s, .int .i64 (p : Int)] w fun e w' => e = .returned (.int .i64 1) ∧ w = w' := by
  have hp0 : (0 : Int) ≤ (p : Int) := by omega
  go_enter Tryd.func28, Tryd.ntmps28
  go_wp2_with fail
  go_ret
  exact ⟨rfl, rfl⟩

set_option maxHeartbeats 400000 in
set_option maxRecDepth 100000 in
theorem sgn_e5 (s : ByteArray) (p : Nat) (hp : p < s.size) (hs : s.size ≤ 1500) (w : World) (hle : decide ((p : Int) + 2 ≤ (s.size : Int)) = false) (b0 : ((s[p].toNat : Int) == 123) = false) (b1 : ((s[p].toNat : Int) == 125) = false) (b2 : ((s[p].toNat : Int) == 40) = false) (b3 : ((s[p].toNat : Int) == 41) = false) (b4 : ((s[p].toNat : Int) == 59) = false) (b5 : ((s[p].toNat : Int) == 61) = true) :
    Calls Tryd.prog 28 #[.string s, .int .i64 (p : Int)] w fun e w' => e = .returned (.int .i64 1) ∧ w = w' := by
  have hp0 : (0 : Int) ≤ (p : Int) := by omega
  go_enter Tryd.func28, Tryd.ntmps28
  go_wp2_with fail
  go_ret
  exact ⟨rfl, rfl⟩

set_option maxHeartbeats 400000 in
set_option maxRecDepth 100000 in
theorem sgn_e6 (s : ByteArray) (p : Nat) (hp : p < s.size) (hs : s.size ≤ 1500) (w : World) (hle : decide ((p : Int) + 2 ≤ (s.size : Int)) = false) (b0 : ((s[p].toNat : Int) == 123) = false) (b1 : ((s[p].toNat : Int) == 125) = false) (b2 : ((s[p].toNat : Int) == 40) = false) (b3 : ((s[p].toNat : Int) == 41) = false) (b4 : ((s[p].toNat : Int) == 59) = false) (b5 : ((s[p].toNat : Int) == 61) = false) (b6 : ((s[p].toNat : Int) == 43) = true) :
    Calls Tryd.prog 28 #[.string s, .int .i64 (p : Int)] w fun e w' => e = .returned (.int .i64 1) ∧ w = w' := by
  have hp0 : (0 : Int) ≤ (p : Int) := by omega
  go_enter Tryd.func28, Tryd.ntmps28
  go_wp2_with fail
  go_ret
  exact ⟨rfl, rfl⟩

set_option maxHeartbeats 400000 in
set_option maxRecDepth 100000 in
theorem sgn_e7 (s : ByteArray) (p : Nat) (hp : p < s.size) (hs : s.size ≤ 1500) (w : World) (hle : decide ((p : Int) + 2 ≤ (s.size : Int)) = false) (b0 : ((s[p].toNat : Int) == 123) = false) (b1 : ((s[p].toNat : Int) == 125) = false) (b2 : ((s[p].toNat : Int) == 40) = false) (b3 : ((s[p].toNat : Int) == 41) = false) (b4 : ((s[p].toNat : Int) == 59) = false) (b5 : ((s[p].toNat : Int) == 61) = false) (b6 : ((s[p].toNat : Int) == 43) = false) (b7 : ((s[p].toNat : Int) == 45) = true) :
    Calls Tryd.prog 28 #[.string s, .int .i64 (p : Int)] w fun e w' => e = .returned (.int .i64 1) ∧ w = w' := by
  have hp0 : (0 : Int) ≤ (p : Int) := by omega
  go_enter Tryd.func28, Tryd.ntmps28
  go_wp2_with fail
  go_ret
  exact ⟨rfl, rfl⟩

set_option maxHeartbeats 400000 in
set_option maxRecDepth 100000 in
theorem sgn_e8 (s : ByteArray) (p : Nat) (hp : p < s.size) (hs : s.size ≤ 1500) (w : World) (hle : decide ((p : Int) + 2 ≤ (s.size : Int)) = false) (b0 : ((s[p].toNat : Int) == 123) = false) (b1 : ((s[p].toNat : Int) == 125) = false) (b2 : ((s[p].toNat : Int) == 40) = false) (b3 : ((s[p].toNat : Int) == 41) = false) (b4 : ((s[p].toNat : Int) == 59) = false) (b5 : ((s[p].toNat : Int) == 61) = false) (b6 : ((s[p].toNat : Int) == 43) = false) (b7 : ((s[p].toNat : Int) == 45) = false) (b8 : ((s[p].toNat : Int) == 42) = true) :
    Calls Tryd.prog 28 #[.string s, .int .i64 (p : Int)] w fun e w' => e = .returned (.int .i64 1) ∧ w = w' := by
  have hp0 : (0 : Int) ≤ (p : Int) := by omega
  go_enter Tryd.func28, Tryd.ntmps28
  go_wp2_with fail
  go_ret
  exact ⟨rfl, rfl⟩

set_option maxHeartbeats 400000 in
set_option maxRecDepth 100000 in
theorem sgn_e9 (s : ByteArray) (p : Nat) (hp : p < s.size) (hs : s.size ≤ 1500) (w : World) (hle : decide ((p : Int) + 2 ≤ (s.size : Int)) = false) (b0 : ((s[p].toNat : Int) == 123) = false) (b1 : ((s[p].toNat : Int) == 125) = false) (b2 : ((s[p].toNat : Int) == 40) = false) (b3 : ((s[p].toNat : Int) == 41) = false) (b4 : ((s[p].toNat : Int) == 59) = false) (b5 : ((s[p].toNat : Int) == 61) = false) (b6 : ((s[p].toNat : Int) == 43) = false) (b7 : ((s[p].toNat : Int) == 45) = false) (b8 : ((s[p].toNat : Int) == 42) = false) (b9 : ((s[p].toNat : Int) == 60) = true) :
    Calls Tryd.prog 28 #[.string s, .int .i64 (p : Int)] w fun e w' => e = .returned (.int .i64 1) ∧ w = w' := by
  have hp0 : (0 : Int) ≤ (p : Int) := by omega
  go_enter Tryd.func28, Tryd.ntmps28
  go_wp2_with fail
  go_ret
  exact ⟨rfl, rfl⟩

set_option maxHeartbeats 400000 in
set_option maxRecDepth 100000 in
theorem sgn_e10 (s : ByteArray) (p : Nat) (hp : p < s.size) (hs : s.size ≤ 1500) (w : World) (hle : decide ((p : Int) + 2 ≤ (s.size : Int)) = false) (b0 : ((s[p].toNat : Int) == 123) = false) (b1 : ((s[p].toNat : Int) == 125) = false) (b2 : ((s[p].toNat : Int) == 40) = false) (b3 : ((s[p].toNat : Int) == 41) = false) (b4 : ((s[p].toNat : Int) == 59) = false) (b5 : ((s[p].toNat : Int) == 61) = false) (b6 : ((s[p].toNat : Int) == 43) = false) (b7 : ((s[p].toNat : Int) == 45) = false) (b8 : ((s[p].toNat : Int) == 42) = false) (b9 : ((s[p].toNat : Int) == 60) = false) (b10 : ((s[p].toNat : Int) == 33) = true) :
    Calls Tryd.prog 28 #[.string s, .int .i64 (p : Int)] w fun e w' => e = .returned (.int .i64 1) ∧ w = w' := by
  have hp0 : (0 : Int) ≤ (p : Int) := by omega
  go_enter Tryd.func28, Tryd.ntmps28
  go_wp2_with fail
  go_ret
  exact ⟨rfl, rfl⟩

set_option maxHeartbeats 400000 in
set_option maxRecDepth 100000 in
theorem sgn_ex (s : ByteArray) (p : Nat) (hp : p < s.size) (hs : s.size ≤ 1500) (w : World) (hle : decide ((p : Int) + 2 ≤ (s.size : Int)) = false) (b0 : ((s[p].toNat : Int) == 123) = false) (b1 : ((s[p].toNat : Int) == 125) = false) (b2 : ((s[p].toNat : Int) == 40) = false) (b3 : ((s[p].toNat : Int) == 41) = false) (b4 : ((s[p].toNat : Int) == 59) = false) (b5 : ((s[p].toNat : Int) == 61) = false) (b6 : ((s[p].toNat : Int) == 43) = false) (b7 : ((s[p].toNat : Int) == 45) = false) (b8 : ((s[p].toNat : Int) == 42) = false) (b9 : ((s[p].toNat : Int) == 60) = false) (b10 : ((s[p].toNat : Int) == 33) = false) :
    Calls Tryd.prog 28 #[.string s, .int .i64 (p : Int)] w fun e w' => e = .returned (.int .i64 0) ∧ w = w' := by
  have hp0 : (0 : Int) ≤ (p : Int) := by omega
  go_enter Tryd.func28, Tryd.ntmps28
  go_wp2_with fail
  go_ret
  exact ⟨rfl, rfl⟩

theorem sgn_e (s : ByteArray) (p : Nat) (hp : p < s.size) (hs : s.size ≤ 1500) (w : World) (hle : decide ((p : Int) + 2 ≤ (s.size : Int)) = false) :
    Calls Tryd.prog 28 #[.string s, .int .i64 (p : Int)] w fun e w' => e = .returned (.int .i64 (if oneI (s[p].toNat : Int) then 1 else 0)) ∧ w = w' := by
  cases b0 : ((s[p].toNat : Int) == 123) with
  | true =>
    rw [if_pos (by simp [oneI, b0])]
    exact sgn_e0 s p hp hs w hle b0
  | false =>
  cases b1 : ((s[p].toNat : Int) == 125) with
  | true =>
    rw [if_pos (by simp [oneI, b1])]
    exact sgn_e1 s p hp hs w hle b0 b1
  | false =>
  cases b2 : ((s[p].toNat : Int) == 40) with
  | true =>
    rw [if_pos (by simp [oneI, b2])]
    exact sgn_e2 s p hp hs w hle b0 b1 b2
  | false =>
  cases b3 : ((s[p].toNat : Int) == 41) with
  | true =>
    rw [if_pos (by simp [oneI, b3])]
    exact sgn_e3 s p hp hs w hle b0 b1 b2 b3
  | false =>
  cases b4 : ((s[p].toNat : Int) == 59) with
  | true =>
    rw [if_pos (by simp [oneI, b4])]
    exact sgn_e4 s p hp hs w hle b0 b1 b2 b3 b4
  | false =>
  cases b5 : ((s[p].toNat : Int) == 61) with
  | true =>
    rw [if_pos (by simp [oneI, b5])]
    exact sgn_e5 s p hp hs w hle b0 b1 b2 b3 b4 b5
  | false =>
  cases b6 : ((s[p].toNat : Int) == 43) with
  | true =>
    rw [if_pos (by simp [oneI, b6])]
    exact sgn_e6 s p hp hs w hle b0 b1 b2 b3 b4 b5 b6
  | false =>
  cases b7 : ((s[p].toNat : Int) == 45) with
  | true =>
    rw [if_pos (by simp [oneI, b7])]
    exact sgn_e7 s p hp hs w hle b0 b1 b2 b3 b4 b5 b6 b7
  | false =>
  cases b8 : ((s[p].toNat : Int) == 42) with
  | true =>
    rw [if_pos (by simp [oneI, b8])]
    exact sgn_e8 s p hp hs w hle b0 b1 b2 b3 b4 b5 b6 b7 b8
  | false =>
  cases b9 : ((s[p].toNat : Int) == 60) with
  | true =>
    rw [if_pos (by simp [oneI, b9])]
    exact sgn_e9 s p hp hs w hle b0 b1 b2 b3 b4 b5 b6 b7 b8 b9
  | false =>
  cases b10 : ((s[p].toNat : Int) == 33) with
  | true =>
    rw [if_pos (by simp [oneI, b10])]
    exact sgn_e10 s p hp hs w hle b0 b1 b2 b3 b4 b5 b6 b7 b8 b9 b10
  | false =>
  rw [if_neg (by simp only [oneI, b0, b1, b2, b3, b4, b5, b6, b7, b8, b9, b10]; simp)]
  exact sgn_ex s p hp hs w hle b0 b1 b2 b3 b4 b5 b6 b7 b8 b9 b10

theorem sgn_n (s : ByteArray) (p : Nat) (hp : p < s.size) (hs : s.size ≤ 1500) (w : World) (h2 : p + 2 ≤ s.size) (hle : decide ((p : Int) + 2 ≤ (s.size : Int)) = true) (e0 : ((s.extract p (p + 2)).toList == [61, 61]) = false) (e1 : ((s.extract p (p + 2)).toList == [38, 38]) = false) (e2 : ((s.extract p (p + 2)).toList == [124, 124]) = false) (e3 : ((s.extract p (p + 2)).toList == [62, 61]) = false) :
    Calls Tryd.prog 28 #[.string s, .int .i64 (p : Int)] w fun e w' => e = .returned (.int .i64 (if oneI (s[p].toNat : Int) then 1 else 0)) ∧ w = w' := by
  cases b0 : ((s[p].toNat : Int) == 123) with
  | true =>
    rw [if_pos (by simp [oneI, b0])]
    exact sgn_n0 s p hp hs w h2 hle e0 e1 e2 e3 b0
  | false =>
  cases b1 : ((s[p].toNat : Int) == 125) with
  | true =>
    rw [if_pos (by simp [oneI, b1])]
    exact sgn_n1 s p hp hs w h2 hle e0 e1 e2 e3 b0 b1
  | false =>
  cases b2 : ((s[p].toNat : Int) == 40) with
  | true =>
    rw [if_pos (by simp [oneI, b2])]
    exact sgn_n2 s p hp hs w h2 hle e0 e1 e2 e3 b0 b1 b2
  | false =>
  cases b3 : ((s[p].toNat : Int) == 41) with
  | true =>
    rw [if_pos (by simp [oneI, b3])]
    exact sgn_n3 s p hp hs w h2 hle e0 e1 e2 e3 b0 b1 b2 b3
  | false =>
  cases b4 : ((s[p].toNat : Int) == 59) with
  | true =>
    rw [if_pos (by simp [oneI, b4])]
    exact sgn_n4 s p hp hs w h2 hle e0 e1 e2 e3 b0 b1 b2 b3 b4
  | false =>
  cases b5 : ((s[p].toNat : Int) == 61) with
  | true =>
    rw [if_pos (by simp [oneI, b5])]
    exact sgn_n5 s p hp hs w h2 hle e0 e1 e2 e3 b0 b1 b2 b3 b4 b5
  | false =>
  cases b6 : ((s[p].toNat : Int) == 43) with
  | true =>
    rw [if_pos (by simp [oneI, b6])]
    exact sgn_n6 s p hp hs w h2 hle e0 e1 e2 e3 b0 b1 b2 b3 b4 b5 b6
  | false =>
  cases b7 : ((s[p].toNat : Int) == 45) with
  | true =>
    rw [if_pos (by simp [oneI, b7])]
    exact sgn_n7 s p hp hs w h2 hle e0 e1 e2 e3 b0 b1 b2 b3 b4 b5 b6 b7
  | false =>
  cases b8 : ((s[p].toNat : Int) == 42) with
  | true =>
    rw [if_pos (by simp [oneI, b8])]
    exact sgn_n8 s p hp hs w h2 hle e0 e1 e2 e3 b0 b1 b2 b3 b4 b5 b6 b7 b8
  | false =>
  cases b9 : ((s[p].toNat : Int) == 60) with
  | true =>
    rw [if_pos (by simp [oneI, b9])]
    exact sgn_n9 s p hp hs w h2 hle e0 e1 e2 e3 b0 b1 b2 b3 b4 b5 b6 b7 b8 b9
  | false =>
  cases b10 : ((s[p].toNat : Int) == 33) with
  | true =>
    rw [if_pos (by simp [oneI, b10])]
    exact sgn_n10 s p hp hs w h2 hle e0 e1 e2 e3 b0 b1 b2 b3 b4 b5 b6 b7 b8 b9 b10
  | false =>
  rw [if_neg (by simp only [oneI, b0, b1, b2, b3, b4, b5, b6, b7, b8, b9, b10]; simp)]
  exact sgn_nx s p hp hs w h2 hle e0 e1 e2 e3 b0 b1 b2 b3 b4 b5 b6 b7 b8 b9 b10

/-- The length of the operator at p. -/
theorem refsign_any (s : ByteArray) (p : Nat) (hp : p < s.size) (hs : s.size ≤ 1500) (w : World) :
    Calls Tryd.prog 28 #[.string s, .int .i64 (p : Int)] w fun e w' => e = .returned (.int .i64 (LexM.sign ((bl s).drop p) : Int)) ∧ w = w' := by
  have hd := bl_drop s p hp
  by_cases h2 : p + 2 ≤ s.size
  · have hle : decide ((p : Int) + 2 ≤ (s.size : Int)) = true := by simp; omega
    have hd2 := bl_drop s (p + 1) (by omega)
    rw [hd2] at hd
    have HX := ext_two s p _ _ _ hd
    rw [hd]
    cases e0 : ((s.extract p (p + 2)).toList == [61, 61]) with
    | true =>
      rw [sign_two_of (.inl (by rw [← HX]; exact eq_of_beq e0))]
      exact sgn_t0 s p hp hs w h2 hle e0
    | false =>
    cases e1 : ((s.extract p (p + 2)).toList == [38, 38]) with
    | true =>
      rw [sign_two_of (.inr (.inl (by rw [← HX]; exact eq_of_beq e1)))]
      exact sgn_t1 s p hp hs w h2 hle e0 e1
    | false =>
    cases e2 : ((s.extract p (p + 2)).toList == [124, 124]) with
    | true =>
      rw [sign_two_of (.inr (.inr (.inl (by rw [← HX]; exact eq_of_beq e2))))]
      exact sgn_t2 s p hp hs w h2 hle e0 e1 e2
    | false =>
    cases e3 : ((s.extract p (p + 2)).toList == [62, 61]) with
    | true =>
      rw [sign_two_of (.inr (.inr (.inr (by rw [← HX]; exact eq_of_beq e3))))]
      exact sgn_t3 s p hp hs w h2 hle e0 e1 e2 e3
    | false =>
    have hno : LexM.two s[p] s[p + 1] = false := by
      have f0 := beq_eq_false_iff_ne.1 e0
      have f1 := beq_eq_false_iff_ne.1 e1
      have f2 := beq_eq_false_iff_ne.1 e2
      have f3 := beq_eq_false_iff_ne.1 e3
      rw [HX] at f0 f1 f2 f3
      exact no_two_of f0 f1 f2 f3
    rw [sign_no_two hno]
    have h := sgn_n s p hp hs w h2 hle e0 e1 e2 e3
    refine h.mono fun e w' ⟨he, hw⟩ => ⟨he.trans (ret_int ?_), hw⟩
    split <;> rfl
  · have hle : decide ((p : Int) + 2 ≤ (s.size : Int)) = false := by simp; omega
    have hr : (bl s).drop (p + 1) = [] := List.drop_eq_nil_of_le (by rw [bl_len]; omega)
    rw [hd, hr, sign_single]
    have h := sgn_e s p hp hs w hle
    refine h.mono fun e w' ⟨he, hw⟩ => ⟨he.trans (ret_int ?_), hw⟩
    split <;> rfl

theorem head48 {x : ByteArray} (h : 0 < x.size) : LexM.headIs (fun c => c.toNat == 48) (bl x) = (x[0].toNat == 48) := head_at _ h

theorem beq_cast (a b : Nat) : ((a : Int) == (b : Int)) = (a == b) := by
  rw [Bool.eq_iff_iff, beq_iff_eq, beq_iff_eq]
  omega

def nvOf (x : ByteArray) (k : Nat) : Nat := LexM.numVal ((bl x).take k)

/-- A value, or -1 where it is too great. -/
def capV (n : Nat) : Int := if 65535 < n then -1 else (n : Int)

theorem nv_zero (x : ByteArray) : nvOf x 0 = 0 := rfl
theorem nv_all (x : ByteArray) : nvOf x x.size = LexM.numVal (bl x) := by
  unfold nvOf
  rw [List.take_of_length_le (by rw [bl_len]; omega)]
theorem nv_step (x : ByteArray) (k : Nat) (hk : k < x.size) : nvOf x (k + 1) = 10 * nvOf x k + (x[k].toNat - 48) := by
  unfold nvOf
  rw [List.take_succ_eq_append_getElem (by rw [bl_len]; exact hk), LexM.numVal_snoc]
  rfl
theorem nv_lt (x : ByteArray) (hd : LexM.Digits (bl x)) (k : Nat) (hk : k ≤ 5) : nvOf x k < 100000 := by
  have h := LexM.numVal_lt (w := (bl x).take k) fun c hc => hd c (List.mem_of_mem_take hc)
  have h1 : 10 ^ ((bl x).take k).length ≤ 10 ^ 5 := Nat.pow_le_pow_right (by omega) (Nat.le_trans (List.length_take_le _ _) hk)
  unfold nvOf
  omega
theorem digit_at {x : ByteArray} (hd : LexM.Digits (bl x)) (k : Nat) (hk : k < x.size) : 48 ≤ x[k].toNat ∧ x[k].toNat ≤ 57 :=
  LexM.digit_bd (hd _ (List.getElem_mem (by rw [← bl_len] at hk; exact hk)))

set_option maxHeartbeats 400000 in
set_option maxRecDepth 100000 in
theorem refnum_long (x : ByteArray) (hs : x.size ≤ 1500) (h5 : 5 < x.size) (w : World) :
    Calls Tryd.prog 29 #[.string x] w fun e w' => e = .returned (.int .i64 (-1)) ∧ w = w' := by
  have hd5 : decide ((5 : Int) < (x.size : Int)) = true := by simp; omega
  go_enter Tryd.func29, Tryd.ntmps29
  go_wp2_with fail
  go_ret
  exact ⟨rfl, rfl⟩

set_option maxHeartbeats 400000 in
set_option maxRecDepth 100000 in
theorem refnum_zero (x : ByteArray) (h5 : x.size ≤ 5) (h1 : 1 < x.size) (h48 : ((x[0].toNat : Int) == 48) = true) (w : World) :
    Calls Tryd.prog 29 #[.string x] w fun e w' => e = .returned (.int .i64 (-1)) ∧ w = w' := by
  have hd5 : decide ((5 : Int) < (x.size : Int)) = false := by simp; omega
  have hd1 : decide ((1 : Int) < (x.size : Int)) = true := by simp; omega
  have hx0 : (0 : Int) < (x.size : Int) := by omega
  go_enter Tryd.func29, Tryd.ntmps29
  go_wp2_with fail
  go_ret
  exact ⟨rfl, rfl⟩

set_option maxHeartbeats 1000000 in
set_option maxRecDepth 100000 in
theorem refnum_loop (x : ByteArray) (hd : LexM.Digits (bl x)) (h0 : 0 < x.size) (h5 : x.size ≤ 5) (b48 b1 : Bool) (h48 : ((x[0].toNat : Int) == 48) = b48) (h1 : decide ((1 : Int) < (x.size : Int)) = b1) (hb : (b48 && b1) = false) (w : World) :
    Calls Tryd.prog 29 #[.string x] w fun e w' => e = .returned (.int .i64 (capV (LexM.numVal (bl x)))) ∧ w = w' := by
  have hd5 : decide ((5 : Int) < (x.size : Int)) = false := by simp; omega
  have hx0 : (0 : Int) < (x.size : Int) := by omega
  have HD := Lib.hid hd
  clear hd
  cases b48 <;> cases b1 <;> (try cases hb) <;>
  · go_enter Tryd.func29, Tryd.ntmps29
    go_wp2_with fail
    go_loop [3, 4] (fun n i => ∃ k : Nat, k ≤ x.size ∧ i = .int .i64 k ∧ n = .int .i64 (nvOf x k : Int)) (fun _ i => x.size - (intOf i).toNat)
    case atStart => exact ⟨0, by omega, rfl, rfl⟩
    case round =>
      obtain ⟨k, hk, rfl, rfl⟩ := hrel
      by_cases hlt : k < x.size
      · have hn := nv_lt x HD.out k (by omega)
        obtain ⟨g1, g2⟩ := digit_at HD.out k hlt
        have HS := Lib.hid (nv_step x k hlt)
        have hk0 : (0 : Int) ≤ (k : Int) := by omega
        have hk1 : (k : Int) < (x.size : Int) := by omega
        go_wp2_with fail
        go_round
        case rel => exact ⟨k + 1, by omega, by go_num, by rw [HS.out]; go_num⟩
        case measure => simp [intOf]; omega
      · obtain rfl : k = x.size := by omega
        have HN := Lib.hid (nv_all x)
        by_cases h6 : 65535 < nvOf x x.size
        · have h6' : decide ((65535 : Int) < (nvOf x x.size : Int)) = true := by simp; omega
          go_wp2_with fail
          go_ret
          refine ⟨ret_int ?_, rfl⟩
          rw [← HN.out, capV, if_pos h6]
        · have h6' : decide ((65535 : Int) < (nvOf x x.size : Int)) = false := by simp; omega
          go_wp2_with fail
          go_ret
          refine ⟨ret_int ?_, rfl⟩
          rw [← HN.out, capV, if_neg h6]

/-- What the reference reads out of a digit sequence. -/
theorem refnum_any (x : ByteArray) (hd : LexM.Digits (bl x)) (h0 : 0 < x.size) (hs : x.size ≤ 1500) (w : World) :
    Calls Tryd.prog 29 #[.string x] w fun e w' => e = .returned (.int .i64 (LexM.refNum (bl x))) ∧ w = w' := by
  unfold LexM.refNum
  rw [bl_len, head48 h0]
  by_cases h5 : 5 < x.size
  · rw [if_pos (.inl h5)]
    exact refnum_long x hs h5 w
  · cases h48 : (x[0].toNat == 48) with
    | true =>
      have e48 : ((x[0].toNat : Int) == 48) = true := (beq_cast _ 48).trans h48
      by_cases h1 : 1 < x.size
      · rw [if_pos (.inr ⟨rfl, h1⟩)]
        exact refnum_zero x (by omega) h1 e48 w
      · rw [if_neg (by omega)]
        exact refnum_loop x hd h0 (by omega) true false e48 (by simp; omega) rfl w
    | false =>
      have e48 : ((x[0].toNat : Int) == 48) = false := (beq_cast _ 48).trans h48
      rw [if_neg (by rintro (h | ⟨h, _⟩); exact h5 h; cases h)]
      exact refnum_loop x hd h0 (by omega) false _ e48 rfl rfl w

end Go.Proofs.YtnanhebepjdlcaaDoor
