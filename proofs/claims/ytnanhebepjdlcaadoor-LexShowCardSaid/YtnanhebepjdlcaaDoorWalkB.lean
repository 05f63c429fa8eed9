/- The longest prefix (lex.prefix) with each of its two predicates; the offset behind the last token (lex.at). -/
import Derived.Test.YtnanhebepjdlcaaDoorWalkA
import Derived.Test.YtnanhebepjdlcaaDoorModelB
import Derived.Lib.Hide
namespace Go.Proofs.YtnanhebepjdlcaaDoor
open Go.RowKit

abbrev bl (s : ByteArray) : List UInt8 := s.data.toList

theorem toNat_lt (c : UInt8) : c.toNat < 256 := c.toNat_lt

theorem wit_byte (c : UInt8) : witB (c.toNat : Int) = LexM.isWithin c := by
  rw [Bool.eq_iff_iff]
  simp [witB, letB, digB, LexM.isWithin, LexM.isLetter, LexM.isDigit]
  omega
theorem dig_byte (c : UInt8) : digB (c.toNat : Int) = LexM.isDigit c := by
  rw [Bool.eq_iff_iff]
  simp [digB, LexM.isDigit]
  omega
theorem let_byte (c : UInt8) : letB (c.toNat : Int) = LexM.isLetter c := by
  rw [Bool.eq_iff_iff]
  simp [letB, LexM.isLetter]
  omega
theorem wit_high {r : Int} (h : 128 ≤ r) : witB r = false := by
  simp [witB, letB, digB]
  omega
theorem dig_high {r : Int} (h : 128 ≤ r) : digB r = false := by
  simp [digB]
  omega

theorem bl_drop (s : ByteArray) (k : Nat) (h : k < s.size) : (bl s).drop k = s[k] :: (bl s).drop (k + 1) := by
  rw [List.drop_eq_getElem_cons (by simpa using h)]
  rfl

theorem span_step {p : UInt8 → Bool} {l : List UInt8} {k : Nat} {c : UInt8} (h : LexM.span p l = k + LexM.span p (l.drop k)) (hd : l.drop k = c :: l.drop (k + 1)) (hp : p c = true) :
    LexM.span p l = k + 1 + LexM.span p (l.drop (k + 1)) := by
  rw [h, hd]
  simp [LexM.span, hp]
  omega
theorem span_stop {p : UInt8 → Bool} {l : List UInt8} {k : Nat} {c : UInt8} (h : LexM.span p l = k + LexM.span p (l.drop k)) (hd : l.drop k = c :: l.drop (k + 1)) (hp : p c = false) :
    LexM.span p l = k := by
  rw [h, hd]
  simp [LexM.span, hp]
theorem span_end {p : UInt8 → Bool} {l : List UInt8} {k : Nat} (h : LexM.span p l = k + LexM.span p (l.drop k)) (hk : l.length ≤ k) : LexM.span p l = k := by
  rw [h, List.drop_eq_nil_of_le hk]
  rfl

set_option maxHeartbeats 400000 in
set_option maxRecDepth 100000 in
theorem prefix_within (s : ByteArray) (w : World) (hs : s.size ≤ maxLen) :
    Calls Tryd.prog 21 #[.string s, .func (.func 22) #[] #[]] w fun e w' => e = .returned (.int .i64 (LexM.span LexM.isWithin (bl s))) ∧ ∃ pos, w' = w.iter s pos := by
  unfold maxLen at hs
  go_enter Tryd.func21, Tryd.ntmps21
  go_wp2
  go_loopw [5] (fun _ w' => ∃ pos : Nat, w' = w.iter s pos ∧ pos ≤ s.size ∧ LexM.span LexM.isWithin (bl s) = pos + LexM.span LexM.isWithin ((bl s).drop pos)) (fun _ w' => s.size - w'.iterPos w.heap.size)
  case atStart => exact ⟨0, rfl, by omega, by simp⟩
  case round =>
    obtain ⟨pos, rfl, hle, hsp⟩ := hrel
    have HS := Lib.hid hsp
    clear hsp
    by_cases hp : pos < s.size
    · have HD := Lib.hid (bl_drop s pos hp)
      by_cases ha : (s[pos]'hp).toNat < 128
      · have hnx : ∀ ty, (Instr.next (.pointer (some ⟨w.heap.size, 0, none⟩)) true ty).run Tryd.prog (w.iter s pos) = _ := fun ty => run_next_ascii w s pos ty hp ha
        go_wp2_with (go_at_call 22; refine (within_any _ _).mono ?_; rintro e w' ⟨rfl, rfl⟩)
        · rename_i hw
          have hw' : LexM.isWithin s[pos] = false := by rw [← wit_byte]; simpa using hw
          go_ret
          exact ⟨ret_int (by rw [span_stop HS.out HD.out hw']), _, rfl⟩
        · rename_i hw
          have hw' : LexM.isWithin s[pos] = true := by rw [← wit_byte]; simpa using hw
          go_roundw
          case rel => exact ⟨pos + 1, rfl, by omega, span_step HS.out HD.out hw'⟩
          case measure =>
            simp
            omega
      · have hh := (decode_high s pos hp (by omega)).1
        have hnx : ∀ ty, (Instr.next (.pointer (some ⟨w.heap.size, 0, none⟩)) true ty).run Tryd.prog (w.iter s pos) = _ := fun ty => run_next_any w s pos ty hp
        have hw : witB ((Utf8.decode s pos).1 : Int) = false := wit_high (by omega)
        have hw' : LexM.isWithin s[pos] = false := by rw [← wit_byte]; exact wit_high (by omega)
        go_wp2_with (go_at_call 22; refine (within_any _ _).mono ?_; rintro e w' ⟨rfl, rfl⟩)
        go_ret
        exact ⟨ret_int (by rw [span_stop HS.out HD.out hw']), _, rfl⟩
    · have hnx : ∀ ty, (Instr.next (.pointer (some ⟨w.heap.size, 0, none⟩)) true ty).run Tryd.prog (w.iter s pos) = _ := fun ty => run_next_end w s pos ty hp
      go_wp2
      go_ret
      have he := span_end HS.out (by simp; omega)
      exact ⟨ret_int (by rw [he]; omega), _, rfl⟩

set_option maxHeartbeats 400000 in
set_option maxRecDepth 100000 in
theorem prefix_digit (s : ByteArray) (w : World) (hs : s.size ≤ maxLen) :
    Calls Tryd.prog 21 #[.string s, .func (.func 23) #[] #[]] w fun e w' => e = .returned (.int .i64 (LexM.span LexM.isDigit (bl s))) ∧ ∃ pos, w' = w.iter s pos := by
  unfold maxLen at hs
  go_enter Tryd.func21, Tryd.ntmps21
  go_wp2
  go_loopw [5] (fun _ w' => ∃ pos : Nat, w' = w.iter s pos ∧ pos ≤ s.size ∧ LexM.span LexM.isDigit (bl s) = pos + LexM.span LexM.isDigit ((bl s).drop pos)) (fun _ w' => s.size - w'.iterPos w.heap.size)
  case atStart => exact ⟨0, rfl, by omega, by simp⟩
  case round =>
    obtain ⟨pos, rfl, hle, hsp⟩ := hrel
    have HS := Lib.hid hsp
    clear hsp
    by_cases hp : pos < s.size
    · have HD := Lib.hid (bl_drop s pos hp)
      by_cases ha : (s[pos]'hp).toNat < 128
      · have hnx : ∀ ty, (Instr.next (.pointer (some ⟨w.heap.size, 0, none⟩)) true ty).run Tryd.prog (w.iter s pos) = _ := fun ty => run_next_ascii w s pos ty hp ha
        go_wp2_with (go_at_call 23; refine (digit_any _ _).mono ?_; rintro e w' ⟨rfl, rfl⟩)
        · rename_i hw
          have hw' : LexM.isDigit s[pos] = false := by rw [← dig_byte]; simpa using hw
          go_ret
          exact ⟨ret_int (by rw [span_stop HS.out HD.out hw']), _, rfl⟩
        · rename_i hw
          have hw' : LexM.isDigit s[pos] = true := by rw [← dig_byte]; simpa using hw
          go_roundw
          case rel => exact ⟨pos + 1, rfl, by omega, span_step HS.out HD.out hw'⟩
          case measure =>
            simp
            omega
      · have hh := (decode_high s pos hp (by omega)).1
        have hnx : ∀ ty, (Instr.next (.pointer (some ⟨w.heap.size, 0, none⟩)) true ty).run Tryd.prog (w.iter s pos) = _ := fun ty => run_next_any w s pos ty hp
        have hw : digB ((Utf8.decode s pos).1 : Int) = false := dig_high (by omega)
        have hw' : LexM.isDigit s[pos] = false := by rw [← dig_byte]; exact dig_high (by omega)
        go_wp2_with (go_at_call 23; refine (digit_any _ _).mono ?_; rintro e w' ⟨rfl, rfl⟩)
        go_ret
        exact ⟨ret_int (by rw [span_stop HS.out HD.out hw']), _, rfl⟩
    · have hnx : ∀ ty, (Instr.next (.pointer (some ⟨w.heap.size, 0, none⟩)) true ty).run Tryd.prog (w.iter s pos) = _ := fun ty => run_next_end w s pos ty hp
      go_wp2
      go_ret
      have he := span_end HS.out (by simp; omega)
      exact ⟨ret_int (by rw [he]; omega), _, rfl⟩

end Go.Proofs.YtnanhebepjdlcaaDoor
