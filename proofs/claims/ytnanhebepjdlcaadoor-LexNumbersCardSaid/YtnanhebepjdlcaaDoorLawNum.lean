/- bootchainlaw12.LexNumbers: the call returns true at every number. -/
import Derived.Test.YtnanhebepjdlcaaDoorLawTrip
import Derived.Test.YtnanhebepjdlcaaDoorWalkI
import Derived.Laws.BytesString
namespace Go.Proofs.YtnanhebepjdlcaaDoor
open Go.RowKit

/-- The numeral of x as a string. -/
def decS (x : Nat) : ByteArray := ⟨(Lib.decDigits x).toArray⟩

theorem decS_bl (x : Nat) : bl (decS x) = Lib.decDigits x := rfl

/-- The numeral of x less its last k digits, and those digits. -/
def tailS : Nat → Nat → List UInt8
  | 0, _ => []
  | k + 1, x => tailS k (x / 10) ++ [UInt8.ofNat (48 + x % 10)]

theorem tail_step (k x : Nat) : tailS (k + 1) x = UInt8.ofNat (48 + (x / 10 ^ k) % 10) :: tailS k x := by
  induction k generalizing x with
  | zero => simp [tailS]
  | succ k ih =>
    rw [tailS, ih]
    simp only [List.cons_append, tailS]
    rw [Nat.div_div_eq_div_mul, Nat.pow_succ, Nat.mul_comm 10]

theorem tail_all : ∀ (k x : Nat), x / 10 ^ k < 10 → (k = 0 ∨ 1 ≤ x / 10 ^ k) → tailS (k + 1) x = Lib.decDigits x
  | 0, x, h, _ => by
    rw [Nat.pow_zero, Nat.div_one] at h
    rw [Lib.decDigits, dif_pos h]
    simp [tailS, Nat.mod_eq_of_lt h]
  | k + 1, x, h, h1 => by
    have h10 : ¬ x < 10 := by
      intro hx
      rcases h1 with h1 | h1
      · omega
      · have : x / 10 ^ (k + 1) = 0 := by
          refine Nat.div_eq_of_lt (Nat.lt_of_lt_of_le hx ?_)
          rw [Nat.pow_succ]
          have := Nat.pow_pos (n := k) (show 0 < 10 by omega)
          omega
        omega
    rw [Lib.decDigits, dif_neg h10, tailS]
    rw [Nat.pow_succ, Nat.mul_comm, ← Nat.div_div_eq_div_mul] at h h1
    rw [tail_all k (x / 10) h (by
      rcases h1 with h1 | h1
      · omega
      · exact .inr h1)]

theorem conv_one (w : World) (n : Int) : (convert 52 9 (.slice (some ⟨w.heap.size, 0, none⟩) 1 1)).run Tryd.prog (w.alloc (.cells #[.int .u8 n] 5)) = .ok (.string ⟨#[UInt8.ofNat n.toNat]⟩) (w.alloc (.cells #[.int .u8 n] 5)) := by
  rw [run_convert_bytes_string _ _ _ 5 _ _ _ Tryd.underlying52 Tryd.underlying5 Tryd.underlying9, run_bytesToString _ _ _ _ [n]]
  · rfl
  · have hc : (w.alloc (.cells #[.int .u8 n] 5)).cell? ⟨w.heap.size, 0, none⟩ = some (.int .u8 n) := by rw [World.cell?_alloc_at _ _ _ _ rfl]; rfl
    simp [loadCells, go_sem, hc]

def tS (j x : Nat) : ByteArray := ⟨(tailS (j + 1) x).toArray⟩

theorem tS_size (j x : Nat) : (tS j x).size = j + 1 := by
  rw [← bl_len]
  show (tailS (j + 1) x).length = j + 1
  generalize j + 1 = k
  induction k generalizing x with
  | zero => rfl
  | succ k ih => simp [tailS, ih]

theorem tS_zero (x : Nat) : tS 0 x = ⟨#[UInt8.ofNat (48 + x % 10)]⟩ := rfl

theorem tS_step (j x : Nat) : (⟨#[UInt8.ofNat (48 + (x / 10 ^ (j + 1)) % 10)]⟩ : ByteArray) ++ tS j x = tS (j + 1) x := by
  refine bl_mk ?_
  rw [bl_append, tail_step (j + 1) x]
  rfl

theorem tS_step' (j x z : Nat) (h : z = x / 10 ^ (j + 1)) : (⟨#[48 + UInt8.ofNat (z % 10)]⟩ : ByteArray) ++ tS j x = tS (j + 1) x := by
  rw [← tS_step, ← h, UInt8.ofNat_add]
  rfl

theorem toNat48 (y : Nat) : (48 + (y : Int) % 10).toNat = 48 + y % 10 := by omega

set_option maxHeartbeats 1000000 in
set_option maxRecDepth 100000 in
theorem decimal_any (x : Nat) (hx : x < 1000000) (w : World) :
    Calls Tryd.prog 17 #[.int .i64 (x : Int)] w fun e w' => e = .returned (.string (decS x)) ∧ Below w.heap.size w w' := by
  have HCV := fun W n => conv_one W n
  go_enter Tryd.func17, Tryd.ntmps17
  go_wp2_with fail
  go_loopw [0, 3, 4] (fun n s k w' => ∃ j : Nat, j ≤ 5 ∧ Hid (j = 0 ∨ 1 ≤ x / 10 ^ j) ∧ n = .int .i64 ((x / 10 ^ j : Nat) : Int) ∧ k = .int .i64 j ∧ s = .string (tS j x) ∧ Below w.heap.size w w') (fun _ _ k _ => 20 - (intOf k).toNat)
  case atStart => exact ⟨0, by omega, .inl rfl, by simp, rfl, by rw [tS_zero], (Below.refl _ _).alloc (Nat.le_refl _) _⟩
  case round =>
    obtain ⟨j, hj, hpos, rfl, rfl, rfl, hb⟩ := hrel
    obtain ⟨y, hy⟩ : ∃ y, y = x / 10 ^ j := ⟨_, rfl⟩
    rw [← hy] at hpos ⊢
    have hyx : y ≤ x := by rw [hy]; exact Nat.div_le_self _ _
    have hsz := hb.size
    have HB := Lib.hid hb
    have HY := Lib.hid hy
    have hts := tS_size j x
    have htl : (tS j x).size ≤ 6 := by omega
    clear hb hy hts
    have hj20 : decide ((j : Int) < 20) = true := by simp; omega
    by_cases h9 : 9 < y
    · have h9' : decide ((9 : Int) < (y : Int)) = true := by simp; omega
      have hj5 : j + 1 ≤ 5 := by
        have : 10 ^ j * 10 ≤ x := by
          have h1 := Nat.div_mul_le_self x (10 ^ j)
          rw [← HY.out] at h1
          have h2 : 10 * 10 ^ j ≤ y * 10 ^ j := Nat.mul_le_mul_right _ (by omega)
          omega
        rcases Nat.lt_or_ge j 5 with h | h
        · omega
        · have h5 : 10 ^ 5 ≤ 10 ^ j := Nat.pow_le_pow_right (by omega) h
          omega
      have HY1 : Hid (y / 10 = x / 10 ^ (j + 1)) := by
        show y / 10 = x / 10 ^ (j + 1)
        rw [HY.out, Nat.div_div_eq_div_mul, Nat.pow_succ]
      go_wp2_with fail
      go_roundw
      case rel => exact ⟨j + 1, hj5, .inr (by rw [← HY1.out]; omega), by rw [← HY1.out]; rfl, by go_num, by rw [tS_step' j x _ HY1.out], HB.out.trans ((Below.refl _ _).alloc hsz _)⟩
      case measure => simp [intOf]; omega
    · have h9' : decide ((9 : Int) < (y : Int)) = false := by simp; omega
      go_wp2_with fail
      go_ret
      refine ⟨ret_str ?_, HB.out⟩
      show (⟨(tailS (j + 1) x).toArray⟩ : ByteArray) = ⟨(Lib.decDigits x).toArray⟩
      rw [tail_all j x (by rw [← HY.out]; omega) (by rw [← HY.out]; exact hpos.out)]

theorem num_len {x : Nat} (hx : x < 1000000) : (Lib.decDigits x).length ≤ 6 := by
  rcases Nat.lt_or_ge x 10 with h | h
  · rw [Lib.decDigits, dif_pos h]; simp
  · rw [Lib.decDigits_length]
    have h6 := Lib.lt_pow_nDigits x
    rcases Nat.lt_or_ge (Lib.nDigits x) 7 with h7 | h7
    · omega
    · exfalso
      -- the first of seven digits would be at least a million
      have hd := LexM.num_of_dec x x (Nat.le_refl _)
      have hp := LexM.dec_head x x (Nat.le_refl _)
      obtain ⟨k, hk⟩ : ∃ k, Lib.nDigits x = k + 7 := ⟨Lib.nDigits x - 7, by omega⟩
      have hlow : ∀ (m n : Nat), n ≤ m → 10 ≤ n → 10 ^ (Lib.nDigits n - 1) ≤ n := by
        intro m
        induction m with
        | zero => intro n h1 h2; omega
        | succ m ih =>
          intro n h1 h2
          rw [Lib.nDigits_big (by omega)]
          by_cases h10 : n / 10 < 10
          · rw [Lib.nDigits_small h10]
            simpa using h2
          · have := ih (n / 10) (by omega) (by omega)
            have hpos := Lib.nDigits_pos (n / 10)
            rw [show Lib.nDigits (n / 10) + 1 - 1 = Lib.nDigits (n / 10) - 1 + 1 by omega, Nat.pow_succ]
            omega
      have h8 := hlow x x (Nat.le_refl _) h
      rw [hk] at h8
      have h9 : 10 ^ 6 ≤ 10 ^ (k + 7 - 1) := Nat.pow_le_pow_right (by omega) (by omega)
      omega

/-- What the lexer says of the numeral of x. -/
theorem num_tok {x : Nat} (hx : x < 1000000) : LexM.tokens (Lib.decDigits x) = if x < 65536 then ([{ kind := 2, text := Lib.decDigits x, n := (x : Int), pos := 0 }], 0) else ([], 3) := by
  have hd := LexM.dec_digits x x (Nat.le_refl _)
  have hne := LexM.dec_ne x
  have hl := num_len hx
  have hv := LexM.num_of_dec x x (Nat.le_refl _)
  have hh := (LexM.dec_head x x (Nat.le_refl _)).1
  generalize hw : Lib.decDigits x = w at *
  obtain ⟨c, r, rfl⟩ : ∃ c r, w = c :: r := by
    cases w with
    | nil => exact absurd rfl hne
    | cons c r => exact ⟨c, r, rfl⟩
  have hc := LexM.digit_bd (hd c (by simp))
  have hsp : LexM.span LexM.isDigit (c :: r) = (c :: r).length := LexM.span_all _ _ hd
  have hbl : LexM.isBlank c = false := by
    simp only [LexM.isBlank, Bool.or_eq_false_iff, beq_eq_false_iff_ne]
    omega
  have hle : LexM.headIs LexM.isLetter (c :: r) = false := by
    show LexM.isLetter c = false
    simp [LexM.isLetter]
    omega
  have hdg : LexM.headIs LexM.isDigit (c :: r) = true := hd c (by simp)
  have htk := LexM.tok_digit hle hdg
  rw [hsp, List.take_length, List.drop_length] at htk
  have hs0 : LexM.span LexM.isBlank (c :: r) = 0 := by simp [LexM.span, hbl]
  have hsk : LexM.skip (c :: r) = c :: r := by simp [LexM.skip, hs0]
  have hlead : (LexM.headIs (fun c => c.toNat == 48) (c :: r) && decide (1 < (c :: r).length)) = false := by
    rcases hh with h | h
    · simp [h]
    · simp [h]
  by_cases h6 : x < 65536
  · have hok : LexM.numOk (c :: r) [] = true := by
      unfold LexM.numOk
      rw [hlead, hv]
      have h5 : (c :: r).length ≤ 5 := by
        rw [← hw, Lib.decDigits_length]
        rcases Nat.lt_or_ge (Lib.nDigits x) 6 with h7 | h7
        · omega
        · exfalso
          have hu := Lib.nDigits_unique
          rw [← hw, Lib.decDigits_length] at hl
          have h66 : Lib.nDigits x = 6 := by omega
          have h10 : ∀ k, k ≤ 4 → x < 10 ^ (k + 1) → Lib.nDigits x ≤ 5 := by
            intro k
            induction k with
            | zero =>
              intro _ h
              rw [Lib.nDigits_small (by simpa using h)]
              omega
            | succ k ih =>
              intro hk h
              by_cases h2 : x < 10 ^ (k + 1)
              · exact ih (by omega) h2
              · rw [hu (k + 1) x (by omega) h]
                omega
          have := h10 4 (by omega) (by omega)
          omega
      have h5' : decide ((c :: r).length ≤ 5) = true := decide_eq_true h5
      have h6' : decide (x < 65536) = true := decide_eq_true h6
      rw [h5', h6']
      rfl
    rw [if_pos hok] at htk
    rw [if_pos h6]
    refine tokens_of_lex (by omega) ?_
    unfold LexM.lex
    rw [LexM.scan, hsk, if_neg (by simp), htk]
    simp only [List.drop_length, List.take_length, hs0, hv]
    simp [LexM.scan, LexM.skip, LexM.span]
  · have hok : LexM.numOk (c :: r) [] = false := by
      unfold LexM.numOk
      rw [hv]
      simp [h6]
    rw [if_neg (by simp [hok])] at htk
    rw [if_neg h6]
    refine tokens_of_none (by omega) ?_
    unfold LexM.lex
    rw [LexM.scan, hsk, if_neg (by simp), htk]

/-- A zero ahead of a numeral is refused. -/
theorem zero_tok {x : Nat} (hx : x < 1000000) : LexM.tokens (48 :: Lib.decDigits x) = ([], 3) := by
  have hd := LexM.dec_digits x x (Nat.le_refl _)
  have hne := LexM.dec_ne x
  have hl := num_len hx
  generalize Lib.decDigits x = w at *
  have hd' : LexM.Digits (48 :: w) := fun c hc => by
    rcases List.mem_cons.1 hc with rfl | hc
    · decide
    · exact hd c hc
  have hsp : LexM.span LexM.isDigit (48 :: w) = (48 :: w).length := LexM.span_all _ _ hd'
  have htk := LexM.tok_digit (s := 48 :: w) (by rfl) (by rfl)
  rw [hsp, List.take_length, List.drop_length] at htk
  have hwl : 0 < w.length := by
    cases w with
    | nil => exact absurd rfl hne
    | cons _ _ => simp
  have hok : LexM.numOk (48 :: w) [] = false := by
    unfold LexM.numOk
    have : (LexM.headIs (fun c => c.toNat == 48) (48 :: w) && decide (1 < (48 :: w).length)) = true := by
      simp [LexM.headIs]
      omega
    rw [this]
    simp
  rw [if_neg (by simp [hok])] at htk
  have hs0 : LexM.span LexM.isBlank (48 :: w) = 0 := by rfl
  have hsk : LexM.skip (48 :: w) = 48 :: w := by simp [LexM.skip, hs0]
  refine tokens_of_none (by simp; omega) ?_
  unfold LexM.lex
  rw [LexM.scan, hsk, if_neg (by simp), htk]

end Go.Proofs.YtnanhebepjdlcaaDoor
