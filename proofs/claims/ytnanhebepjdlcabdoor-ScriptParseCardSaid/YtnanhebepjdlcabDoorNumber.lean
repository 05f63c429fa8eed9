/- Decimal numbers: what Atoi and Itoa say of a digit sequence. No program in sight. -/
import Derived.Test.YtnanhebepjdlcabDoorModel
import Derived.Lib.AtoiAll
import Derived.Lib.ItoaNum
namespace ScrM
open Go.Lib

def headIs (p : UInt8 → Bool) : List UInt8 → Bool
  | [] => false
  | c :: _ => p c

theorem headIs_append (p : UInt8 → Bool) {s r : List UInt8} (hs : s ≠ []) : headIs p (s ++ r) = headIs p s := by
  cases s with
  | nil => exact absurd rfl hs
  | cons c s => rfl

def Digits (w : List UInt8) : Prop := ∀ c ∈ w, isDigit c = true

theorem digit_bd {c : UInt8} (h : isDigit c = true) : 48 ≤ c.toNat ∧ c.toNat ≤ 57 := by simpa [isDigit] using h

theorem numVal_snoc (w : List UInt8) (c : UInt8) : numVal (w ++ [c]) = 10 * numVal w + (c.toNat - 48) := by simp [numVal]

theorem ofNat_digit {c : UInt8} (h : isDigit c = true) : UInt8.ofNat (48 + (c.toNat - 48)) = c := by
  have := digit_bd h
  rw [show 48 + (c.toNat - 48) = c.toNat by omega]
  simp

theorem snoc_cases {α : Type} (w : List α) (h : w ≠ []) : ∃ u c, w = u ++ [c] :=
  ⟨w.dropLast, w.getLast h, (List.dropLast_concat_getLast h).symm⟩

theorem numVal_pos : ∀ (n : Nat) (w : List UInt8), w.length = n → Digits w → w ≠ [] → headIs (fun c => c.toNat == 48) w = false → 1 ≤ numVal w
  | 0, w, hl, _, hne, _ => absurd (List.eq_nil_of_length_eq_zero hl) hne
  | n + 1, w, hl, hd, hne, hz => by
    obtain ⟨u, c, rfl⟩ := snoc_cases w hne
    rw [numVal_snoc]
    cases u with
    | nil =>
      simp only [headIs, List.nil_append, beq_eq_false_iff_ne, ne_eq] at hz
      have := digit_bd (hd c (by simp))
      simp [numVal]
      omega
    | cons b u =>
      have := numVal_pos n (b :: u) (by simpa using hl) (fun x hx => hd x (List.mem_append_left _ hx)) (by simp) (by simpa [headIs] using hz)
      omega

theorem dec_of_num : ∀ (n : Nat) (w : List UInt8), w.length = n → Digits w → w ≠ [] → (w.length = 1 ∨ headIs (fun c => c.toNat == 48) w = false) → decDigits (numVal w) = w
  | 0, w, hl, _, hne, _ => absurd (List.eq_nil_of_length_eq_zero hl) hne
  | n + 1, w, hl, hd, hne, hz => by
    obtain ⟨u, c, rfl⟩ := snoc_cases w hne
    have hc := hd c (by simp)
    have hb := digit_bd hc
    rw [numVal_snoc]
    cases u with
    | nil =>
      rw [decDigits, dif_pos (by simp [numVal]; omega)]
      simp [numVal, ofNat_digit hc]
    | cons b u =>
      have hz' : headIs (fun c => c.toNat == 48) (b :: u) = false := by
        rcases hz with hz | hz
        · simp at hz
        · simpa [headIs] using hz
      have hdu : Digits (b :: u) := fun x hx => hd x (List.mem_append_left _ hx)
      have h1 := numVal_pos n (b :: u) (by simpa using hl) hdu (by simp) hz'
      have ih := dec_of_num n (b :: u) (by simpa using hl) hdu (by simp) (.inr hz')
      rw [decDigits, dif_neg (by omega), show (10 * numVal (b :: u) + (c.toNat - 48)) / 10 = numVal (b :: u) by omega, ih,
        show (10 * numVal (b :: u) + (c.toNat - 48)) % 10 = c.toNat - 48 by omega, ofNat_digit hc]

theorem ofNat_toNat {k : Nat} (h : k < 10) : (UInt8.ofNat (48 + k)).toNat = 48 + k := by
  rw [UInt8.toNat_ofNat']
  omega

theorem dec_ne (n : Nat) : decDigits n ≠ [] := by
  rw [decDigits]
  split <;> simp

theorem dec_head : ∀ (m n : Nat), n ≤ m → ((decDigits n).length = 1 ∨ headIs (fun c => c.toNat == 48) (decDigits n) = false) ∧ (1 ≤ n → headIs (fun c => c.toNat == 48) (decDigits n) = false) := by
  intro m
  induction m with
  | zero =>
    intro n hn
    obtain rfl : n = 0 := by omega
    rw [decDigits, dif_pos (by omega)]
    exact ⟨.inl rfl, fun h => by omega⟩
  | succ m ih =>
    intro n hn
    by_cases h10 : n < 10
    · rw [decDigits, dif_pos h10]
      refine ⟨.inl rfl, fun h => ?_⟩
      simp only [headIs, beq_eq_false_iff_ne, ne_eq]
      rw [ofNat_toNat h10]
      omega
    · rw [decDigits, dif_neg h10]
      have := (ih (n / 10) (by omega)).2 (by omega)
      have h2 : headIs (fun c => c.toNat == 48) (decDigits (n / 10) ++ [UInt8.ofNat (48 + n % 10)]) = false := by
        rw [headIs_append _ (dec_ne _)]
        exact this
      exact ⟨.inr h2, fun _ => h2⟩

theorem dec_digits : ∀ (m n : Nat), n ≤ m → Digits (decDigits n) := by
  intro m
  induction m with
  | zero =>
    intro n hn c hc
    obtain rfl : n = 0 := by omega
    rw [decDigits, dif_pos (by omega)] at hc
    simp at hc
    subst hc
    decide
  | succ m ih =>
    intro n hn c hc
    rw [decDigits] at hc
    split at hc
    · rename_i h10
      simp only [List.mem_singleton] at hc
      subst hc
      have := ofNat_toNat h10
      simp only [isDigit, Bool.and_eq_true, decide_eq_true_eq]
      omega
    · rename_i h10
      rcases List.mem_append.1 hc with hc | hc
      · exact ih (n / 10) (by omega) c hc
      · simp only [List.mem_singleton] at hc
        subst hc
        have := ofNat_toNat (k := n % 10) (by omega)
        simp only [isDigit, Bool.and_eq_true, decide_eq_true_eq]
        omega

theorem num_of_dec : ∀ (m n : Nat), n ≤ m → numVal (decDigits n) = n := by
  intro m
  induction m with
  | zero =>
    intro n hn
    obtain rfl : n = 0 := by omega
    rw [decDigits, dif_pos (by omega)]
    rfl
  | succ m ih =>
    intro n hn
    rw [decDigits]
    split
    · rename_i h10
      have := ofNat_toNat h10
      simp only [numVal, List.foldl_cons, List.foldl_nil]
      omega
    · rename_i h10
      rw [numVal_snoc, ih (n / 10) (by omega), ofNat_toNat (by omega)]
      omega

/-- A digit sequence is the numeral of its value if it has no leading zero. -/
theorem dec_eq_iff {w : List UInt8} (hd : Digits w) (hne : w ≠ []) : (decDigits (numVal w) == w) = !(headIs (fun c => c.toNat == 48) w && decide (1 < w.length)) := by
  rw [Bool.eq_iff_iff]
  have hl : 0 < w.length := by
    cases w with
    | nil => exact absurd rfl hne
    | cons _ _ => simp
  constructor
  · intro h
    have h := eq_of_beq h
    have := (dec_head (numVal w) (numVal w) (Nat.le_refl _)).1
    rw [h] at this
    rcases this with h1 | h1
    · simp [h1]
    · simp [h1]
  · intro h
    have : decDigits (numVal w) = w := by
      refine dec_of_num _ w rfl hd hne ?_
      simp at h
      cases hz : headIs (fun c => c.toNat == 48) w with
      | false => exact .inr rfl
      | true => exact .inl (by rw [hz] at h; simp at h; omega)
    rw [this]
    exact beq_self_eq_true w

theorem parse_digits : ∀ (w : List UInt8) (acc : Nat), Digits w → parseUint10 acc w = .range ∨ parseUint10 acc w = .ok (w.foldl (fun n c => 10 * n + (c.toNat - 48)) acc)
  | [], acc, _ => .inr rfl
  | c :: w, acc, hd => by
    have hb := digit_bd (hd c (by simp))
    simp only [parseUint10, if_pos hb]
    split
    · exact .inl rfl
    · split
      · exact .inl rfl
      · have := parse_digits w (acc * 10 + (c.toNat - 48)) fun x hx => hd x (by simp [hx])
        rw [List.foldl_cons, show 10 * acc = acc * 10 by omega]
        exact this

theorem fold_lt : ∀ (w : List UInt8) (acc : Nat), Digits w → w.foldl (fun n c => 10 * n + (c.toNat - 48)) acc < (acc + 1) * 10 ^ w.length
  | [], acc, _ => by simp
  | c :: w, acc, hd => by
    have hb := digit_bd (hd c (by simp))
    have := fold_lt w (10 * acc + (c.toNat - 48)) fun x hx => hd x (by simp [hx])
    rw [List.foldl_cons, List.length_cons, Nat.pow_succ]
    refine Nat.lt_of_lt_of_le this ?_
    rw [Nat.mul_comm (10 ^ w.length) 10, ← Nat.mul_assoc]
    exact Nat.mul_le_mul_right _ (by omega)

theorem numVal_lt {w : List UInt8} (hd : Digits w) : numVal w < 10 ^ w.length := by
  have := fold_lt w 0 hd
  simpa [numVal] using this

theorem parse_small : ∀ (w : List UInt8) (acc : Nat), Digits w → (acc + 1) * 10 ^ w.length ≤ 1000000000000000000 → parseUint10 acc w = .ok (w.foldl (fun n c => 10 * n + (c.toNat - 48)) acc)
  | [], acc, _, _ => rfl
  | c :: w, acc, hd, hb => by
    have hc := digit_bd (hd c (by simp))
    have hp : 0 < 10 ^ w.length := Nat.pow_pos (by omega)
    rw [List.length_cons, Nat.pow_succ, Nat.mul_comm (10 ^ w.length) 10, ← Nat.mul_assoc] at hb
    have h1 : (acc + 1) * 10 ≤ 1000000000000000000 := Nat.le_trans (Nat.le_mul_of_pos_right _ hp) hb
    simp only [parseUint10, if_pos hc]
    rw [if_neg (by omega), if_neg (by omega), parse_small w _ (fun x hx => hd x (by simp [hx])) ?_]
    · rw [List.foldl_cons, show 10 * acc = acc * 10 by omega]
    · exact Nat.le_trans (Nat.mul_le_mul_right _ (by omega)) hb

theorem atoi_digits {w : List UInt8} (hd : Digits w) (hne : w ≠ []) : atoiAll w = .range ∨ atoiAll w = .ok (numVal w : Int) := by
  cases w with
  | nil => exact absurd rfl hne
  | cons c r =>
    have hb := digit_bd (hd c (by simp))
    simp only [atoiAll, if_neg (show ¬ (c.toNat = 43 ∨ c.toNat = 45) by omega), parseMag, if_neg (show ¬ (c :: r = ([] : List UInt8)) by simp), if_neg (show ¬ c.toNat = 45 by omega)]
    rcases parse_digits (c :: r) 0 hd with h | h
    · rw [h]; exact .inl rfl
    · rw [h]
      simp only
      split
      · exact .inl rfl
      · rw [if_neg (by omega)]
        exact .inr rfl

theorem atoi_small {w : List UInt8} (hd : Digits w) (hne : w ≠ []) (hl : w.length ≤ 5) : atoiAll w = .ok (numVal w : Int) := by
  have h5 : 10 ^ w.length ≤ 10 ^ 5 := Nat.pow_le_pow_right (by omega) hl
  have hlt := numVal_lt hd
  cases w with
  | nil => exact absurd rfl hne
  | cons c r =>
    have hb := digit_bd (hd c (by simp))
    have hp := parse_small (c :: r) 0 hd (by omega)
    simp only [atoiAll, if_neg (show ¬ (c.toNat = 43 ∨ c.toNat = 45) by omega), parseMag, if_neg (show ¬ (c :: r = ([] : List UInt8)) by simp), if_neg (show ¬ c.toNat = 45 by omega), hp]
    have he : List.foldl (fun n c => 10 * n + (c.toNat - 48)) 0 (c :: r) = numVal (c :: r) := rfl
    rw [he, if_neg (by omega), if_neg (by omega)]

/-! ### Numbers of a script -/

theorem num_some {most : Nat} {w : List UInt8} {v : Nat} (h : num most w = some v) : Digits w ∧ w ≠ [] ∧ w.length ≤ 5 ∧ decDigits v = w ∧ v ≤ most ∧ v = numVal w := by
  unfold num at h
  split at h
  · rename_i hc
    injection h with h
    subst h
    simp only [canon, Bool.and_eq_true, decide_eq_true_eq, List.all_eq_true, Bool.not_eq_true'] at hc
    obtain ⟨⟨⟨⟨h1, h2⟩, h3⟩, h4⟩, h5⟩ := hc
    have hne : w ≠ [] := by intro e; subst e; simp at h1
    refine ⟨h3, hne, h2, dec_of_num _ w rfl h3 hne ?_, h5, rfl⟩
    by_cases hl : w.length = 1
    · exact .inl hl
    · right
      cases w with
      | nil => exact absurd rfl hne
      | cons c r =>
        have h6 : c = 48 → r = [] := by simpa using h4
        have : (c == 48) = false := by
          rw [beq_eq_false_iff_ne]
          intro e
          exact hl (by rw [h6 e]; rfl)
        show (c.toNat == 48) = false
        rw [beq_eq_false_iff_ne] at this ⊢
        intro e
        exact this (UInt8.toNat_inj.1 e)
  · cases h

theorem num_dec {most n : Nat} (h : n ≤ most) (hm : most ≤ 65535) : num most (decDigits n) = some n := by
  have hd := dec_digits n n (Nat.le_refl _)
  have hne := dec_ne n
  have hv := num_of_dec n n (Nat.le_refl _)
  have hh := (dec_head n n (Nat.le_refl _)).1
  have hl : (decDigits n).length ≤ 5 := by
    rw [decDigits_length]
    rcases Nat.lt_or_ge (nDigits n) 6 with h7 | h7
    · omega
    · exfalso
      obtain ⟨k, hk⟩ : ∃ k, nDigits n = k + 6 := ⟨nDigits n - 6, by omega⟩
      have h1 := nDigits_unique
      have hlow : ∀ m x : Nat, x ≤ m → 10 ≤ x → 10 ^ (nDigits x - 1) ≤ x := by
        intro m
        induction m with
        | zero => intro x h1 h2; omega
        | succ m ih =>
          intro x h1 h2
          rw [nDigits_big (by omega)]
          by_cases h10 : x / 10 < 10
          · rw [nDigits_small h10]
            simpa using h2
          · have := ih (x / 10) (by omega) (by omega)
            have hpos := nDigits_pos (x / 10)
            rw [show nDigits (x / 10) + 1 - 1 = nDigits (x / 10) - 1 + 1 by omega, Nat.pow_succ]
            omega
      have h10 : 10 ≤ n := by
        rcases Nat.lt_or_ge n 10 with h | h
        · rw [nDigits_small h] at hk; omega
        · exact h
      have := hlow n n (Nat.le_refl _) h10
      rw [hk] at this
      have h9 : 10 ^ 5 ≤ 10 ^ (k + 6 - 1) := Nat.pow_le_pow_right (by omega) (by omega)
      omega
  unfold num
  rw [if_pos, hv]
  rw [hv]
  simp only [canon, Bool.and_eq_true, decide_eq_true_eq, List.all_eq_true, Bool.not_eq_true']
  refine ⟨⟨⟨⟨?_, hl⟩, hd⟩, ?_⟩, h⟩
  · cases hx : decDigits n with
    | nil => exact absurd hx hne
    | cons c r => simp
  · rcases hh with hh | hh
    · simp [hh]
    · cases hx : decDigits n with
      | nil => exact absurd hx hne
      | cons c r =>
        rw [hx] at hh
        have : (c.toNat == 48) = false := hh
        have hc : (c == 48) = false := by
          rw [beq_eq_false_iff_ne] at this ⊢
          intro e
          exact this (by rw [e]; rfl)
        simp [hc]

/-- A number's digits can be shown. -/
theorem dec_plain (n : Nat) : Plain (decDigits n) := ⟨dec_ne n, fun c hc => by
  have := digit_bd (dec_digits n n (Nat.le_refl _) c hc)
  constructor
  · simp only [isSep, Bool.or_eq_false_iff, beq_eq_false_iff_ne]
    refine ⟨fun e => ?_, fun e => ?_⟩
    · rw [e] at this; revert this; decide
    · rw [e] at this; revert this; decide
  · intro e
    rw [e] at this; revert this; decide⟩

end ScrM
