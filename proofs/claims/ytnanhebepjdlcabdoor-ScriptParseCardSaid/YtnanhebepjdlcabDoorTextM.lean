/- Text's words and lines: lengths, steps. No program in sight. -/
import Derived.Test.YtnanhebepjdlcabDoorModelC
import Derived.Lib.Join
namespace ScrM
open Go.Lib

theorem dec_len {n : Int} (h0 : 0 ≤ n) (h1 : n ≤ 65535) : (dec n).length ≤ 5 := by
  have h : num 65535 (dec n) = some n.toNat := num_dec (by omega) (by omega)
  unfold num at h
  split at h
  · rename_i hc
    simp only [canon, Bool.and_eq_true, decide_eq_true_eq] at hc
    exact hc.1.1.1.2
  · cases h

theorem name_len : ∀ i, i ≤ 20 → (nameOf i).length ≤ 7 := by
  have h : ((List.range 21).all fun i => decide ((nameOf i).length ≤ 7)) = true := by decide
  intro i hi
  exact of_decide_eq_true (List.all_eq_true.1 h i (by simp; omega))

theorem words_small {c : Cm} (h : valid c = true) : (wordsOf c).length ≤ 9 ∧ ∀ w ∈ wordsOf c, w.length ≤ 7 := by
  obtain ⟨h1, h2, h3, h4, h5, h6, h7, h8, h9, h10, h11⟩ := valid_iff h
  have ha : arityN c.op.toNat ≤ 3 := by
    have hall : ((List.range 21).all fun i => decide (arityN i ≤ 3)) = true := by decide
    exact of_decide_eq_true (List.all_eq_true.1 hall c.op.toNat (by simp; omega))
  refine ⟨?_, fun w hw => ?_⟩
  · simp only [wordsOf, List.length_cons, List.length_append, List.length_map]
    split <;> split <;> simp <;> omega
  · simp only [wordsOf, List.mem_cons, List.mem_append, List.mem_map] at hw
    rcases hw with rfl | ⟨n, hn, rfl⟩ | hw | hw
    · exact name_len _ (by omega)
    · have := h4 n hn
      have := dec_len this.1 this.2
      omega
    · split at hw
      · simp only [List.mem_cons, List.not_mem_nil, or_false] at hw
        rcases hw with rfl | rfl | rfl
        · decide
        · have := dec_len (n := c.cut) (by omega) (by omega); omega
        · have := dec_len (n := c.bytes) (by omega) (by omega); omega
      · simp at hw
    · split at hw
      · simp only [List.mem_cons, List.not_mem_nil, or_false] at hw
        rcases hw with rfl | rfl
        · decide
        · have := dec_len (n := c.noise) (by omega) (by omega); omega
      · simp at hw

theorem joinSp_len : ∀ (l : List (List UInt8)) (m : Nat), (∀ x ∈ l, x.length ≤ m) → (joinSp l).length ≤ (m + 1) * l.length
  | [], m, _ => by simp [joinSp]
  | [x], m, h => by have := h x (by simp); simp [joinSp]; omega
  | x :: y :: r, m, h => by
    have h1 := h x (by simp)
    have ih := joinSp_len (y :: r) m fun z hz => h z (by simp [List.mem_cons] at hz ⊢; exact .inr hz)
    simp only [joinSp, List.length_append, List.length_cons] at ih ⊢
    rw [Nat.mul_add (m + 1) (r.length + 1) 1]
    omega

theorem line_len {c : Cm} (h : valid c = true) : (lineOf c).length ≤ 80 := by
  obtain ⟨h1, h2⟩ := words_small h
  have := joinSp_len (wordsOf c) 7 h2
  unfold lineOf
  omega

theorem textL_append (a b : List Cm) : textL (a ++ b) = textL a ++ textL b := by simp [textL]

theorem textL_one (c : Cm) : textL [c] = lineOf c ++ [10] := by simp [textL]

theorem textL_len : ∀ (l : List Cm), (∀ c ∈ l, valid c = true) → (textL l).length ≤ 81 * l.length
  | [], _ => by simp [textL]
  | c :: l, h => by
    have h1 := line_len (h c (by simp))
    have ih := textL_len l fun x hx => h x (by simp [hx])
    rw [show c :: l = [c] ++ l from rfl, textL_append, textL_one]
    simp
    omega

theorem join_sp : ∀ l : List (List UInt8), join l [32] = joinSp l
  | [] => rfl
  | [x] => join_one x _
  | x :: y :: r => by
    have ih := join_sp (y :: r)
    rw [join_cons] at ih ⊢
    simp only [joinSp, ← ih]
    simp [joinTail]

end ScrM
