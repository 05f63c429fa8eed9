/- The reference's scan, byte by byte: what holds at a place. No program in sight. -/
import Derived.Test.YtnanhebepjdlcaaDoorModelC
namespace LexM

structure RInv (l : List UInt8) (L : List Tk) (p : Nat) : Prop where
  rest : both (some L) (scan (l.length + 1) p (l.drop p)) = lex l
  le : p ≤ l.length
  cnt : L.length ≤ p

theorem RInv.start (l : List UInt8) : RInv l [] 0 := ⟨by rw [both_nil]; rfl, Nat.zero_le _, Nat.le_refl _⟩

theorem RInv.done {l : List UInt8} {L : List Tk} {p : Nat} (h : RInv l L p) (hp : ¬ p < l.length) : lex l = some L := by
  rw [← h.rest, List.drop_eq_nil_of_le (by omega)]
  simp [scan, skip, span, both]

theorem scan_blank {c : UInt8} (hc : isBlank c = true) (f pos : Nat) (s : List UInt8) : scan (f + 1) pos (c :: s) = scan (f + 1) (pos + 1) s := by
  have h1 : skip (c :: s) = skip s := by simp [skip, span, hc]
  have h2 : span isBlank (c :: s) = span isBlank s + 1 := by simp [span, hc]
  simp only [scan, h1, h2]
  rw [show pos + (span isBlank s + 1) = pos + 1 + span isBlank s by omega]

theorem RInv.blank {l : List UInt8} {L : List Tk} {p : Nat} (h : RInv l L p) {c : UInt8} (hd : l.drop p = c :: l.drop (p + 1)) (hc : isBlank c = true) (hp : p < l.length) : RInv l L (p + 1) := by
  have hr := h.rest
  rw [hd, scan_blank hc] at hr
  exact ⟨hr, by omega, by have := h.cnt; omega⟩

theorem skip_nonblank {l : List UInt8} {p : Nat} {c : UInt8} (hd : l.drop p = c :: l.drop (p + 1)) (hc : isBlank c = false) : skip (l.drop p) = l.drop p ∧ span isBlank (l.drop p) = 0 := by
  rw [hd]
  simp [skip, span, hc]

theorem RInv.fail {l : List UInt8} {L : List Tk} {p : Nat} (h : RInv l L p) {c : UInt8} (hd : l.drop p = c :: l.drop (p + 1)) (hc : isBlank c = false) (ht : tokAt (l.drop p) = none) : lex l = none := by
  obtain ⟨h1, h2⟩ := skip_nonblank hd hc
  have hne : ¬ l.drop p = [] := by rw [hd]; simp
  rw [← h.rest]
  simp only [scan, h1, ht, if_neg hne, both]

theorem RInv.step {l : List UInt8} {L : List Tk} {p : Nat} (h : RInv l L p) {c : UInt8} (hd : l.drop p = c :: l.drop (p + 1)) (hc : isBlank c = false) {k : Nat} {kd n : Int} (ht : tokAt (l.drop p) = some (k, kd, n)) :
    RInv l (L ++ [{ kind := kd, text := (l.drop p).take k, n := n, pos := p }]) (p + k) := by
  obtain ⟨h1, h2⟩ := skip_nonblank hd hc
  have hne : ¬ l.drop p = [] := by rw [hd]; simp
  obtain ⟨h0, hk⟩ := tokAt_pos ht
  have hle := h.le
  have hcn := h.cnt
  rw [List.length_drop] at hk
  refine ⟨?_, by omega, by simp; omega⟩
  rw [← h.rest]
  rw [show scan (l.length + 1) p (l.drop p) = _ from by rw [scan, h1, if_neg hne, ht]]
  simp only [h2, Nat.add_zero, List.drop_drop]
  rw [scan_fuel (l.length + 1) l.length _ _ (by simp; omega) (by simp; omega)]
  cases scan l.length (p + k) (l.drop (p + k)) with
  | none => rfl
  | some m => simp [both]

/-- A digit sequence as the reference reads it: its value, or -1. -/
def refNum (w : List UInt8) : Int :=
  if 5 < w.length ∨ (headIs (fun c => c.toNat == 48) w = true ∧ 1 < w.length) then -1 else if 65535 < numVal w then -1 else (numVal w : Int)

theorem refNum_ok {w r : List UInt8} (h : numOk w r = true) : refNum w = (numVal w : Int) ∧ headIs isWithin r = false := by
  simp only [numOk, Bool.and_eq_true, decide_eq_true_eq, Bool.not_eq_true', Bool.and_eq_false_iff, decide_eq_false_iff_not] at h
  obtain ⟨⟨⟨h1, h2⟩, h3⟩, h4⟩ := h
  refine ⟨?_, h4⟩
  unfold refNum
  rw [if_neg, if_neg (by omega)]
  rintro (h | ⟨ha, hb⟩)
  · omega
  · rcases h2 with h2 | h2
    · rw [ha] at h2; cases h2
    · exact h2 hb

theorem refNum_no {w r : List UInt8} (h : numOk w r = false) (hr : headIs isWithin r = false) : refNum w = -1 := by
  unfold refNum
  by_cases h1 : 5 < w.length ∨ (headIs (fun c => c.toNat == 48) w = true ∧ 1 < w.length)
  · rw [if_pos h1]
  · rw [if_neg h1]
    by_cases h2 : 65535 < numVal w
    · rw [if_pos h2]
    · exfalso
      have : numOk w r = true := by
        simp only [numOk, Bool.and_eq_true, decide_eq_true_eq, Bool.not_eq_true', Bool.and_eq_false_iff, decide_eq_false_iff_not]
        refine ⟨⟨⟨by omega, ?_⟩, by omega⟩, hr⟩
        by_cases h3 : headIs (fun c => c.toNat == 48) w = true
        · exact .inr fun h => h1 (.inr ⟨h3, h⟩)
        · exact .inl (by simpa using h3)
      rw [h] at this
      cases this

theorem numOk_within {w r : List UInt8} (h : headIs isWithin r = true) : numOk w r = false := by
  simp [numOk, h]

theorem sign_other {c : UInt8} {s : List UInt8} (h : c.toNat = 95) : sign (c :: s) = 0 := by
  have h1 : one c = false := by simp [one, h]
  match s with
  | [] => simp [sign, h1]
  | d :: s =>
    have h2 : two c d = false := by simp [two, h]
    simp [sign, h1, h2]

end LexM
