/- A number as line.number reads it: by Atoi and Itoa. No program in sight. -/
import Derived.Test.YtnanhebepjdlcabDoorModelB
namespace ScrM
open Go.Lib

theorem num_of_fail {most : Nat} {w : List UInt8} (h : ∀ v, atoiAll w ≠ .ok v) : num most w = none := by
  cases hn : num most w with
  | none => rfl
  | some v =>
    obtain ⟨h1, h2, h3, _⟩ := num_some hn
    exact absurd (atoi_small h1 h2 h3) (h _)

theorem itoa_nat (n : Nat) : itoa (n : Int) = decDigits n := by
  unfold itoa
  rw [if_neg (by omega)]
  rfl

theorem num_of_atoi {most : Nat} (hm : most ≤ 65535) {w : List UInt8} {v : Int} (h : atoiAll w = .ok v) : num most w = if itoa v = w ∧ 0 ≤ v ∧ v ≤ (most : Int) then some v.toNat else none := by
  split
  · rename_i hc
    obtain ⟨h1, h2, h3⟩ := hc
    obtain ⟨k, rfl⟩ : ∃ k : Nat, v = (k : Int) := ⟨v.toNat, by omega⟩
    rw [itoa_nat] at h1
    rw [← h1]
    exact num_dec (by omega) hm
  · rename_i hc
    cases hn : num most w with
    | none => rfl
    | some k =>
      obtain ⟨h1, h2, h3, h4, h5, h6⟩ := num_some hn
      have h7 := atoi_small h1 h2 h3
      rw [h] at h7
      injection h7 with h7
      subst h7
      refine absurd ⟨?_, by omega, by omega⟩ hc
      rw [itoa_nat, ← h6]
      exact h4

end ScrM
