/- The map of names as a datum. No program in sight. -/
import Derived.Maps.Views
import Derived.Test.YtnanhebepjdlcabDoorModelD
namespace ScrM
open Go

/-- The map behind k rounds. -/
def mapD (H : Type) : Nat → DataW H
  | 0 => .map []
  | k + 1 => if 1 ≤ k then (mapD H k).put (.string (nameOf k)) (.lit (.int .i64 (k : Int))) else mapD H k

theorem mapD_isMap (H : Type) : ∀ k, Go.Maps.IsMap (mapD H k)
  | 0 => by simp [mapD, Go.Maps.IsMap]
  | k + 1 => by
    rw [mapD]
    split
    · exact Go.Maps.IsMap.put (mapD_isMap H k) _ _
    · exact mapD_isMap H k

theorem mapD_at (H : Type) (w : List UInt8) : ∀ k, (mapD H k).atKey (.string w) (.lit (.int .i64 0)) = .lit (.int .i64 (mop w k : Int))
  | 0 => rfl
  | k + 1 => by
    rw [mapD, mop]
    by_cases h1 : 1 ≤ k
    · rw [if_pos h1]
      by_cases h2 : nameOf k = w
      · rw [if_pos ⟨h1, h2⟩, h2]
        exact Go.Maps.atKey_put_same (mapD_isMap H k) (show WideAt.IsKeyLit (.string w) from trivial) _ _
      · rw [if_neg (fun hc => h2 hc.2), Go.Maps.atKey_put_other (fun e => h2 (by injection e with e; exact e.symm))]
        exact mapD_at H w k
    · rw [if_neg h1, if_neg (fun hc => h1 hc.1)]
      exact mapD_at H w k

end ScrM
