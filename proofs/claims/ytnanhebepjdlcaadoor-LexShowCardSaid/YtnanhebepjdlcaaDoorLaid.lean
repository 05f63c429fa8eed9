/- What a row's list of variables gives the walks; a world that meets it. -/
import Derived.Test.YtnanhebepjdlcaaDoorWalkC
import Derived.Test.YtnanhebepjdlcaaDoorCards
import Derived.Test.YtnanhebepjdlcaaDoorTie
import Derived.ProofKit
import Derived.LaidMore
import Derived.OpenShut
import Derived.Stop.Joined
import Derived.Stop.LaidErr
import Derived.Lib.LaidTab
namespace Go.Proofs.YtnanhebepjdlcaaDoor
open Go.ChangeShapes Go.WideShapes Go.ChangeAt Go.RowKit

theorem own : ownKnob Tryd.prog.godebug = none := by kernel_rfl
theorem gTabType : (Tryd.prog.globals[5]?).map (·.type) = some 110 := by kernel_rfl
theorem gRngType : (Tryd.prog.globals[3]?).map (·.type) = some 61 := by kernel_rfl
theorem cellsTab : Tryd.prog.cellsOf 110 = 20 := by kernel_rfl
theorem cellsU64 : Tryd.prog.cellsOf 93 = 1 := by kernel_rfl
theorem cellsEs : Tryd.prog.cellsOf 108 = 1 := by kernel_rfl
theorem cellsStr : Tryd.prog.cellsOf 9 = 1 := by kernel_rfl
theorem starEs : "*" ++ "errors.errorString" = "*errors.errorString" := by decide
theorem rowEs (u : TypeId) (h : Tryd.prog.typeName? 3 u = some "*errors.errorString") : u = 106 :=
  typeName_ptr_named (nm := "errors.errorString") (by rw [starEs]; kernel_rfl) (by kernel_rfl) (by decide) u (by rw [starEs]; exact h)

theorem gLast : Tryd.prog.globalNamed "math/bits.deBruijn64tab" = some 7 := by kernel_rfl

/-- The list that every row of this seat bears. -/
def laid7 : List (String × DataW Unit) := Rows.lexMatchesRow.laid

theorem tab_eq : (Rows.laid_internal_strconv_uint64pow10 : DataW Unit) = Lib.tabData .u64 Lib.pow10Tab := by kernel_rfl

/-- WHAT THE LIST GIVES. -/
theorem wok_of_laid {W : World} (h : laidMetH Tryd.prog laid7 W) : WOk W := by
  rw [MakeChecks.laidMetH_plain _ _ _ (by kernel_rfl)] at h
  have h2 := h.tail.tail
  have h4 := h2.tail.tail
  have ht : Lib.TabIs Tryd.prog W "internal/strconv.uint64pow10" .u64 Lib.pow10Tab :=
    Lib.tabIs_of_head (rest := [("unicode/utf8.acceptRanges", Rows.laid_unicode_utf8_acceptRanges), ("strconv.ErrRange", Rows.laid_strconv_ErrRange), ("strconv.ErrSyntax", Rows.laid_strconv_ErrSyntax), ("unicode/utf8.first", Rows.laid_unicode_utf8_first)])
      gTab gTabType Tryd.underlying110 Tryd.underlying93 cellsU64 cellsTab (by rw [← tab_eq]; exact h2)
  obtain ⟨a, s, hv, -, -, -⟩ := laid_sentinel h4 gRng gRngType Tryd.underlying61 rowEs Tryd.underlying106 Tryd.underlying108 rfl rfl Tryd.underlying9 cellsEs cellsStr
  refine ⟨ht, ⟨_, _, hv⟩, ?_⟩
  obtain ⟨ps, ⟨g0, t0, cs0, f0, p0, q0, hg0, ht0, hv0, _⟩, _⟩ := h.tail
  obtain rfl := Option.some.inj (gLast.symm.trans hg0)
  unfold World.var? at hv0
  rw [gLast] at hv0
  have hlt : 7 < W.heap.size := by
    rcases Nat.lt_or_ge 7 W.heap.size with hl | hl
    · exact hl
    · simp [Array.getElem?_eq_none hl] at hv0
  omega

/-- A start for the witness: the heap that the door's own run leaves, the pinned table laid in its block. -/
noncomputable def laidWorld (os : Os) : World :=
  { World.doorLaid Tryd.prog 400 os with heap := (World.doorLaid Tryd.prog 400 os).heap.modify 0 fun
      | .cells _ t frozen => .cells (Pinned.utf8FirstZ.map fun (n : Nat) => Value.int .u8 (Int.ofNat n)).toArray t frozen
      | o => o }

theorem laidWorld_met (os : Os) (args : Array Value) : laidMetH Tryd.prog laid7 ((laidWorld os).forCall (fun _ _ => 0) ⟨#[], args, []⟩).memory :=
  laidMetH_of_parts3 (fuel := 8) (laidMet_of_run' 8 (by kernel_rfl) (by kernel_rfl)) (by kernel_rfl) (by kernel_rfl)

end Go.Proofs.YtnanhebepjdlcaaDoor
