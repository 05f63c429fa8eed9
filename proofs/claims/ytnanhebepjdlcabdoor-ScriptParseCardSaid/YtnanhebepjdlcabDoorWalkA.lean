/- The world's facts; the small functions: Arity, within; numbers by the library. -/
import Derived.Test.YtnanhebepjdlcabDoorModelB
import Derived.Test.YtnanhebepjdlcabDoorShelf
import Derived.ProofKit
import Derived.Lib.Hide
import Derived.WalkSmall
import Derived.Lib.AppendIntMem
import Derived.Lib.AtoiErrMem
import Derived.Maps.AppendAt
import Derived.Deep.AppendLies
namespace Go.Proofs.YtnanhebepjdlcabDoor
open Go.RowKit

def bl (s : ByteArray) : List UInt8 := s.data.toList

theorem gTab : Tryd.prog.globalNamed "internal/strconv.uint64pow10" = some 2 := by kernel_rfl
theorem gRng : Tryd.prog.globalNamed "strconv.ErrRange" = some 6 := by kernel_rfl
theorem gSyn : Tryd.prog.globalNamed "strconv.ErrSyntax" = some 5 := by kernel_rfl

theorem ret_bool {a b : Bool} (h : a = b) : Ending.returned (.bool a) = .returned (.bool b) := by rw [h]
theorem ret_int {k : IntKind} {a b : Int} (h : a = b) : Ending.returned (.int k a) = .returned (.int k b) := by rw [h]
theorem ret_str {a b : ByteArray} (h : a = b) : Ending.returned (.string a) = .returned (.string b) := by rw [h]

def strOf (l : List UInt8) : ByteArray := ⟨l.toArray⟩

/-- The world's facts that the walks lean on. -/
structure WOk (w : World) : Prop where
  tab : Lib.TabIs Tryd.prog w "internal/strconv.uint64pow10" .u64 Lib.pow10Tab
  rng : ∃ tp p, w.var? Tryd.prog "strconv.ErrRange" = some #[.iface tp p]
  syn : ∃ tp p, w.var? Tryd.prog "strconv.ErrSyntax" = some #[.iface tp p]
  ops : ∀ i, i < 21 → w.cell? ⟨0, i * 2, none⟩ = some (.string (strOf (ScrM.nameOf i))) ∧ w.cell? ⟨0, i * 2 + 1, none⟩ = some (.int .i64 (ScrM.arityN i : Int))
  max : ∃ m, w.cell? ⟨1, 0, none⟩ = some (.int .i64 m)
  big : 9 ≤ w.heap.size

theorem WOk.below {B : Nat} {w w' : World} (h : WOk w) (hb : Below B w w') (hB : 9 ≤ B) : WOk w' := by
  obtain ⟨tp, p, hr⟩ := h.rng
  obtain ⟨tp2, p2, hs⟩ := h.syn
  obtain ⟨m, hm⟩ := h.max
  refine ⟨var?_below hb gTab (show 2 < B by omega) h.tab, ⟨tp, p, var?_below hb gRng (show 6 < B by omega) hr⟩, ⟨tp2, p2, var?_below hb gSyn (show 5 < B by omega) hs⟩, fun i hi => ?_, ⟨m, (hb.cell (show 1 < B by omega)).trans hm⟩, Nat.le_trans h.big hb.size⟩
  obtain ⟨h1, h2⟩ := h.ops i hi
  exact ⟨(hb.cell (show 0 < B by omega)).trans h1, (hb.cell (show 0 < B by omega)).trans h2⟩
theorem WOk.later {w w' : World} (h : WOk w) (hb : Below w.heap.size w w') : WOk w' := h.below hb h.big

theorem within_any (n a b : Int) (w : World) :
    Calls Tryd.prog 30 #[.int .i64 n, .int .i64 a, .int .i64 b] w fun e w' => e = .returned (.bool (ScrM.within n a b)) ∧ w = w' := by
  by_cases h1 : a ≤ n
  · have h1' : decide (a ≤ n) = true := decide_eq_true h1
    go_enter Tryd.func30, Tryd.ntmps30
    go_wp2_with fail
    go_ret
    refine ⟨ret_bool ?_, rfl⟩
    simp [ScrM.within, h1]
  · have h1' : decide (a ≤ n) = false := decide_eq_false h1
    go_enter Tryd.func30, Tryd.ntmps30
    go_wp2_with fail
    go_ret
    refine ⟨ret_bool ?_, rfl⟩
    rw [ScrM.within, h1']
    rfl

theorem arity_any (op : Int) (w : World) (hw : WOk w) :
    Calls Tryd.prog 15 #[.int .i64 op] w fun e w' => e = .returned (.int .i64 (ScrM.arity op)) ∧ w = w' := by
  have hO := Lib.hid hw.ops
  clear hw
  by_cases h0 : op ≤ 0
  · have h0' : decide (op ≤ 0) = true := decide_eq_true h0
    go_enter Tryd.func15, Tryd.ntmps15
    go_wp2_with fail
    go_ret
    refine ⟨ret_int ?_, rfl⟩
    rw [ScrM.arity, if_neg (by omega)]
  · have h0' : decide (op ≤ 0) = false := decide_eq_false h0
    by_cases h1 : 21 ≤ op
    · have h1' : decide (21 ≤ op) = true := decide_eq_true h1
      go_enter Tryd.func15, Tryd.ntmps15
      go_wp2_with fail
      go_ret
      refine ⟨ret_int ?_, rfl⟩
      rw [ScrM.arity, if_neg (by omega)]
    · have h1' : decide (21 ≤ op) = false := decide_eq_false h1
      obtain ⟨k, rfl⟩ : ∃ k : Nat, op = (k : Int) := ⟨op.toNat, by omega⟩
      obtain ⟨-, hc⟩ := hO.out k (by omega)
      have hk0 : (0 : Int) ≤ (k : Int) := by omega
      have hk1 : (k : Int) < 21 := by omega
      have hk2 : k < 21 := by omega
      go_enter Tryd.func15, Tryd.ntmps15
      go_wp2_with fail
      go_ret
      refine ⟨ret_int ?_, rfl⟩
      rw [ScrM.arity, if_pos (by omega)]
      rfl

end Go.Proofs.YtnanhebepjdlcabDoor
