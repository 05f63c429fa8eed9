/- strconv.Atoi at any bytes; Itoa. -/
import Derived.Test.YtnanhebepjdlcabDoorWalkA
namespace Go.Proofs.YtnanhebepjdlcabDoor
open Go.RowKit

theorem atoi_ok (s : ByteArray) (v : Int) (h : Lib.atoiAll (bl s) = .ok v) (hs : s.size ≤ 281474976710656) (w : World) :
    Calls Tryd.prog 50 #[.string s] w fun e w' => e = .returned (.tuple #[.int .i64 v, .nilIface]) ∧ Below w.heap.size w w' := by
  refine (Tryd.strconv_Atoi_ok s (by omega) v h w).mono ?_
  rintro e w' ⟨rfl, hw⟩
  refine ⟨rfl, ?_⟩
  rcases hw with rfl | ⟨t, rfl⟩
  · exact Below.refl _ _
  · exact Lib.bytesWorld_below _ _ _

theorem itoa_any (n : Int) (h0 : -9223372036854775808 ≤ n) (h1 : n ≤ 9223372036854775807) (w : World) (hw : WOk w) :
    Calls Tryd.prog 32 #[.int .i64 n] w fun e w' => e = .returned (.string ⟨(Lib.itoa n).toArray⟩) ∧ Below w.heap.size w w' := by
  refine (Tryd.strconv_Itoa n h0 h1 w hw.tab).mono ?_
  rintro e w' ⟨rfl, k, os, rfl⟩
  exact ⟨rfl, Lib.below_grow _ _ (Nat.le_refl _) _ _⟩

/-- Atoi at any bytes: a number, or an error that is not nil. -/
theorem atoi_any (s : ByteArray) (hs : s.size ≤ 281474976710656) (w : World) (hw : WOk w) :
    Calls Tryd.prog 50 #[.string s] w fun e w' => Below w.heap.size w w' ∧
      ((∃ v, e = .returned (.tuple #[.int .i64 v, .nilIface]) ∧ Lib.atoiAll (bl s) = .ok v) ∨
       (∃ n N, e = .returned (.tuple #[.int .i64 n, .iface 105 (.pointer (some ⟨N, 0, none⟩))]) ∧ ∀ v, Lib.atoiAll (bl s) ≠ .ok v)) := by
  obtain ⟨tp, p, hr⟩ := hw.rng
  obtain ⟨tp2, p2, hy⟩ := hw.syn
  cases hx : Lib.atoiAll (bl s)
  · rename_i v
    exact (atoi_ok s v hx hs w).mono fun e w' ⟨he, hb⟩ => ⟨hb, .inl ⟨v, he, rfl⟩⟩
  · exact (Any.strconv_Atoi_syntax_var Tryd.laysC172 s hs hx tp2 p2 w hy).mono fun e w' ⟨N, he, _, _, hb⟩ => ⟨hb, .inr ⟨_, N, he, fun v h => by cases h⟩⟩
  · exact (Tryd.strconv_Atoi_range_var s hs hx tp p w hr).mono fun e w' ⟨N, he, _, _, hb⟩ => ⟨hb, .inr ⟨_, N, he, fun v h => by cases h⟩⟩

end Go.Proofs.YtnanhebepjdlcabDoor
