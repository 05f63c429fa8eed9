/- names: the map of the operations' names. -/
import Derived.Test.YtnanhebepjdlcabDoorWalkA
import Derived.Test.YtnanhebepjdlcabDoorMap
import Derived.Deep.MidRow
import Derived.Maps.OwnOps
namespace Go.Proofs.YtnanhebepjdlcabDoor
open Go.RowKit
open Go.Maps

def opPair (i : Nat) : List Value := [.string (strOf (ScrM.nameOf i)), .int .i64 (ScrM.arityN i : Int)]
def opsL : List Value := (List.range 21).flatMap opPair
def opsV : Array Value := opsL.toArray

theorem index_ops (i : Nat) (hi : i < 21) (w : World) : (Instr.index 60 (.agg opsL.toArray) (.int .i64 (i : Int))).run Tryd.prog w = .ok (.agg #[.string (strOf (ScrM.nameOf i)), .int .i64 (ScrM.arityN i : Int)]) w := by
  have hc : i = 0 ∨ i = 1 ∨ i = 2 ∨ i = 3 ∨ i = 4 ∨ i = 5 ∨ i = 6 ∨ i = 7 ∨ i = 8 ∨ i = 9 ∨ i = 10 ∨ i = 11 ∨ i = 12 ∨ i = 13 ∨ i = 14 ∨ i = 15 ∨ i = 16 ∨ i = 17 ∨ i = 18 ∨ i = 19 ∨ i = 20 := by omega
  rcases hc with rfl | rfl | rfl | rfl | rfl | rfl | rfl | rfl | rfl | rfl | rfl | rfl | rfl | rfl | rfl | rfl | rfl | rfl | rfl | rfl | rfl <;> (show _ = _; kernel_rfl)

theorem opsL_at : ∀ j, j < 42 → ∃ i, i < 21 ∧ ((j = i * 2 ∧ opsL[j]? = some (.string (strOf (ScrM.nameOf i)))) ∨ (j = i * 2 + 1 ∧ opsL[j]? = some (.int .i64 (ScrM.arityN i : Int)))) := by
  intro j hj
  have h : ∀ (i : Nat), i < 21 → opsL[i * 2]? = some (.string (strOf (ScrM.nameOf i))) ∧ opsL[i * 2 + 1]? = some (.int .i64 (ScrM.arityN i : Int)) := by
    intro i hi
    have hc : i = 0 ∨ i = 1 ∨ i = 2 ∨ i = 3 ∨ i = 4 ∨ i = 5 ∨ i = 6 ∨ i = 7 ∨ i = 8 ∨ i = 9 ∨ i = 10 ∨ i = 11 ∨ i = 12 ∨ i = 13 ∨ i = 14 ∨ i = 15 ∨ i = 16 ∨ i = 17 ∨ i = 18 ∨ i = 19 ∨ i = 20 := by omega
    rcases hc with rfl | rfl | rfl | rfl | rfl | rfl | rfl | rfl | rfl | rfl | rfl | rfl | rfl | rfl | rfl | rfl | rfl | rfl | rfl | rfl | rfl <;> exact ⟨rfl, rfl⟩
  have hj2 : j / 2 < 21 := by omega
  obtain ⟨h1, h2⟩ := h (j / 2) hj2
  refine ⟨j / 2, hj2, ?_⟩
  by_cases hm : j % 2 = 0
  · have e : j = j / 2 * 2 := by omega
    exact .inl ⟨e, by rw [← e] at h1; exact h1⟩
  · have e : j = j / 2 * 2 + 1 := by omega
    exact .inr ⟨e, by rw [← e] at h2; exact h2⟩

theorem ops_range (w : World) (hw : WOk w) : w.rangeAt 0 0 opsL := by
  intro j v hv
  have hl : opsL.length = 42 := by rfl
  have hj : j < 42 := by
    have := (List.getElem?_eq_some_iff.1 hv).1
    omega
  obtain ⟨i, hi, h⟩ := opsL_at j hj
  obtain ⟨c1, c2⟩ := hw.ops i hi
  rcases h with ⟨rfl, h⟩ | ⟨rfl, h⟩
  · rw [h] at hv
    injection hv with hv
    subst hv
    rw [Nat.zero_add]; exact c1
  · rw [h] at hv
    injection hv with hv
    subst hv
    rw [Nat.zero_add]; exact c2

theorem load_ops (w : World) (hw : WOk w) : (Instr.loadAt 60 (.pointer (some ⟨0, 0, none⟩))).run Tryd.prog w = .ok (.agg opsV) w :=
  run_loadAt_mid w _ 0 _ opsL _ (ops_range w hw) Tryd.underlying60 rfl (by kernel_rfl)

theorem keyLaw : Keyed Tryd.prog 9 := string_keyed Tryd.underlying9
theorem zeroInt (w : World) : (zeroValue 3).run Tryd.prog w = .ok (.int .i64 0) w := by kernel_rfl

/-- What the map answers. -/
def NamesMap (B : Nat) (w : World) : Prop := ∃ n, w.ownsMap Tryd.prog 9 (plainElem (H := Nat) Tryd.prog 3) B n (ScrM.mapD Nat 21)

set_option maxRecDepth 100000 in
theorem nameOf_size : ∀ i, i < 21 → (strOf (ScrM.nameOf i)).size ≤ maxLen := by
  intro i hi
  have h2 : (ScrM.nameOf i).length ≤ 100 := by
    have h : ((List.range 21).all fun i => decide ((ScrM.nameOf i).length ≤ 100)) = true := by kernel_rfl
    exact of_decide_eq_true (List.all_eq_true.1 h i (by simpa using hi))
  have h3 : (strOf (ScrM.nameOf i)).size = (ScrM.nameOf i).length := rfl
  unfold maxLen
  omega

theorem name_empty : ∀ i, i < 21 → ((strOf (ScrM.nameOf i)).toList == ([] : List UInt8)) = decide (i = 0) := by
  intro i hi
  have hc : i = 0 ∨ i = 1 ∨ i = 2 ∨ i = 3 ∨ i = 4 ∨ i = 5 ∨ i = 6 ∨ i = 7 ∨ i = 8 ∨ i = 9 ∨ i = 10 ∨ i = 11 ∨ i = 12 ∨ i = 13 ∨ i = 14 ∨ i = 15 ∨ i = 16 ∨ i = 17 ∨ i = 18 ∨ i = 19 ∨ i = 20 := by omega
  rcases hc with rfl | rfl | rfl | rfl | rfl | rfl | rfl | rfl | rfl | rfl | rfl | rfl | rfl | rfl | rfl | rfl | rfl | rfl | rfl | rfl | rfl <;> (show _ = _; kernel_rfl)

theorem NamesMap.lookup {B : Nat} {w w' : World} (h : NamesMap B w) (hb : Below w.heap.size w w') (x : ByteArray) (hx : x.size ≤ maxLen) :
    (Instr.lookup 78 (.map (some B)) (.string x) false).run Tryd.prog w' = .ok (.int .i64 (ScrM.opOf (bl x) : Int)) w' := by
  obtain ⟨n, ho⟩ := h
  have ho' : w'.ownsMap Tryd.prog 9 (plainElem (H := Nat) Tryd.prog 3) B n (ScrM.mapD Nat 21) := by
    have hlt := ho.lt
    obtain ⟨es, clock, h1, h2, h3, h4⟩ := ho
    exact ⟨es, clock, (hb.block B hlt).trans h1, h2, h3, h4⟩
  obtain ⟨c, h1, h2, _⟩ := ho'.lookup_int keyLaw Tryd.underlying78 Tryd.underlying3 (zeroInt _) (Go.WideMaps.keyOf_string_mk Tryd.underlying9 hx)
  rw [show x.data.toList = bl x from rfl, ScrM.mapD_at, ScrM.mop_all] at h2
  have h3 : ((ScrM.opOf (bl x) : Nat) : Int) = c := (Lit.int.inj (DataW.lit.inj h2)).2
  rw [h3]
  exact h1

end Go.Proofs.YtnanhebepjdlcabDoor
