/- names: the walk. -/
import Derived.Test.YtnanhebepjdlcabDoorWalkE
namespace Go.Proofs.YtnanhebepjdlcabDoor
open Go.RowKit
open Go.Maps

set_option maxHeartbeats 1000000 in
set_option maxRecDepth 100000 in
theorem names_any (w : World) (hw : WOk w) :
    Calls Tryd.prog 40 #[] w fun e w' => ∃ B, e = .returned (.map (some B)) ∧ NamesMap B w' ∧ Below w.heap.size w w' := by
  have hmm := @run_makeMap Tryd.prog
  have hld := hw.later ((Below.refl _ _).alloc (Nat.le_refl _) (.map #[] 0))
  have HW := Lib.hid hw
  clear hw
  go_enter Tryd.func40, Tryd.ntmps40
  go_wp2_with (refine wpList_load_mid rfl 60 (.global 0) rfl 0 0 rfl opsL _ (ops_range _ hld) Tryd.underlying60 rfl (by kernel_rfl) ?_)
  go_loopw [6] (fun i w' => ∃ k : Nat, k ≤ 21 ∧ i = .int .i64 k ∧ w'.ownsMap Tryd.prog 9 (plainElem (H := Nat) Tryd.prog 3) w.heap.size k (ScrM.mapD Nat k) ∧ Below w.heap.size w w') (fun i _ => 21 - (intOf i).toNat)
  case atStart => exact ⟨0, by omega, rfl, World.ownsMap_made _ _ _ _, (Below.refl _ _).alloc (Nat.le_refl _) _⟩
  case round =>
    obtain ⟨k, hk, rfl, ho, hb⟩ := hrel
    have HO := Lib.hid ho
    have HB := Lib.hid hb
    have hsz := hb.size
    clear ho hb hld hmm
    by_cases hlt : k < 21
    · have hix := index_ops k hlt wr
      have hne := name_empty k hlt
      have hsm := Lib.hid (nameOf_size k hlt)
      have HD := Lib.hid (show ScrM.mapD Nat (k + 1) = if 1 ≤ k then (ScrM.mapD Nat k).put (.string (ScrM.nameOf k)) (.lit (.int .i64 (k : Int))) else ScrM.mapD Nat k from rfl)
      have HY := Lib.hid (show (strOf (ScrM.nameOf k)).data.toList = ScrM.nameOf k from rfl)
      generalize hy : strOf (ScrM.nameOf k) = y at hix hne hsm HY
      clear hy
      have hk21 : (k : Int) < 21 := by omega
      by_cases h0 : k = 0
      · have he : (y.toList == ([] : List UInt8)) = true := by rw [hne]; exact decide_eq_true h0
        have he' : (y.toList != ([] : List UInt8)) = false := by rw [bne, he]; rfl
        have H0 := Lib.hid h0
        clear hne h0
        go_wp2_with fail
        go_roundw
        case rel => exact ⟨k + 1, by omega, by go_num, by rw [HD.out, if_neg (by have := H0.out; omega)]; exact ((HO.out.alloc _).mono (by omega)), HB.out.alloc hsz _⟩
        case measure => simp [intOf]; omega
      · have he : (y.toList == ([] : List UInt8)) = false := by rw [hne]; exact decide_eq_false h0
        have he' : (y.toList != ([] : List UInt8)) = true := by rw [bne, he]; rfl
        have H0 := Lib.hid h0
        clear hne h0
        go_wp2_with (first | (at_mapUpdate; refine wpList_mapUpdate_own _ rfl _ _ _ 78 rfl 9 3 keyLaw Tryd.underlying78 _ w.heap.size k _ rfl (HO.out.alloc _) (by unfold maxLen; omega) _ _ _ rfl rfl (Go.WideMaps.keyOf_string_mk Tryd.underlying9 hsm.out) _ [] (plainElem_int Tryd.underlying3 (WalkArith.wf_i64 (by omega))) ?_; intro w1 hown1 hgrow1))
        go_wp2_with fail
        go_roundw
        case rel =>
          refine ⟨k + 1, by omega, by go_num, ?_, (HB.out.alloc hsz _).grown hgrow1 (by simp; omega) (fun j hj => by injection hj with hj; omega)⟩
          rw [HD.out, if_pos (by have := H0.out; omega), ← HY.out]
          exact hown1
        case measure => simp [intOf]; omega
    · obtain rfl : k = 21 := by omega
      go_wp2_with fail
      go_ret
      exact ⟨_, rfl, ⟨_, HO.out⟩, HB.out⟩

end Go.Proofs.YtnanhebepjdlcabDoor
