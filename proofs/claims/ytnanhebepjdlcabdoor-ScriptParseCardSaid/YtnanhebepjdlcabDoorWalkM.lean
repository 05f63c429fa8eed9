/- Faults: the walk. -/
import Derived.Test.YtnanhebepjdlcabDoorWalkL
namespace Go.Proofs.YtnanhebepjdlcabDoor
open Go.RowKit

/-- What Faults answers. -/
def FtPost (n : Nat) (cut bytes noise : Int) (w : World) (e : Ending) (w' : World) : Prop :=
  ∃ g, e = .returned (.slice (some ⟨g, 0, none⟩) n n) ∧ g < w'.heap.size ∧ FtRow w' g n n cut bytes noise ∧ Below w.heap.size w w'

set_option maxHeartbeats 2000000 in
set_option maxRecDepth 100000 in
theorem faults_any (cm : ScrM.Cm) (A : Option Addr) (c : Nat) (n : Nat) (hn : n ≤ 65536) (w : World) :
    Calls Tryd.prog 20 #[cmVal cm A c, .int .i64 (n : Int)] w (FtPost n cm.cut cm.bytes cm.noise w) := by
  obtain ⟨op, al, cut, bytes, noise⟩ := cm
  simp only [cmVal, cmCells] at *
  have hb := (Below.refl w.heap.size w).alloc (Nat.le_refl _) (.cells #[.int .i64 op, .slice A al.length c, .int .i64 cut, .int .i64 bytes, .int .i64 noise] 31)
  obtain ⟨i0, hi0, hz0, hz1, hz2⟩ := info_parts ftInfo
  have hwi : ScrM.within (n : Int) 0 65536 = true := by
    unfold ScrM.within
    rw [decide_eq_true (by omega), decide_eq_true (by omega)]
    rfl
  go_enter Tryd.func20, Tryd.ntmps20
  go_wp2_with fail
  refine (within_any (n : Int) 0 65536 _).mono ?_
  rintro e w3 ⟨rfl, rfl⟩
  rw [hwi]
  go_wp2_with (refine wpList_make_full _ rfl _ _ 36 rfl w.heap.size 42 i0 _ 3 Tryd.underlying36 hi0 hz0 hz1 .i64 .i64 _ _ n rfl rfl rfl rfl (by rw [hz2]; omega) (by unfold maxLen; omega) (by simp) ?_; intro w2 hown2 hgrow2)
  have hb2 : Below w.heap.size w w2 := hb.grown hgrow2 (by simp) (fun k hk => nomatch hk)
  have b0 : w2.heap[w.heap.size]? = some (.cells #[.int .i64 op, .slice A al.length c, .int .i64 cut, .int .i64 bytes, .int .i64 noise] 31 (0, 0)) := (hgrow2.block _ (by simp) (by simp)).trans (heap_alloc_new w _)
  have hgs : (w.alloc (.cells #[.int .i64 op, .slice A al.length c, .int .i64 cut, .int .i64 bytes, .int .i64 noise] 31)).heap.size = w.heap.size + 1 := by simp
  rw [hgs] at hown2
  have HF := Lib.hid (FtRow.made hown2 cut bytes noise)
  have HGL := Lib.hid ((hown2.lt _ rfl).2)
  have HB := Lib.hid hb2
  have HB0 := Lib.hid b0
  clear hown2 hgrow2 b0 hb2 hgs hwi hi0 hz0 hz1 hz2
  go_wp2_with fail
  go_loopw [14] (fun i w' => ∃ (k : Nat), k ≤ n ∧ i = .int .i64 k ∧ FtRow w' (w.heap.size + 1) n k cut bytes noise ∧ w.heap.size + 1 < w'.heap.size ∧ Below w.heap.size w w' ∧ w'.heap[w.heap.size]? = some (.cells #[.int .i64 op, .slice A al.length c, .int .i64 cut, .int .i64 bytes, .int .i64 noise] 31 (0, 0))) (fun i _ => n - (intOf i).toNat)
  case atStart => exact ⟨0, by omega, rfl, HF.out, HGL.out, HB.out, HB0.out⟩
  case round =>
    obtain ⟨k, hk, rfl, hf, hgl, hbw, b0⟩ := hrel
    by_cases hlt : k < n
    · have hk63 : (k : Int) < (n : Int) := by omega
      have hk0 : (0 : Int) ≤ (k : Int) := by omega
      have c4 : wr.cell? ⟨w.heap.size, 4, none⟩ = some (.int .i64 noise) := cells_of_blk b0 4
      have c2 : wr.cell? ⟨w.heap.size, 2, none⟩ = some (.int .i64 cut) := cells_of_blk b0 2
      have c3 : wr.cell? ⟨w.heap.size, 3, none⟩ = some (.int .i64 bytes) := cells_of_blk b0 3
      obtain ⟨e0, e1, e2⟩ := hf.cells k hlt
      have ek : decide (k < k) = false := decide_eq_false (by omega)
      rw [ek] at e0 e1 e2
      simp only [Bool.false_and, Bool.false_eq_true, if_false] at e0 e1 e2
      have f0 := hf.thaw (k * 3)
      have f1 := hf.thaw (k * 3 + 1)
      have f2 := hf.thaw (k * 3 + 2)
      have HFR := Lib.hid hf
      have HBW := Lib.hid hbw
      have HBB := Lib.hid b0
      clear hf hbw b0 ek
      cases hq : (k : Int) == cut with
      | false =>
        have HN := Lib.hid (fun b hb => HFR.out.miss hlt hq b hb)
        go_wp2_with fail
        go_roundw
        case rel =>
          refine ⟨k + 1, by omega, by go_num, HN.out _ rfl, by rw [World.size_setCell]; exact hgl, HBW.out.setCell (p := ⟨w.heap.size + 1, k * 3 + 2, none⟩) (by show w.heap.size ≤ w.heap.size + 1; omega) _, ?_⟩
          rw [heap_setCell_other _ _ _ _ (by show w.heap.size ≠ w.heap.size + 1; omega)]
          exact HBB.out
        case measure => simp [intOf]; omega
      | true =>
        have HN := Lib.hid (fun b hb => HFR.out.hit hlt hq b hb)
        go_wp2_with fail
        go_region
        go_wp2_with fail
        go_roundw
        case rel =>
          refine ⟨k + 1, by omega, by go_num, (HN.out _ rfl).drew, ?_, ?_, ?_⟩
          · show _ < (((_ : World).setCell _ _).setCell _ _).heap.size
            rw [World.size_setCell, World.size_setCell, World.size_setCell]; exact hgl
          · exact (((HBW.out.setCell (p := ⟨w.heap.size + 1, k * 3 + 2, none⟩) (by show w.heap.size ≤ w.heap.size + 1; omega) _).setCell (p := ⟨w.heap.size + 1, k * 3, none⟩) (by show w.heap.size ≤ w.heap.size + 1; omega) _).setCell (p := ⟨w.heap.size + 1, k * 3 + 1, none⟩) (by show w.heap.size ≤ w.heap.size + 1; omega) _).drew
          · show (((_ : World).setCell _ _).setCell _ _).heap[_]? = _
            rw [heap_setCell_other _ _ _ _ (by show w.heap.size ≠ w.heap.size + 1; omega), heap_setCell_other _ _ _ _ (by show w.heap.size ≠ w.heap.size + 1; omega), heap_setCell_other _ _ _ _ (by show w.heap.size ≠ w.heap.size + 1; omega)]
            exact HBB.out
        case measure => simp [intOf]; omega
    · obtain rfl : k = n := by omega
      go_wp2_with fail
      go_ret
      exact ⟨w.heap.size + 1, rfl, hgl, hf, hbw⟩

/-- A number of faults beyond the range. -/
theorem faults_out (cm : ScrM.Cm) (A : Option Addr) (c : Nat) (n : Int) (hn : ScrM.within n 0 65536 = false) (w : World) :
    Calls Tryd.prog 20 #[cmVal cm A c, .int .i64 n] w fun e w' => e = .returned (.slice none 0 0) ∧ Below w.heap.size w w' := by
  obtain ⟨op, al, cut, bytes, noise⟩ := cm
  simp only [cmVal, cmCells] at *
  go_enter Tryd.func20, Tryd.ntmps20
  go_wp2_with fail
  refine (within_any n 0 65536 _).mono ?_
  rintro e w3 ⟨rfl, rfl⟩
  rw [hn]
  go_wp2_with fail
  go_ret
  exact ⟨rfl, (Below.refl w.heap.size w).alloc (Nat.le_refl _) _⟩

end Go.Proofs.YtnanhebepjdlcabDoor
