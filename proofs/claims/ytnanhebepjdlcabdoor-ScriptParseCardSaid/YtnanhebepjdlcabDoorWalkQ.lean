/- The reference's Command and Same, where both are alike. -/
import Derived.Test.YtnanhebepjdlcabDoorReads
import Derived.Deep.QuietTactic
import Derived.BigQuiet
import Derived.StillTailTactics
namespace Go.Proofs.YtnanhebepjdlcabDoor
open Go.RowKit

theorem two_second (w : World) (o o' : Obj) : ((w.alloc o).alloc o').heap[w.heap.size + 1]? = some o' := by
  have h := heap_alloc_new (w.alloc o) o'
  have e : (w.alloc o).heap.size = w.heap.size + 1 := by simp
  rw [e] at h
  exact h

theorem two_first (w : World) (o o' : Obj) : ((w.alloc o).alloc o').heap[w.heap.size]? = some o := by
  rw [Below.heap_alloc _ _ _ (by simp)]
  exact heap_alloc_new w o

set_option maxHeartbeats 2000000 in
set_option maxRecDepth 100000 in
theorem refcommand_yes (cm : ScrM.Cm) (A A' : Option Addr) (c c' : Nat) (w : World) (h : ArgsAt w w.heap.size A c cm.args) (h' : ArgsAt w w.heap.size A' c' cm.args) (hl : cm.args.length ≤ 100000) :
    Calls Tryd.prog 29 #[cmVal cm A c, cmVal cm A' c'] w fun e w' => e = .returned (.bool true) ∧ Below w.heap.size w w' := by
  have HA := Lib.hid h
  have HA' := Lib.hid h'
  clear h h'
  obtain ⟨op, al, cut, bytes, noise⟩ := cm
  simp only [cmVal, cmCells] at *
  have hb := ((Below.refl w.heap.size w).alloc (Nat.le_refl _) (.cells #[.int .i64 op, .slice A al.length c, .int .i64 cut, .int .i64 bytes, .int .i64 noise] 31)).alloc (by simp) (.cells #[.int .i64 op, .slice A' al.length c', .int .i64 cut, .int .i64 bytes, .int .i64 noise] 31)
  have HB := Lib.hid hb
  clear hb
  go_enter Tryd.func29, Tryd.ntmps29
  go_wp2_with fail
  have q0 := two_first w (.cells #[.int .i64 op, .slice A al.length c, .int .i64 cut, .int .i64 bytes, .int .i64 noise] 31) (.cells #[.int .i64 op, .slice A' al.length c', .int .i64 cut, .int .i64 bytes, .int .i64 noise] 31)
  have q1 := two_second w (.cells #[.int .i64 op, .slice A al.length c, .int .i64 cut, .int .i64 bytes, .int .i64 noise] 31) (.cells #[.int .i64 op, .slice A' al.length c', .int .i64 cut, .int .i64 bytes, .int .i64 noise] 31)
  generalize (w.alloc (.cells #[.int .i64 op, .slice A al.length c, .int .i64 cut, .int .i64 bytes, .int .i64 noise] 31)).alloc (.cells #[.int .i64 op, .slice A' al.length c', .int .i64 cut, .int .i64 bytes, .int .i64 noise] 31) = W0 at HB q0 q1 ⊢
  have a0 : W0.cell? ⟨w.heap.size, 0, none⟩ = some (.int .i64 op) := cells_of_blk q0 0
  have a1 : W0.cell? ⟨w.heap.size, 1, none⟩ = some (.slice A al.length c) := cells_of_blk q0 1
  have a2 : W0.cell? ⟨w.heap.size, 2, none⟩ = some (.int .i64 cut) := cells_of_blk q0 2
  have a3 : W0.cell? ⟨w.heap.size, 3, none⟩ = some (.int .i64 bytes) := cells_of_blk q0 3
  have a4 : W0.cell? ⟨w.heap.size, 4, none⟩ = some (.int .i64 noise) := cells_of_blk q0 4
  have b0 : W0.cell? ⟨w.heap.size + 1, 0, none⟩ = some (.int .i64 op) := cells_of_blk q1 0
  have b1 : W0.cell? ⟨w.heap.size + 1, 1, none⟩ = some (.slice A' al.length c') := cells_of_blk q1 1
  have b2 : W0.cell? ⟨w.heap.size + 1, 2, none⟩ = some (.int .i64 cut) := cells_of_blk q1 2
  have b3 : W0.cell? ⟨w.heap.size + 1, 3, none⟩ = some (.int .i64 bytes) := cells_of_blk q1 3
  have b4 : W0.cell? ⟨w.heap.size + 1, 4, none⟩ = some (.int .i64 noise) := cells_of_blk q1 4
  clear q0 q1
  go_loopw [5] (fun i w' => ∃ k m : Nat, k ≤ al.length ∧ i = .int .i64 k ∧ w' = W0.drewN m) (fun i _ => al.length - (intOf i).toNat)
  case atStart => exact ⟨0, 0, by omega, rfl, rfl⟩
  case round =>
    obtain ⟨k, m, hk, rfl, rfl⟩ := hrel
    by_cases hlt : k < al.length
    · obtain ⟨g, o, rfl, hg, hc⟩ := HA.out.2 (by intro e; rw [e] at hlt; simp at hlt)
      obtain ⟨g', o', rfl, hg', hc'⟩ := HA'.out.2 (by intro e; rw [e] at hlt; simp at hlt)
      have h1 := (HB.out.cell (p := ⟨g, o + k, none⟩) hg).trans (hc k hlt)
      have h2 := (HB.out.cell (p := ⟨g', o' + k, none⟩) hg').trans (hc' k hlt)
      clear hc hc'
      generalize al[k] = n at h1 h2
      have hk0 : (0 : Int) ≤ (k : Int) := by omega
      have hk63 : (k : Int) < (al.length : Int) := by omega
      go_wp2_with fail
      go_quiet (fail)
      go_wp2_with fail
      go_roundw
      case rel => exact ⟨k + 1, m + nq, by omega, by go_num, rfl⟩
      case measure => simp [intOf]; omega
    · obtain rfl : k = al.length := by omega
      go_wp2_with fail
      go_ret
      exact ⟨rfl, below_drewN HB.out m⟩

set_option maxHeartbeats 2000000 in
set_option maxRecDepth 100000 in
theorem same_yes (A A' : Option Addr) (c c' : Nat) (L : List ScrM.Cm) (w : World) (h : CmReads w w.heap.size A L) (h' : CmReads w w.heap.size A' L) (hn : L.length ≤ 100000) (hx : ∀ cm ∈ L, cm.args.length ≤ 100000) :
    Calls Tryd.prog 12 #[.slice A L.length c, .slice A' L.length c'] w fun e w' => e = .returned (.bool true) ∧ Below w.heap.size w w' := by
  have HR := Lib.hid h
  have HR' := Lib.hid h'
  have HX := Lib.hid hx
  clear h h' hx
  go_enter Tryd.func12, Tryd.ntmps12
  go_wp2_with fail
  go_loopw [5] (fun i w' => ∃ k : Nat, k ≤ L.length ∧ i = .int .i64 k ∧ Below w.heap.size w w') (fun i _ => L.length - (intOf i).toNat)
  case atStart => exact ⟨0, by omega, rfl, Below.refl _ _⟩
  case round =>
    obtain ⟨k, hk, rfl, hb⟩ := hrel
    have HB := Lib.hid hb
    have hsz := hb.size
    clear hb
    by_cases hlt : k < L.length
    · obtain ⟨g, o, rfl, hg, Aa, ca, ha, d0, d1, d2, d3, d4⟩ := (HR.out.below HB.out).at_ hlt
      obtain ⟨g', o', rfl, hg', Ab, cb, hab, e0, e1, e2, e3, e4⟩ := (HR'.out.below HB.out).at_ hlt
      have HXK := Lib.hid (HX.out L[k] (List.getElem_mem hlt))
      have HAA := Lib.hid ha
      have HAB := Lib.hid hab
      clear ha hab
      generalize L[k] = cm at HXK HAA HAB d0 d1 d2 d3 d4 e0 e1 e2 e3 e4
      have hk0 : (0 : Int) ≤ (k : Int) := by omega
      have hk63 : (k : Int) < (L.length : Int) := by omega
      go_wp2_with fail
      have hcd := refcommand_yes cm Aa Ab ca cb wr.drew ((HAA.out.below (Below.refl _ _).drew).more hsz) ((HAB.out.below (Below.refl _ _).drew).more hsz) HXK.out
      have HBD := Lib.hid (HB.out.drew)
      have hsd : w.heap.size ≤ wr.drew.heap.size := hsz
      go_still_tail 8, (by kernel_rfl)
      change wpList _ _ _ _ _ wr.drew
      generalize wr.drew = w2 at hcd HBD hsd ⊢
      go_wp2_with fail
      refine hcd.mono ?_
      rintro e w3 ⟨rfl, hb3⟩
      go_wp2_with fail
      go_roundw
      case rel => exact ⟨k + 1, by omega, by go_num, HBD.out.trans (hb3.mono hsd)⟩
      case measure => simp [intOf]; omega
    · obtain rfl : k = L.length := by omega
      go_wp2_with fail
      go_ret
      exact ⟨rfl, HB.out⟩

end Go.Proofs.YtnanhebepjdlcabDoor
