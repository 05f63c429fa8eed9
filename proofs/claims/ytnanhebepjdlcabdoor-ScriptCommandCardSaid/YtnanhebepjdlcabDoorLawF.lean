/- ScriptFaults: the walk. -/
import Derived.Test.YtnanhebepjdlcabDoorLawA
namespace Go.Proofs.YtnanhebepjdlcabDoor
open Go.RowKit

theorem nbit_period (noise : Int) (q : Nat) : nbit noise (q + 16) = nbit noise q := by
  unfold nbit
  rw [Nat.add_mod_right]

theorem nbit_zero (q : Nat) : nbit 0 q = false := by
  unfold nbit
  rw [Int.zero_ediv]
  rfl

theorem FtRow.at_ {w : World} {g n : Nat} {cut bytes noise : Int} (h : FtRow w g n n cut bytes noise) {j : Nat} (hj : j < n) :
    w.cell? ⟨g, j * 3, none⟩ = some (.bool ((j : Int) == cut)) ∧ w.cell? ⟨g, j * 3 + 1, none⟩ = some (.int .i64 (if ((j : Int) == cut) = true then bytes else 0)) ∧ w.cell? ⟨g, j * 3 + 2, none⟩ = some (.bool (nbit noise j)) := by
  have hc := h.cells j hj
  rw [decide_eq_true hj, Bool.true_and, Bool.true_and] at hc
  exact hc

set_option maxHeartbeats 4000000 in
set_option maxRecDepth 100000 in
theorem faults_law (cm : ScrM.Cm) (A : Option Addr) (c : Nat) (n : Nat) (hn : n < 256) (w : World) (hw : WOk w) (h : ArgsAt w w.heap.size A c cm.args) :
    Calls Tryd.prog 7 #[cmVal cm A c, .int .u8 (n : Int)] w fun e w' => e = .returned (.bool true) ∧ Below w.heap.size w w' := by
  have HW := Lib.hid hw
  have HA := Lib.hid h
  clear h
  obtain ⟨op, al, cut, bytes, noise⟩ := cm
  have hvc := fun W hW hA' (hl : al.length ≤ 100000) => valid_any ⟨op, al, cut, bytes, noise⟩ A c W hW hA' hl
  have hfc := fun W => faults_any ⟨op, al, cut, bytes, noise⟩ A c n (by omega) W
  simp only [cmVal, cmCells] at hvc hfc ⊢
  have hb0 := (Below.refl w.heap.size w).alloc (Nat.le_refl _) (.cells #[.int .i64 op, .slice A al.length c, .int .i64 cut, .int .i64 bytes, .int .i64 noise] 31)
  have hk0 := heap_alloc_new w (.cells #[.int .i64 op, .slice A al.length c, .int .i64 cut, .int .i64 bytes, .int .i64 noise] 31)
  have HB0 := Lib.hid hb0
  have HK0 := Lib.hid hk0
  have hs0 : w.heap.size < (w.alloc (.cells #[.int .i64 op, .slice A al.length c, .int .i64 cut, .int .i64 bytes, .int .i64 noise] 31)).heap.size := by simp
  clear hb0 hk0 hw
  go_enter Tryd.func7, Tryd.ntmps7
  go_wp2_with fail
  refine (sanity_any _ (HW.out.later HB0.out)).mono ?_
  rintro e w1 ⟨rfl, hb1⟩
  have hblk := (hb1.block w.heap.size hs0).trans HK0.out
  have HB1 := Lib.hid (HB0.out.trans (hb1.mono (Nat.le_of_lt hs0)))
  have HBK := Lib.hid hblk
  have c1 : w1.cell? ⟨w.heap.size, 1, none⟩ = some (.slice A al.length c) := cells_of_blk hblk 1
  have c0 : w1.cell? ⟨w.heap.size, 0, none⟩ = some (.int .i64 op) := cells_of_blk hblk 0
  have c2 : w1.cell? ⟨w.heap.size, 2, none⟩ = some (.int .i64 cut) := cells_of_blk hblk 2
  have c3 : w1.cell? ⟨w.heap.size, 3, none⟩ = some (.int .i64 bytes) := cells_of_blk hblk 3
  have c4 : w1.cell? ⟨w.heap.size, 4, none⟩ = some (.int .i64 noise) := cells_of_blk hblk 4
  clear hb1 hblk
  by_cases h10 : al.length ≤ 10
  · have h10d : decide ((10 : Int) < (al.length : Int)) = false := decide_eq_false (by omega)
    have hcall := hvc w1 (HW.out.later HB1.out) ((HA.out.below HB1.out).more HB1.out.size) (by omega)
    cases hv : ScrM.valid ⟨op, al, cut, bytes, noise⟩ with
    | false =>
      rw [hv] at hcall
      clear hv
      go_wp2_with fail
      refine hcall.mono ?_
      rintro e w2 ⟨rfl, hb2⟩
      go_wp2_with fail
      go_ret
      exact ⟨rfl, HB1.out.trans (hb2.mono HB1.out.size)⟩
    | true =>
      rw [hv] at hcall
      clear hv
      go_wp2_with fail
      refine hcall.mono ?_
      rintro e w2 ⟨rfl, hb2⟩
      have hblk2 := (hb2.block w.heap.size (blk_lt HBK.out)).trans HBK.out
      have HB2 := Lib.hid (HB1.out.trans (hb2.mono HB1.out.size))
      have HBK2 := Lib.hid hblk2
      clear c0 c1 c2 c3 c4
      have c0 : w2.cell? ⟨w.heap.size, 0, none⟩ = some (.int .i64 op) := cells_of_blk hblk2 0
      have c1 : w2.cell? ⟨w.heap.size, 1, none⟩ = some (.slice A al.length c) := cells_of_blk hblk2 1
      have c2 : w2.cell? ⟨w.heap.size, 2, none⟩ = some (.int .i64 cut) := cells_of_blk hblk2 2
      have c3 : w2.cell? ⟨w.heap.size, 3, none⟩ = some (.int .i64 bytes) := cells_of_blk hblk2 3
      have c4 : w2.cell? ⟨w.heap.size, 4, none⟩ = some (.int .i64 noise) := cells_of_blk hblk2 4
      clear hblk2 hb2 hcall
      go_wp2_with fail
      refine (hfc w2).mono ?_
      rintro e w3 ⟨g, rfl, hg, hft, hb3⟩
      have hblk3 := (hb3.block w.heap.size (blk_lt HBK2.out)).trans HBK2.out
      have HB3 := Lib.hid (HB2.out.trans (hb3.mono HB2.out.size))
      have HFT := Lib.hid hft
      clear c0 c1 c2 c3 c4
      have c2 : w3.cell? ⟨w.heap.size, 2, none⟩ = some (.int .i64 cut) := cells_of_blk hblk3 2
      have c3 : w3.cell? ⟨w.heap.size, 3, none⟩ = some (.int .i64 bytes) := cells_of_blk hblk3 3
      have c4 : w3.cell? ⟨w.heap.size, 4, none⟩ = some (.int .i64 noise) := cells_of_blk hblk3 4
      clear hblk3 hb3 hft hfc hvc
      go_wp2_with fail
      go_loopw [7] (fun i w' => ∃ k m : Nat, k ≤ n ∧ i = .int .i64 k ∧ w' = w3.drewN m) (fun i _ => n - (intOf i).toNat)
      case atStart => exact ⟨0, 0, by omega, rfl, rfl⟩
      case round =>
        obtain ⟨k, m, hk, rfl, rfl⟩ := hrel
        by_cases hlt : k < n
        · obtain ⟨e0, e1, e2⟩ := HFT.out.at_ hlt
          have hk0 : (0 : Int) ≤ (k : Int) := by omega
          have hk63 : (k : Int) < (n : Int) := by omega
          have hpart : ∀ q : Nat, k = q + 16 → w3.cell? ⟨g, q * 3 + 2, none⟩ = some (.bool (nbit noise k)) := fun q hq => by
            have := (HFT.out.at_ (show q < n by omega)).2.2
            rw [hq, nbit_period]
            exact this
          have HZ := Lib.hid (fun (hz : noise = 0) => (by rw [hz]; exact nbit_zero k : nbit noise k = false))
          generalize nbit noise k = bt at e2 hpart HZ
          cases hq : ((k : Int) == cut) <;> rw [hq] at e0 e1 <;> simp only [Bool.false_eq_true, if_false, if_true] at e1
          all_goals
            go_wp2_with fail
            go_quiet (fail)
            go_wp2_with fail
            by_cases h16 : 16 ≤ k
            · have hq16 := hpart (k - 16) (by omega)
              have hmx : max ((k : Int) - 16) 0 = ((k - 16 : Nat) : Int) := by omega
              have hm0 : (0 : Int) ≤ max ((k : Int) - 16) 0 := by omega
              have hm1 : max ((k : Int) - 16) 0 < (n : Int) := by omega
              have hmt : (max ((k : Int) - 16) 0).toNat = k - 16 := by omega
              have h16d : decide ((16 : Int) ≤ (k : Int)) = true := decide_eq_true (by omega)
              by_cases hz : noise = 0
              · have hbt := HZ.out hz
                have hzz : (noise == 0) = true := beq_iff_eq.2 hz
                rw [hbt] at e2 hq16
                go_quiet (fail)
                go_wp2_with fail
                go_roundw
                case rel => exact ⟨k + 1, _, by omega, by go_num, rfl⟩
                case measure => simp [intOf]; omega
              · have hzz : (noise == 0) = false := beq_eq_false_iff_ne.2 hz
                go_quiet (fail)
                go_wp2_with fail
                go_roundw
                case rel => exact ⟨k + 1, _, by omega, by go_num, rfl⟩
                case measure => simp [intOf]; omega
            · have h16d : decide ((16 : Int) ≤ (k : Int)) = false := decide_eq_false (by omega)
              by_cases hz : noise = 0
              · have hbt := HZ.out hz
                have hzz : (noise == 0) = true := beq_iff_eq.2 hz
                rw [hbt] at e2
                go_quiet (fail)
                go_wp2_with fail
                go_roundw
                case rel => exact ⟨k + 1, _, by omega, by go_num, rfl⟩
                case measure => simp [intOf]; omega
              · have hzz : (noise == 0) = false := beq_eq_false_iff_ne.2 hz
                go_quiet (fail)
                go_wp2_with fail
                go_roundw
                case rel => exact ⟨k + 1, _, by omega, by go_num, rfl⟩
                case measure => simp [intOf]; omega
        · obtain rfl : k = n := by omega
          go_wp2_with fail
          go_ret
          exact ⟨rfl, below_drewN HB3.out m⟩
  · have h10d : decide ((10 : Int) < (al.length : Int)) = true := decide_eq_true (by omega)
    go_wp2_with fail
    go_ret
    exact ⟨rfl, HB1.out⟩

end Go.Proofs.YtnanhebepjdlcabDoor
