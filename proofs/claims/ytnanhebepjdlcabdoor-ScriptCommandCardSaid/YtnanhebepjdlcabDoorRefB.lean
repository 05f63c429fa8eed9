/- The reference's Valid. -/
import Derived.Test.YtnanhebepjdlcabDoorRefA
import Derived.Test.YtnanhebepjdlcabDoorWalkH
namespace Go.Proofs.YtnanhebepjdlcabDoor
open Go.RowKit

theorem tail_eq {op cut bytes noise : Int} {al : List Int} : validTail ⟨op, al, cut, bytes, noise⟩ = (!decide (cut < -1) && (!decide ((65535 : Int) < cut) && (!decide (noise < 0) && (!decide ((65535 : Int) < noise) && (!decide (bytes < 0) && (!decide ((256 : Int) < bytes) && (decide (0 ≤ cut) || bytes == 0))))))) := by
  have e : (bytes == 0) = decide (bytes = 0) := by rw [Bool.eq_iff_iff]; simp
  rw [e, Bool.eq_iff_iff]
  simp only [validTail, ScrM.within, Bool.and_eq_true, Bool.or_eq_true, Bool.not_eq_true', decide_eq_true_eq, decide_eq_false_iff_not]
  omega

theorem one_eq (n : Int) : ScrM.within n 0 65535 = (!decide (n < 0) && !decide ((65535 : Int) < n)) := by
  rw [Bool.eq_iff_iff]
  simp only [ScrM.within, Bool.and_eq_true, Bool.not_eq_true', decide_eq_true_eq, decide_eq_false_iff_not]
  omega

set_option maxHeartbeats 4000000 in
set_option maxRecDepth 100000 in
theorem refvalid_any (cm : ScrM.Cm) (A : Option Addr) (c : Nat) (w : World) (h : ArgsAt w w.heap.size A c cm.args) (hl : cm.args.length ≤ 100000) :
    Calls Tryd.prog 14 #[cmVal cm A c] w fun e w' => e = .returned (.bool (ScrM.valid cm)) ∧ Below w.heap.size w w' := by
  have HA := Lib.hid h
  clear h
  have hvs := Lib.hid (valid_split cm)
  obtain ⟨op, al, cut, bytes, noise⟩ := cm
  simp only [cmVal, cmCells] at *
  have hbb := (Below.refl w.heap.size w).alloc (Nat.le_refl _) (.cells #[.int .i64 op, .slice A al.length c, .int .i64 cut, .int .i64 bytes, .int .i64 noise] 31)
  have hk0 := heap_alloc_new w (.cells #[.int .i64 op, .slice A al.length c, .int .i64 cut, .int .i64 bytes, .int .i64 noise] 31)
  go_enter Tryd.func14, Tryd.ntmps14
  go_wp2_with fail
  generalize w.alloc (.cells #[.int .i64 op, .slice A al.length c, .int .i64 cut, .int .i64 bytes, .int .i64 noise] 31) = W at hbb hk0 ⊢
  have c0 : W.cell? ⟨w.heap.size, 0, none⟩ = some (.int .i64 op) := cells_of_blk hk0 0
  have c1 : W.cell? ⟨w.heap.size, 1, none⟩ = some (.slice A al.length c) := cells_of_blk hk0 1
  have c2 : W.cell? ⟨w.heap.size, 2, none⟩ = some (.int .i64 cut) := cells_of_blk hk0 2
  have c3 : W.cell? ⟨w.heap.size, 3, none⟩ = some (.int .i64 bytes) := cells_of_blk hk0 3
  have c4 : W.cell? ⟨w.heap.size, 4, none⟩ = some (.int .i64 noise) := cells_of_blk hk0 4
  clear hk0
  refine (refarity_any op _).mono ?_
  rintro e w2 ⟨rfl, rfl⟩
  by_cases h1 : ScrM.arity op < 0
  · have hd : decide (ScrM.arity op < 0) = true := decide_eq_true h1
    go_wp2_with fail
    go_ret
    refine ⟨ret_bool ?_, hbb⟩
    have h0 : decide (0 ≤ ScrM.arity op) = false := decide_eq_false (by omega)
    rw [hvs.out]
    simp [validHead, h0]
  · by_cases h2 : (al.length : Int) = ScrM.arity op
    · have HH := Lib.hid (show validHead ⟨op, al, cut, bytes, noise⟩ = true by simp [validHead, ← h2])
      rw [← h2]
      have hd : decide ((al.length : Int) < 0) = false := decide_eq_false (by omega)
      have hq : ((al.length : Int) != (al.length : Int)) = false := by rw [bne_self_eq_false]
      clear h1 h2
      go_wp2_with fail
      go_loopw [4] (fun i w' => ∃ k m : Nat, k ≤ al.length ∧ i = .int .i64 k ∧ w' = W.drewN m ∧ ∀ j (hj : j < al.length), j < k → ScrM.within al[j] 0 65535 = true) (fun i _ => al.length - (intOf i).toNat)
      case atStart => exact ⟨0, 0, by omega, rfl, rfl, fun j _ h => by omega⟩
      case round =>
        obtain ⟨k, m, hk, rfl, rfl, hall⟩ := hrel
        have HALL := Lib.hid hall
        clear hall
        by_cases hlt : k < al.length
        · obtain ⟨g, o, rfl, hg, hcell⟩ := HA.out.2 (fun e => by rw [e] at hlt; simp at hlt)
          have hck := (hbb.cell (p := ⟨g, o + k, none⟩) hg).trans (hcell k hlt)
          have HBAD := Lib.hid (fun (hb : ScrM.within al[k] 0 65535 = false) => (show al.all (fun n => ScrM.within n 0 65535) = false from List.all_eq_false.2 ⟨al[k], List.getElem_mem hlt, by rw [hb]; simp⟩))
          have HGOOD := Lib.hid (fun (hg : ScrM.within al[k] 0 65535 = true) => (fun j (hj : j < al.length) (h : j < k + 1) => if e : j = k then (show ScrM.within al[j] 0 65535 = true by subst e; exact hg) else HALL.out j hj (by omega)))
          clear hcell
          generalize al[k] = x at hck HBAD HGOOD
          have hk0 : (0 : Int) ≤ (k : Int) := by omega
          have hk63 : (k : Int) < (al.length : Int) := by omega
          cases q1 : decide (x < 0) with
          | true =>
            have HF := Lib.hid (HBAD.out (by rw [one_eq, q1]; rfl))
            clear HBAD HGOOD
            go_wp2_with fail
            go_ret
            refine ⟨ret_bool ?_, below_drewN hbb _⟩
            rw [hvs.out, HH.out, HF.out]
            rfl
          | false =>
            cases q2 : decide ((65535 : Int) < x) with
            | true =>
              have HF := Lib.hid (HBAD.out (by rw [one_eq, q1, q2]; rfl))
              clear HBAD HGOOD
              go_wp2_with fail
              go_ret
              refine ⟨ret_bool ?_, below_drewN hbb _⟩
              rw [hvs.out, HH.out, HF.out]
              rfl
            | false =>
              have HF := Lib.hid (HGOOD.out (by rw [one_eq, q1, q2]; rfl))
              clear HBAD HGOOD
              go_wp2_with fail
              go_roundw
              case rel => exact ⟨k + 1, m, by omega, by go_num, rfl, HF.out⟩
              case measure => simp [intOf]; omega
        · obtain rfl : k = al.length := by omega
          have HT := Lib.hid (show ScrM.valid ⟨op, al, cut, bytes, noise⟩ = validTail ⟨op, al, cut, bytes, noise⟩ by
            rw [hvs.out, HH.out]
            have : al.all (fun n => ScrM.within n 0 65535) = true := by
              rw [List.all_eq_true]
              intro x hx
              obtain ⟨j, hj, rfl⟩ := List.getElem_of_mem hx
              exact HALL.out j hj hj
            rw [this]
            rfl)
          cases b1 : decide (cut < -1) with
          | true =>
            go_wp2_with fail
            go_ret
            refine ⟨ret_bool ?_, below_drewN hbb _⟩
            rw [HT.out, tail_eq]
            simp only [b1]
            rfl
          | false =>
            cases b2 : decide ((65535 : Int) < cut) with
            | true =>
              go_wp2_with fail
              go_ret
              refine ⟨ret_bool ?_, below_drewN hbb _⟩
              rw [HT.out, tail_eq]
              simp only [b1, b2]
              rfl
            | false =>
              cases b3 : decide (noise < 0) with
              | true =>
                go_wp2_with fail
                go_ret
                refine ⟨ret_bool ?_, below_drewN hbb _⟩
                rw [HT.out, tail_eq]
                simp only [b1, b2, b3]
                rfl
              | false =>
                cases b4 : decide ((65535 : Int) < noise) with
                | true =>
                  go_wp2_with fail
                  go_ret
                  refine ⟨ret_bool ?_, below_drewN hbb _⟩
                  rw [HT.out, tail_eq]
                  simp only [b1, b2, b3, b4]
                  rfl
                | false =>
                  cases b5 : decide (bytes < 0) with
                  | true =>
                    go_wp2_with fail
                    go_ret
                    refine ⟨ret_bool ?_, below_drewN hbb _⟩
                    rw [HT.out, tail_eq]
                    simp only [b1, b2, b3, b4, b5]
                    rfl
                  | false =>
                    cases b6 : decide ((256 : Int) < bytes) with
                    | true =>
                      go_wp2_with fail
                      go_ret
                      refine ⟨ret_bool ?_, below_drewN hbb _⟩
                      rw [HT.out, tail_eq]
                      simp only [b1, b2, b3, b4, b5, b6]
                      rfl
                    | false =>
                      cases b7 : decide (0 ≤ cut) with
                      | true =>
                        go_wp2_with fail
                        go_ret
                        refine ⟨ret_bool ?_, below_drewN hbb _⟩
                        rw [HT.out, tail_eq]
                        simp only [b1, b2, b3, b4, b5, b6, b7]
                        rfl
                      | false =>
                        cases b8 : bytes == 0
                        all_goals
                          go_wp2_with fail
                          go_ret
                          refine ⟨ret_bool ?_, below_drewN hbb _⟩
                          rw [HT.out, tail_eq]
                          simp only [b1, b2, b3, b4, b5, b6, b7, b8]
                          rfl
    · have hd : decide (ScrM.arity op < 0) = false := decide_eq_false h1
      have hq : ((al.length : Int) != ScrM.arity op) = true := by rw [bne, beq_eq_false_iff_ne.2 h2]; rfl
      go_wp2_with fail
      go_ret
      refine ⟨ret_bool ?_, hbb⟩
      rw [hvs.out]
      simp [validHead, h2]

end Go.Proofs.YtnanhebepjdlcabDoor
