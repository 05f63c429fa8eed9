/- ScriptCommand: the walk. -/
import Derived.Test.YtnanhebepjdlcabDoorLawF
import Derived.Test.YtnanhebepjdlcabDoorRefB
import Derived.Test.YtnanhebepjdlcabDoorRefD
import Derived.Test.YtnanhebepjdlcabDoorRefE
import Derived.Test.YtnanhebepjdlcabDoorRefG
import Derived.Deep.QuietTactic
import Derived.BigQuiet
import Derived.Deep.RegionHeld3
namespace Go.Proofs.YtnanhebepjdlcabDoor
open Go.RowKit

set_option maxHeartbeats 2000000 in
theorem reffaults_neg (cm : ScrM.Cm) (A : Option Addr) (c : Nat) (n : Int) (hn : n < 0) (w : World) :
    Calls Tryd.prog 21 #[cmVal cm A c, .int .i64 n] w fun e w' => e = .returned (.slice none 0 0) ∧ Below w.heap.size w w' := by
  obtain ⟨op, al, cut, bytes, noise⟩ := cm
  simp only [cmVal, cmCells] at *
  have hwi : decide (n < 0) = true := decide_eq_true hn
  go_enter Tryd.func21, Tryd.ntmps21
  go_wp2_with fail
  go_ret
  exact ⟨rfl, (Below.refl w.heap.size w).alloc (Nat.le_refl _) _⟩

theorem TxHeld.later {w0 W W' : World} {C : Nat} {cm : ScrM.Cm} {Aa : Option Addr} {ca : Nat} (h : TxHeld w0 C cm Aa ca W) (hb : Below W.heap.size W W') : TxHeld w0 C cm Aa ca W' :=
  ⟨h.1.trans (hb.mono h.1.size), (hb.block C (blk_lt h.2)).trans h.2⟩

theorem TxHeld.alloc {w0 W : World} {C : Nat} {cm : ScrM.Cm} {Aa : Option Addr} {ca : Nat} (h : TxHeld w0 C cm Aa ca W) (o : Obj) : TxHeld w0 C cm Aa ca (W.alloc o) :=
  h.later ((Below.refl _ _).alloc (Nat.le_refl _) o)

theorem held_all {w0 W : World} {C : Nat} {op cut bytes noise : Int} {al : List Int} {A : Option Addr} {c : Nat} (h : TxHeld w0 C ⟨op, al, cut, bytes, noise⟩ A c W) :
    TxHeld w0 C ⟨op, al, cut, bytes, noise⟩ A c W ∧ W.cell? ⟨C, 0, none⟩ = some (.int .i64 op) ∧ W.cell? ⟨C, 1, none⟩ = some (.slice A al.length c) ∧ W.cell? ⟨C, 2, none⟩ = some (.int .i64 cut) ∧ W.cell? ⟨C, 3, none⟩ = some (.int .i64 bytes) ∧ W.cell? ⟨C, 4, none⟩ = some (.int .i64 noise) :=
  ⟨h, cells_of_blk h.2 0, cells_of_blk h.2 1, cells_of_blk h.2 2, cells_of_blk h.2 3, cells_of_blk h.2 4⟩

/-- A row of one command in a block of its own. -/
theorem reads_one {W : World} {G B : Nat} {cm : ScrM.Cm} {A : Option Addr} {c : Nat} (hG : W.heap[G]? = some (.cells (cmCells cm A c).toArray 31 (0, 0))) (ha : ArgsAt W B A c cm.args) (hB : B ≤ W.heap.size) : CmReads W W.heap.size (some ⟨G, 0, none⟩) [cm] := fun _ => by
  refine ⟨G, 0, rfl, blk_lt hG, fun k d hk => ?_⟩
  cases k with
  | succ k => simp at hk
  | zero =>
    obtain rfl : cm = d := by simpa using hk
    exact ⟨A, c, ha.more hB, cells_of_blk hG 0, cells_of_blk hG 1, cells_of_blk hG 2, cells_of_blk hG 3, cells_of_blk hG 4⟩

theorem text_held (w0 : World) (C : Nat) (cm : ScrM.Cm) (A : Option Addr) (c : Nat) (hw0 : WOk w0) (ha : ArgsAt w0 w0.heap.size A c cm.args) (hv : ScrM.valid cm = true) (G : Nat) (W : World) (hs : TxHeld w0 C cm A c W) (hG : W.heap[G]? = some (.cells (cmCells cm A c).toArray 31 (0, 0))) :
    Calls Tryd.prog 17 #[.slice (some ⟨G, 0, none⟩) 1 1] W fun e W' => e = .returned (.string (strOf (ScrM.textL [cm]))) ∧ TxHeld w0 C cm A c W' ∧ Below W.heap.size W W' := by
  have h := text_any (some ⟨G, 0, none⟩) 1 [cm] W (hw0.later hs.1) (reads_one hG (ha.below hs.1) hs.1.size) (fun d hd => by rw [List.mem_singleton.1 hd]; exact hv) (by simp)
  exact h.mono fun e W' ⟨he, hb⟩ => ⟨he, hs.later hb, hb⟩

theorem reftext_held (w0 : World) (C : Nat) (cm : ScrM.Cm) (A : Option Addr) (c : Nat) (ha : ArgsAt w0 w0.heap.size A c cm.args) (hv : ScrM.valid cm = true) (G : Nat) (W : World) (hs : TxHeld w0 C cm A c W) (hG : W.heap[G]? = some (.cells (cmCells cm A c).toArray 31 (0, 0))) :
    Calls Tryd.prog 18 #[.slice (some ⟨G, 0, none⟩) 1 1] W fun e W' => e = .returned (.string (strOf (ScrM.textL [cm]))) ∧ TxHeld w0 C cm A c W' := by
  have h := reftext_any (some ⟨G, 0, none⟩) 1 [cm] W (reads_one hG (ha.below hs.1) hs.1.size) (fun d hd => by rw [List.mem_singleton.1 hd]; exact hv) (by simp)
  exact h.mono fun e W' ⟨he, hb⟩ => ⟨he, hs.later hb⟩

theorem faults_held (w0 : World) (C : Nat) (op cut bytes noise : Int) (al : List Int) (A : Option Addr) (c k : Nat) (hk : k ≤ 65536) (W : World) (hs : TxHeld w0 C ⟨op, al, cut, bytes, noise⟩ A c W) :
    Calls Tryd.prog 20 #[.agg #[.int .i64 op, .slice A al.length c, .int .i64 cut, .int .i64 bytes, .int .i64 noise], .int .i64 (k : Int)] W fun e W' =>
      ∃ g, e = .returned (.slice (some ⟨g, 0, none⟩) k k) ∧ g < W'.heap.size ∧ FtRow W' g k k cut bytes noise ∧ TxHeld w0 C ⟨op, al, cut, bytes, noise⟩ A c W' :=
  (faults_any ⟨op, al, cut, bytes, noise⟩ A c k hk W).mono fun _ _ ⟨g, h1, h2, h3, hb⟩ => ⟨g, h1, h2, h3, hs.later hb⟩

theorem reffaults_held (w0 : World) (C : Nat) (op cut bytes noise : Int) (al : List Int) (A : Option Addr) (c k : Nat) (hk : k ≤ 65536) (h0 : -9223372036854775808 ≤ noise) (h1 : noise ≤ 9223372036854775807) (g' : Nat) (W : World) (hs : TxHeld w0 C ⟨op, al, cut, bytes, noise⟩ A c W) (hg : g' < W.heap.size) (hf : FtRow W g' k k cut bytes noise) :
    Calls Tryd.prog 21 #[.agg #[.int .i64 op, .slice A al.length c, .int .i64 cut, .int .i64 bytes, .int .i64 noise], .int .i64 (k : Int)] W fun e W' =>
      ∃ g, e = .returned (.slice (some ⟨g, 0, none⟩) k k) ∧ FtRow W' g k k cut bytes noise ∧ FtRow W' g' k k cut bytes noise ∧ TxHeld w0 C ⟨op, al, cut, bytes, noise⟩ A c W' :=
  (reffaults_any ⟨op, al, cut, bytes, noise⟩ A c k hk h0 h1 W).mono fun _ _ ⟨g, e1, _, e3, hb⟩ => ⟨g, e1, e3, hf.below hg hb, hs.later hb⟩

theorem samefaults_held (w0 : World) (C : Nat) (cm : ScrM.Cm) (A : Option Addr) (c : Nat) (g g' n : Nat) (cut bytes noise : Int) (hn : n ≤ 100000) (w : World) (h : FtRow w g n n cut bytes noise) (h' : FtRow w g' n n cut bytes noise) (hs : TxHeld w0 C cm A c w) :
    Calls Tryd.prog 19 #[.slice (some ⟨g, 0, none⟩) n n, .slice (some ⟨g', 0, none⟩) n n] w fun e w' => e = .returned (.bool true) ∧ TxHeld w0 C cm A c w' :=
  (samefaults_yes g g' n cut bytes noise hn w h h').mono fun _ _ ⟨e, hb⟩ => ⟨e, hs.later hb⟩

theorem faults_heldn (w0 : World) (C : Nat) (op cut bytes noise : Int) (al : List Int) (A : Option Addr) (c : Nat) (n : Int) (hn : n < 0) (W : World) (hs : TxHeld w0 C ⟨op, al, cut, bytes, noise⟩ A c W) :
    Calls Tryd.prog 20 #[.agg #[.int .i64 op, .slice A al.length c, .int .i64 cut, .int .i64 bytes, .int .i64 noise], .int .i64 n] W fun e W' =>
      e = .returned (.slice none 0 0) ∧ TxHeld w0 C ⟨op, al, cut, bytes, noise⟩ A c W' :=
  (faults_out ⟨op, al, cut, bytes, noise⟩ A c n (by unfold ScrM.within; rw [decide_eq_false (by omega)]; rfl) W).mono fun _ _ ⟨h1, hb⟩ => ⟨h1, hs.later hb⟩

theorem reffaults_heldn (w0 : World) (C : Nat) (op cut bytes noise : Int) (al : List Int) (A : Option Addr) (c : Nat) (n : Int) (hn : n < 0) (W : World) (hs : TxHeld w0 C ⟨op, al, cut, bytes, noise⟩ A c W) :
    Calls Tryd.prog 21 #[.agg #[.int .i64 op, .slice A al.length c, .int .i64 cut, .int .i64 bytes, .int .i64 noise], .int .i64 n] W fun e W' =>
      e = .returned (.slice none 0 0) ∧ TxHeld w0 C ⟨op, al, cut, bytes, noise⟩ A c W' :=
  (reffaults_neg ⟨op, al, cut, bytes, noise⟩ A c n hn W).mono fun _ _ ⟨h1, hb⟩ => ⟨h1, hs.later hb⟩

theorem samefaults_heldn (w0 : World) (C : Nat) (cm : ScrM.Cm) (A : Option Addr) (c : Nat) (w : World) (hs : TxHeld w0 C cm A c w) :
    Calls Tryd.prog 19 #[.slice none 0 0, .slice none 0 0] w fun e w' => e = .returned (.bool true) ∧ TxHeld w0 C cm A c w' :=
  (samefaults_nil w).mono fun _ _ ⟨e, hb⟩ => ⟨e, hs.later hb⟩

set_option maxHeartbeats 4000000 in
set_option maxRecDepth 100000 in
theorem command_law (cm : ScrM.Cm) (A : Option Addr) (c : Nat) (op1 n : Int) (hc0 : -9223372036854775808 ≤ cm.noise) (hc1 : cm.noise ≤ 9223372036854775807) (w : World) (hw : WOk w) (h : ArgsAt w w.heap.size A c cm.args) :
    Calls Tryd.prog 4 #[cmVal cm A c, .int .i64 op1, .int .i64 n] w fun e w' => e = .returned (.bool true) ∧ Below w.heap.size w w' := by
  have HW := Lib.hid hw
  have HA := Lib.hid h
  clear h
  obtain ⟨op, al, cut, bytes, noise⟩ := cm
  have hvc := fun W hW hA' (hl : al.length ≤ 100000) => valid_any ⟨op, al, cut, bytes, noise⟩ A c W hW hA' hl
  have hvr := fun W hA' (hl : al.length ≤ 100000) => refvalid_any ⟨op, al, cut, bytes, noise⟩ A c W hA' hl
  simp only [cmVal, cmCells] at hvc hvr ⊢
  have hb0 := (Below.refl w.heap.size w).alloc (Nat.le_refl _) (.cells #[.int .i64 op, .slice A al.length c, .int .i64 cut, .int .i64 bytes, .int .i64 noise] 31)
  have hk0 := heap_alloc_new w (.cells #[.int .i64 op, .slice A al.length c, .int .i64 cut, .int .i64 bytes, .int .i64 noise] 31)
  have HH0 := Lib.hid (show TxHeld w w.heap.size ⟨op, al, cut, bytes, noise⟩ A c _ from ⟨hb0, hk0⟩)
  have hs0 : w.heap.size < (w.alloc (.cells #[.int .i64 op, .slice A al.length c, .int .i64 cut, .int .i64 bytes, .int .i64 noise] 31)).heap.size := by simp
  clear hb0 hk0 hw
  go_enter Tryd.func4, Tryd.ntmps4
  go_wp2_with fail
  refine (sanity_any _ (HW.out.later HH0.out.1)).mono ?_
  rintro e w1 ⟨rfl, hb1⟩
  have HH1 := Lib.hid (HH0.out.later hb1)
  have c1 : w1.cell? ⟨w.heap.size, 1, none⟩ = some (.slice A al.length c) := cells_of_blk HH1.out.2 1
  have c0 : w1.cell? ⟨w.heap.size, 0, none⟩ = some (.int .i64 op) := cells_of_blk HH1.out.2 0
  have c2 : w1.cell? ⟨w.heap.size, 2, none⟩ = some (.int .i64 cut) := cells_of_blk HH1.out.2 2
  have c3 : w1.cell? ⟨w.heap.size, 3, none⟩ = some (.int .i64 bytes) := cells_of_blk HH1.out.2 3
  have c4 : w1.cell? ⟨w.heap.size, 4, none⟩ = some (.int .i64 noise) := cells_of_blk HH1.out.2 4
  clear hb1
  by_cases h10 : al.length ≤ 10
  · have h10d : decide ((10 : Int) < (al.length : Int)) = false := decide_eq_false (by omega)
    by_cases hn : n ≤ 100
    · have hnd : decide ((100 : Int) < n) = false := decide_eq_false (by omega)
      have hcall := hvc w1 (HW.out.later HH1.out.1) ((HA.out.below HH1.out.1).more HH1.out.1.size) (by omega)
      obtain ⟨v, hv⟩ : ∃ v, v = ScrM.valid ⟨op, al, cut, bytes, noise⟩ := ⟨_, rfl⟩
      rw [← hv] at hcall
      have HVV := Lib.hid hv
      clear hv
      go_wp2_with fail
      refine hcall.mono ?_
      rintro e w2 ⟨rfl, hb2⟩
      have HH2 := Lib.hid (HH1.out.later hb2)
      clear c0 c1 c2 c3 c4 hb2 hcall
      have c0 : w2.cell? ⟨w.heap.size, 0, none⟩ = some (.int .i64 op) := cells_of_blk HH2.out.2 0
      have c1 : w2.cell? ⟨w.heap.size, 1, none⟩ = some (.slice A al.length c) := cells_of_blk HH2.out.2 1
      have c2 : w2.cell? ⟨w.heap.size, 2, none⟩ = some (.int .i64 cut) := cells_of_blk HH2.out.2 2
      have c3 : w2.cell? ⟨w.heap.size, 3, none⟩ = some (.int .i64 bytes) := cells_of_blk HH2.out.2 3
      have c4 : w2.cell? ⟨w.heap.size, 4, none⟩ = some (.int .i64 noise) := cells_of_blk HH2.out.2 4
      have hcall := hvr w2 ((HA.out.below HH2.out.1).more HH2.out.1.size) (by omega)
      rw [← HVV.out] at hcall
      have hvv : (v != v) = false := by cases v <;> rfl
      go_wp2_with fail
      refine hcall.mono ?_
      rintro e w3 ⟨rfl, hb3⟩
      have HH3 := Lib.hid (HH2.out.later hb3)
      clear c0 c1 c2 c3 c4 hb3 hcall hvc hvr
      go_wp2_with fail
      refine (arity_any op1 w3 (HW.out.later HH3.out.1)).mono ?_
      rintro e w4 ⟨rfl, rfl⟩
      go_wp2_with fail
      refine (refarity_any op1 w3).mono ?_
      rintro e w4 ⟨rfl, rfl⟩
      have hww : ((ScrM.arity op1) != (ScrM.arity op1)) = false := by rw [bne_eq_false_iff_eq]
      have c0 : w3.cell? ⟨w.heap.size, 0, none⟩ = some (.int .i64 op) := cells_of_blk HH3.out.2 0
      have c1 : w3.cell? ⟨w.heap.size, 1, none⟩ = some (.slice A al.length c) := cells_of_blk HH3.out.2 1
      have c2 : w3.cell? ⟨w.heap.size, 2, none⟩ = some (.int .i64 cut) := cells_of_blk HH3.out.2 2
      have c3 : w3.cell? ⟨w.heap.size, 3, none⟩ = some (.int .i64 bytes) := cells_of_blk HH3.out.2 3
      have c4 : w3.cell? ⟨w.heap.size, 4, none⟩ = some (.int .i64 noise) := cells_of_blk HH3.out.2 4
      go_upto_region 7 with fail
      go_cut [41] from 9 (fun r wx => r = .bool false ∧ TxHeld w w.heap.size ⟨op, al, cut, bytes, noise⟩ A c wx)
      case first =>
        cases v with
        | false =>
          go_quiet (fail)
          go_wp2_with fail
          go_meet
          case rel => exact ⟨rfl, below_drewN HH3.out.1 _, HH3.out.2⟩
        | true =>
          have hd0 : TxHeld w w.heap.size ⟨op, al, cut, bytes, noise⟩ A c w3.drew := ⟨HH3.out.1.drew, HH3.out.2⟩
          have hd1 : TxHeld w w.heap.size ⟨op, al, cut, bytes, noise⟩ A c (w3.alloc (.cells #[.int .i64 op, .slice A al.length c, .int .i64 cut, .int .i64 bytes, .int .i64 noise] 31)).drew := hd0.alloc _
          have hd2 : TxHeld w w.heap.size ⟨op, al, cut, bytes, noise⟩ A c ((w3.alloc (.cells #[.int .i64 op, .slice A al.length c, .int .i64 cut, .int .i64 bytes, .int .i64 noise] 31)).alloc (.cells #[.int .i64 op, .slice A al.length c, .int .i64 cut, .int .i64 bytes, .int .i64 noise] 31)).drew := TxHeld.alloc hd1 _
          go_region_held3 (fun w' => TxHeld w w.heap.size ⟨op, al, cut, bytes, noise⟩ A c w' ∧ w'.cell? ⟨w.heap.size, 0, none⟩ = some (.int .i64 op) ∧ w'.cell? ⟨w.heap.size, 1, none⟩ = some (.slice A al.length c) ∧ w'.cell? ⟨w.heap.size, 2, none⟩ = some (.int .i64 cut) ∧ w'.cell? ⟨w.heap.size, 3, none⟩ = some (.int .i64 bytes) ∧ w'.cell? ⟨w.heap.size, 4, none⟩ = some (.int .i64 noise))
            (first | assumption | exact held_all (by assumption))
            (first
              | (go_at_call 17
                 refine Calls.mono (text_held w w.heap.size ⟨op, al, cut, bytes, noise⟩ A c HW.out HA.out HVV.out.symm _ _ ?_ ?_) ?_
                 · first | assumption | (go_split_ands; assumption)
                 · first | exact heap_alloc_new w3 _ | exact two_first w3 _ _ | exact two_second w3 _ _
                 rintro e W ⟨rfl, hk1, hk2⟩
                 have hkeep := hk2.block
                 have hd3 := hk1.alloc (.cells #[.int .i64 op, .slice A al.length c, .int .i64 cut, .int .i64 bytes, .int .i64 noise] 31))
              | (go_at_call 18
                 refine Calls.mono (reftext_held w w.heap.size ⟨op, al, cut, bytes, noise⟩ A c HA.out HVV.out.symm _ _ ?_ ?_) ?_
                 · first | assumption | (go_split_ands; assumption)
                 · first | exact (hkeep _ (by first | (simp; done) | (simp; omega))).trans (two_first w3 _ _) | exact (hkeep _ (by first | (simp; done) | (simp; omega))).trans (two_second w3 _ _) | exact heap_alloc_new _ _
                 rintro e W ⟨rfl, hk1⟩))
          all_goals
            go_wp2_with fail
            go_meet
            case rel => exact ⟨rfl, hk1⟩
      case rest =>
        obtain ⟨rfl, hh⟩ := hcut
        clear c0 c1 c2 c3 c4
        go_upto_region 9 with fail
        have hd0 : TxHeld w w.heap.size ⟨op, al, cut, bytes, noise⟩ A c wc.drew := ⟨hh.1.drew, hh.2⟩
        by_cases hneg : n < 0
        · go_region_held3 (fun w' => TxHeld w w.heap.size ⟨op, al, cut, bytes, noise⟩ A c w' ∧ w'.cell? ⟨w.heap.size, 0, none⟩ = some (.int .i64 op) ∧ w'.cell? ⟨w.heap.size, 1, none⟩ = some (.slice A al.length c) ∧ w'.cell? ⟨w.heap.size, 2, none⟩ = some (.int .i64 cut) ∧ w'.cell? ⟨w.heap.size, 3, none⟩ = some (.int .i64 bytes) ∧ w'.cell? ⟨w.heap.size, 4, none⟩ = some (.int .i64 noise))
            (first | assumption | exact held_all (by assumption))
            (first
              | (go_at_call 20
                 refine Calls.mono (faults_heldn w w.heap.size op cut bytes noise al A c n hneg _ ?_) ?_
                 · first | assumption | (go_split_ands; assumption)
                 rintro e W ⟨rfl, hk1⟩)
              | (go_at_call 21
                 refine Calls.mono (reffaults_heldn w w.heap.size op cut bytes noise al A c n hneg _ ?_) ?_
                 · first | assumption | (go_split_ands; assumption)
                 rintro e W ⟨rfl, hk1⟩)
              | (go_at_call 19
                 refine Calls.mono (samefaults_heldn w w.heap.size ⟨op, al, cut, bytes, noise⟩ A c _ ?_) ?_
                 · first | assumption | (go_split_ands; assumption)
                 rintro e W ⟨rfl, hk1⟩))
          all_goals
            go_wp2_with fail
            go_ret
            exact ⟨rfl, hk1.1⟩
        · obtain ⟨k, rfl⟩ : ∃ k : Nat, n = (k : Int) := ⟨n.toNat, by omega⟩
          have hk65 : k ≤ 65536 := by omega
          go_region_held3 (fun w' => TxHeld w w.heap.size ⟨op, al, cut, bytes, noise⟩ A c w' ∧ w'.cell? ⟨w.heap.size, 0, none⟩ = some (.int .i64 op) ∧ w'.cell? ⟨w.heap.size, 1, none⟩ = some (.slice A al.length c) ∧ w'.cell? ⟨w.heap.size, 2, none⟩ = some (.int .i64 cut) ∧ w'.cell? ⟨w.heap.size, 3, none⟩ = some (.int .i64 bytes) ∧ w'.cell? ⟨w.heap.size, 4, none⟩ = some (.int .i64 noise))
            (first | assumption | exact held_all (by assumption))
            (first
              | (go_at_call 20
                 refine Calls.mono (faults_held w w.heap.size op cut bytes noise al A c k hk65 _ ?_) ?_
                 · first | assumption | (go_split_ands; assumption)
                 rintro e W ⟨g, rfl, hg, hf, hk1⟩)
              | (go_at_call 21
                 refine Calls.mono (reffaults_held w w.heap.size op cut bytes noise al A c k hk65 hc0 hc1 g _ ?_ hg hf) ?_
                 · first | assumption | (go_split_ands; assumption)
                 rintro e W ⟨g2, rfl, hf2, hf1, hk1⟩)
              | (go_at_call 19
                 refine Calls.mono (samefaults_held w w.heap.size ⟨op, al, cut, bytes, noise⟩ A c g g2 k cut bytes noise (by omega) _ hf1 hf2 ?_) ?_
                 · first | assumption | (go_split_ands; assumption)
                 rintro e W ⟨rfl, hk1⟩))
          all_goals
            go_wp2_with fail
            go_ret
            exact ⟨rfl, hk1.1⟩
    · have hnd : decide ((100 : Int) < n) = true := decide_eq_true (by omega)
      go_wp2_with fail
      go_ret
      exact ⟨rfl, HH1.out.1⟩
  · have h10d : decide ((10 : Int) < (al.length : Int)) = true := decide_eq_true (by omega)
    go_wp2_with fail
    go_ret
    exact ⟨rfl, HH1.out.1⟩

end Go.Proofs.YtnanhebepjdlcabDoor
