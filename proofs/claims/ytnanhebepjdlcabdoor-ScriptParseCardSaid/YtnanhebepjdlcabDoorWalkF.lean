/- Valid. -/
import Derived.Test.YtnanhebepjdlcabDoorWalkA
import Derived.Deep.QuietTactic
import Derived.BigQuiet
namespace Go.Proofs.YtnanhebepjdlcabDoor
open Go.RowKit

/-- The arguments' slice: its cells are read, in blocks below B. -/
def ArgsAt (w : World) (B : Nat) (A : Option Addr) (c : Nat) (al : List Int) : Prop :=
  al.length ≤ c ∧ (al ≠ [] → ∃ g o, A = some ⟨g, o, none⟩ ∧ g < B ∧ ∀ i (h : i < al.length), w.cell? ⟨g, o + i, none⟩ = some (.int .i64 al[i]))

theorem ArgsAt.below {w w' : World} {B c : Nat} {A : Option Addr} {al : List Int} (h : ArgsAt w B A c al) (hb : Below B w w') : ArgsAt w' B A c al :=
  ⟨h.1, fun hn => by
    obtain ⟨g, o, h1, h2, h3⟩ := h.2 hn
    exact ⟨g, o, h1, h2, fun i hi => (hb.cell h2).trans (h3 i hi)⟩⟩

theorem ArgsAt.more {w : World} {B B' c : Nat} {A : Option Addr} {al : List Int} (h : ArgsAt w B A c al) (hB : B ≤ B') : ArgsAt w B' A c al :=
  ⟨h.1, fun hn => by
    obtain ⟨g, o, h1, h2, h3⟩ := h.2 hn
    exact ⟨g, o, h1, Nat.lt_of_lt_of_le h2 hB, h3⟩⟩

/-- The cells of a command. -/
def cmCells (cm : ScrM.Cm) (A : Option Addr) (c : Nat) : List Value := [.int .i64 cm.op, .slice A cm.args.length c, .int .i64 cm.cut, .int .i64 cm.bytes, .int .i64 cm.noise]
/-- A command as a value. -/
def cmVal (cm : ScrM.Cm) (A : Option Addr) (c : Nat) : Value := .agg (cmCells cm A c).toArray

theorem arity_same (op : Int) (w : World) (hw : WOk w) :
    Calls Tryd.prog 15 #[.int .i64 op] w fun e w' => e = .returned (.int .i64 (ScrM.arity op)) ∧ w' = w :=
  (arity_any op w hw).mono fun _ _ ⟨h1, h2⟩ => ⟨h1, h2.symm⟩

theorem below_drewN {B : Nat} {a w : World} (h : Below B a w) : ∀ n, Below B a (w.drewN n)
  | 0 => h
  | n + 1 => (below_drewN h n).drew

/-- The first part of Valid. -/
def validHead (cm : ScrM.Cm) : Bool := decide (0 ≤ ScrM.arity cm.op) && decide ((cm.args.length : Int) = ScrM.arity cm.op)
/-- The last part of Valid. -/
def validTail (cm : ScrM.Cm) : Bool := ScrM.within cm.cut (-1) 65535 && ScrM.within cm.noise 0 65535 && ScrM.within cm.bytes 0 256 && (decide (0 ≤ cm.cut) || decide (cm.bytes = 0))

theorem valid_split (cm : ScrM.Cm) : ScrM.valid cm = (validHead cm && (cm.args.all (fun n => ScrM.within n 0 65535) && validTail cm)) := by
  simp only [ScrM.valid, validHead, validTail, Bool.and_assoc]

set_option maxHeartbeats 2000000 in
set_option maxRecDepth 100000 in
theorem valid_any (cm : ScrM.Cm) (A : Option Addr) (c : Nat) (w : World) (hw : WOk w) (h : ArgsAt w w.heap.size A c cm.args) (hl : cm.args.length ≤ 100000) :
    Calls Tryd.prog 13 #[cmVal cm A c] w fun e w' => e = .returned (.bool (ScrM.valid cm)) ∧ Below w.heap.size w w' := by
  have HA := Lib.hid h
  clear h
  have hvs := Lib.hid (valid_split cm)
  obtain ⟨op, al, cut, bytes, noise⟩ := cm
  simp only [cmVal, cmCells] at *
  have hbb := (Below.refl w.heap.size w).alloc (Nat.le_refl _) (.cells #[.int .i64 op, .slice A al.length c, .int .i64 cut, .int .i64 bytes, .int .i64 noise] 31)
  have hw1 := hw.later hbb
  by_cases h1 : ScrM.arity op < 0
  · have hd : decide (ScrM.arity op < 0) = true := decide_eq_true h1
    go_enter Tryd.func13, Tryd.ntmps13
    go_wp2_with fail
    go_quiet (first | (go_at_call 15; exact Calls.quiet_of_same (arity_same op _ (hw.later (below_drewN hbb _)))))
    go_wp2_with fail
    go_ret
    refine ⟨ret_bool ?_, below_drewN hbb _⟩
    have h0 : decide (0 ≤ ScrM.arity op) = false := decide_eq_false (by omega)
    rw [hvs.out]
    simp [validHead, h0]
  · have hd : decide (ScrM.arity op < 0) = false := decide_eq_false h1
    by_cases h2 : (al.length : Int) = ScrM.arity op
    · have hq : ((al.length : Int) != ScrM.arity op) = false := by rw [bne, beq_iff_eq.2 h2]; rfl
      have HH := Lib.hid (show validHead ⟨op, al, cut, bytes, noise⟩ = true by simp [validHead, ← h2])
      clear h2
      go_enter Tryd.func13, Tryd.ntmps13
      go_wp2_with fail
      go_quiet (first | (go_at_call 15; exact Calls.quiet_of_same (arity_same op _ (hw.later (below_drewN hbb _)))))
      go_wp2_with fail
      go_loopw [21] (fun i w' => ∃ k m : Nat, k ≤ al.length ∧ i = .int .i64 k ∧ w' = (w.alloc (.cells #[.int .i64 op, .slice A al.length c, .int .i64 cut, .int .i64 bytes, .int .i64 noise] 31)).drewN m ∧ ∀ j (hj : j < al.length), j < k → ScrM.within al[j] 0 65535 = true) (fun i _ => al.length - (intOf i).toNat)
      case atStart => exact ⟨0, nq, by omega, rfl, rfl, fun j _ h => by omega⟩
      case round =>
        obtain ⟨k, m, hk, rfl, rfl, hall⟩ := hrel
        have HALL := Lib.hid hall
        clear hall
        by_cases hlt : k < al.length
        · obtain ⟨g, o, rfl, hg, hcell⟩ := HA.out.2 (fun e => by rw [e] at hlt; simp at hlt)
          have hck := ((below_drewN hbb m).cell (p := ⟨g, o + k, none⟩) hg).trans (hcell k hlt)
          clear hcell
          have hk0 : (0 : Int) ≤ (k : Int) := by omega
          have hk63 : (k : Int) < (al.length : Int) := by omega
          cases hwn : ScrM.within al[k] 0 65535 with
          | false =>
            go_wp2_with fail
            refine (within_any al[k] 0 65535 _).mono ?_
            rintro e w3 ⟨rfl, rfl⟩
            go_wp2_with fail
            go_ret
            refine ⟨ret_bool ?_, below_drewN hbb _⟩
            rw [hvs.out, HH.out]
            have : al.all (fun n => ScrM.within n 0 65535) = false := by
              rw [List.all_eq_false]
              exact ⟨al[k], List.getElem_mem hlt, by rw [hwn]; simp⟩
            rw [this]
            rfl
          | true =>
            go_wp2_with fail
            refine (within_any al[k] 0 65535 _).mono ?_
            rintro e w3 ⟨rfl, rfl⟩
            go_wp2_with fail
            go_roundw
            case rel => exact ⟨k + 1, m, by omega, by go_num, rfl, fun j hj h => if e : j = k then by subst e; exact hwn else HALL.out j hj (by omega)⟩
            case measure => simp [intOf]; omega
        · obtain rfl : k = al.length := by omega
          have HT := Lib.hid (show ScrM.valid ⟨op, al, cut, bytes, noise⟩ = validTail ⟨op, al, cut, bytes, noise⟩ by
            rw [hvs.out, HH.out]
            have : al.all (fun n => ScrM.within n 0 65535) = true := by
              rw [List.all_eq_true]
              intro x hx
              obtain ⟨j, hj, rfl⟩ := List.getElem_of_mem hx
              exact HALL.out j hj hj
            rw [this]
            rfl)
          cases b1 : ScrM.within cut (-1) 65535 <;> cases b2 : ScrM.within noise 0 65535 <;> cases b3 : ScrM.within bytes 0 256 <;> cases b4 : decide (0 ≤ cut) <;> cases b5 : bytes == 0
          all_goals
            go_wp2_with fail
            (refine (within_any cut (-1) 65535 _).mono ?_; rintro e w3 ⟨rfl, rfl⟩; rw [b1]; go_wp2_with fail)
            (try (refine (within_any noise 0 65535 _).mono ?_; rintro e w3 ⟨rfl, rfl⟩; rw [b2]; go_wp2_with fail))
            (try (refine (within_any bytes 0 256 _).mono ?_; rintro e w3 ⟨rfl, rfl⟩; rw [b3]; go_wp2_with fail))
            go_ret
            refine ⟨ret_bool ?_, below_drewN hbb _⟩
            rw [HT.out]
            have b5' : decide (bytes = 0) = (bytes == 0) := by rw [Bool.eq_iff_iff]; simp
            simp only [validTail, b1, b2, b3, b4, b5', b5]
            rfl
    · have hq : ((al.length : Int) != ScrM.arity op) = true := by rw [bne, beq_eq_false_iff_ne.2 h2]; rfl
      go_enter Tryd.func13, Tryd.ntmps13
      go_wp2_with fail
      go_quiet (first | (go_at_call 15; exact Calls.quiet_of_same (arity_same op _ (hw.later (below_drewN hbb _)))))
      go_wp2_with fail
      go_ret
      refine ⟨ret_bool ?_, below_drewN hbb _⟩
      rw [hvs.out]
      simp [validHead, h2]

end Go.Proofs.YtnanhebepjdlcabDoor
