/- ScriptParse: the walk. -/
import Derived.Test.YtnanhebepjdlcabDoorLawA
import Derived.Test.YtnanhebepjdlcabDoorRefL
namespace ScrM

theorem parse_bounds {s : List UInt8} {L : List Cm} {er : Int} (h : parse s = (L, er)) : L.length ≤ 400 ∧ ∀ c ∈ L, c.args.length ≤ 3 := by
  by_cases he : er = 0
  · subst he
    exact ⟨(parse_ok h).2, fun c hc => valid_args (parse_valid h c hc)⟩
  · rw [parse_bad h he]
    exact ⟨Nat.zero_le _, fun c hc => nomatch hc⟩

end ScrM
namespace Go.Proofs.YtnanhebepjdlcabDoor
open Go.RowKit

/-- The reference's Parse, used: the commands can be read. -/
theorem rparse_use (s : ByteArray) (w : World) (hs : s.size ≤ 90000) (L : List ScrM.Cm) (er : Int) (hp : ScrM.parse (bl s) = (L, er)) :
    Calls Tryd.prog 11 #[.string s] w fun e w' => ∃ A c, e = .returned (.tuple #[.slice A L.length c, .int .i64 er]) ∧ CmReads w' w'.heap.size A L ∧ Below w.heap.size w w' := by
  refine (rparse_any s w hs).mono ?_
  rintro e w' ⟨v, M, rfl, hM, ho, hb⟩
  rw [hp] at hM ⊢
  simp only at hM
  obtain ⟨A, n, c, rfl⟩ := own_slice ho.1
  have hn := own_len ho.1
  have hl : M.length = L.length := by rw [← hM, List.length_map]
  rw [hn, hl]
  refine ⟨A, c, rfl, ?_, hb⟩
  rw [← hM]
  exact CmReads.of_own ho

set_option maxHeartbeats 2000000 in
set_option maxRecDepth 100000 in
theorem sparse_any (s : ByteArray) (w : World) (hw : WOk w) (_hm : s.size ≤ maxLen) :
    Calls Tryd.prog 3 #[.string s] w fun e w' => e = .returned (.bool true) ∧ Below w.heap.size w w' := by
  have HW := Lib.hid hw
  by_cases hs : s.size ≤ 3000
  · have hd : decide ((3000 : Int) < (s.size : Int)) = false := decide_eq_false (by omega)
    obtain ⟨L, er, hp⟩ : ∃ L er, ScrM.parse (bl s) = (L, er) := ⟨_, _, rfl⟩
    have hsm := ScrM.parse_bounds hp
    have hL4 := hsm.1
    have HX := Lib.hid (fun (cm : ScrM.Cm) (hcm : cm ∈ L) => (show cm.args.length ≤ 100000 by have := hsm.2 cm hcm; omega))
    have HP := Lib.hid hp
    clear hsm hp
    go_enter Tryd.func3, Tryd.ntmps3
    go_wp2_with fail
    refine (sanity_any w hw).mono ?_
    rintro e w1 ⟨rfl, hb1⟩
    have HB1 := Lib.hid hb1
    clear hb1 hw
    go_wp2_with fail
    refine (parse_use s w1 (HW.out.later HB1.out) (by omega) L er HP.out).mono ?_
    rintro e w2 ⟨A, c, rfl, hr, hb2⟩
    have HR2 := Lib.hid hr
    have HB2 := Lib.hid (HB1.out.trans (hb2.mono HB1.out.size))
    clear hr hb2
    go_wp2_with fail
    refine (rparse_use s w2 (by omega) L er HP.out).mono ?_
    rintro e w3 ⟨A3, c3, rfl, hr3, hb3⟩
    have HQ3 := Lib.hid hr3
    have HR3 := Lib.hid ((HR2.out.below hb3).more hb3.size)
    have HB3 := Lib.hid (HB2.out.trans (hb3.mono HB2.out.size))
    clear hr3 hb3
    have hee : (er == er) = true := beq_self_eq_true er
    go_wp2_with fail
    refine (same_yes A A3 c c3 L w3 HR3.out HQ3.out (by omega) HX.out).mono ?_
    rintro e w4 ⟨rfl, hb4⟩
    go_wp2_with fail
    go_ret
    exact ⟨rfl, HB3.out.trans (hb4.mono HB3.out.size)⟩
  · have hd : decide ((3000 : Int) < (s.size : Int)) = true := decide_eq_true (by omega)
    go_enter Tryd.func3, Tryd.ntmps3
    go_wp2_with fail
    refine (sanity_any w hw).mono ?_
    rintro e w1 ⟨rfl, hb1⟩
    go_wp2_with fail
    go_ret
    exact ⟨rfl, hb1⟩

end Go.Proofs.YtnanhebepjdlcabDoor
