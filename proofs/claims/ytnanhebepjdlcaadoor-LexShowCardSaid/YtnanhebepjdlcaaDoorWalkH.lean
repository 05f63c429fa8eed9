/- bootchainlaw12.sanity: the chapter's example holds. -/
import Derived.Test.YtnanhebepjdlcaaDoorWalkG
namespace Go.Proofs.YtnanhebepjdlcaaDoor
open Go.RowKit

theorem tokens_use (s : ByteArray) (w : World) (hw : WOk w) (hm : s.size ≤ maxLen) (L : List LexM.Tk) (er : Int) (ht : LexM.tokens (bl s) = (L, er)) :
    Calls Tryd.prog 10 #[.string s] w fun e w' => ∃ A c, e = .returned (.tuple #[.slice A L.length c, .int .i64 er]) ∧ TkReads w' w'.heap.size A (L.map toZ) ∧ Below w.heap.size w w' := by
  refine (tokens_any s w hw hm).mono ?_
  rintro e w' ⟨v, he, ho, hb⟩
  rw [ht] at he ho
  have hv : ∃ A n c, v = .slice A n c := by
    rcases ho.2 with ⟨rfl, _⟩ | ⟨g, cap, cur, rfl, _⟩
    · exact ⟨_, _, _, rfl⟩
    · exact ⟨_, _, _, rfl⟩
  obtain ⟨A, n, c, rfl⟩ := hv
  obtain ⟨rfl, hr⟩ := TkReads.of_own ho
  exact ⟨A, c, he, hr, hb⟩

def ex1 : ByteArray := ⟨#[105, 102, 32, 120, 61, 61, 49, 123, 104, 97, 108, 116, 32, 55, 59, 125]⟩
def ex2 : ByteArray := ⟨#[97, 32, 38, 32, 98]⟩
def exL : List LexM.Tk := [⟨1, [105, 102], 0, 0⟩, ⟨1, [120], 0, 3⟩, ⟨3, [61, 61], 0, 4⟩, ⟨2, [49], 1, 6⟩, ⟨3, [123], 0, 7⟩, ⟨1, [104, 97, 108, 116], 0, 8⟩, ⟨2, [55], 7, 13⟩, ⟨3, [59], 0, 14⟩, ⟨3, [125], 0, 15⟩]
theorem ex1_tok : LexM.tokens (bl ex1) = (exL, 0) := by kernel_rfl
theorem ex2_tok : LexM.tokens (bl ex2) = ([], 3) := by kernel_rfl
theorem exShow : LexM.joinSp ((exL.map toZ).map fun t => bl t.text) = [105, 102, 32, 120, 32, 61, 61, 32, 49, 32, 123, 32, 104, 97, 108, 116, 32, 55, 32, 59, 32, 125] := by kernel_rfl

set_option maxHeartbeats 1000000 in
set_option maxRecDepth 100000 in
theorem sanity_any (w : World) (hw : WOk w) : Calls Tryd.prog 9 #[] w fun e w' => e = .returned (.bool true) ∧ Below w.heap.size w w' := by
  have HW := Lib.hid hw
  clear hw
  go_enter Tryd.func9, Tryd.ntmps9
  go_wp2_with fail
  refine (tokens_use ex1 w HW.out (by unfold maxLen; decide) exL 0 ex1_tok).mono ?_
  rintro e w1 ⟨A, c, rfl, hr1, hb1⟩
  have HR1 := Lib.hid hr1
  have HB1 := Lib.hid hb1
  clear hr1 hb1
  go_wp2_with fail
  refine (tokens_use ex2 w1 (HW.out.later HB1.out) (by unfold maxLen; decide) [] 3 ex2_tok).mono ?_
  rintro e w2 ⟨A2, cc, rfl, _, hb2⟩
  have hr2 := HR1.out.below hb2
  have HR2 := Lib.hid (hr2.more hb2.size)
  have HB2 := Lib.hid (HB1.out.trans (hb2.mono HB1.out.size))
  obtain ⟨b, o, rfl, hlt, hc⟩ := hr2 (by decide)
  have a0 : w2.cell? ⟨b, o + 8, none⟩ = some (.int .i64 3) := (hc 2 _ rfl).1
  have a1 : w2.cell? ⟨b, o + 9, none⟩ = some (.string ⟨#[61, 61]⟩) := (hc 2 _ rfl).2.1
  have a2 : w2.cell? ⟨b, o + 10, none⟩ = some (.int .i64 0) := (hc 2 _ rfl).2.2.1
  have a3 : w2.cell? ⟨b, o + 11, none⟩ = some (.int .i64 4) := (hc 2 _ rfl).2.2.2
  have b0 : w2.cell? ⟨b, o + 12, none⟩ = some (.int .i64 2) := (hc 3 _ rfl).1
  have b1 : w2.cell? ⟨b, o + 13, none⟩ = some (.string ⟨#[49]⟩) := (hc 3 _ rfl).2.1
  have b2 : w2.cell? ⟨b, o + 14, none⟩ = some (.int .i64 1) := (hc 3 _ rfl).2.2.1
  have b3 : w2.cell? ⟨b, o + 15, none⟩ = some (.int .i64 6) := (hc 3 _ rfl).2.2.2
  have c0 : w2.cell? ⟨b, o + 20, none⟩ = some (.int .i64 1) := (hc 5 _ rfl).1
  have c1 : w2.cell? ⟨b, o + 21, none⟩ = some (.string ⟨#[104, 97, 108, 116]⟩) := (hc 5 _ rfl).2.1
  have c2 : w2.cell? ⟨b, o + 22, none⟩ = some (.int .i64 0) := (hc 5 _ rfl).2.2.1
  have c3 : w2.cell? ⟨b, o + 23, none⟩ = some (.int .i64 8) := (hc 5 _ rfl).2.2.2
  have d3 : w2.cell? ⟨b, o + 35, none⟩ = some (.int .i64 15) := (hc 8 _ rfl).2.2.2
  clear hc hb2 hr2 hlt
  go_wp2_with fail
  have HS := show_any (some ⟨b, o, none⟩) c (exL.map toZ) w2 HR2.out (by decide) (by decide)
  rw [exShow, List.length_map] at HS
  refine HS.mono ?_
  rintro e w3 ⟨rfl, hb3⟩
  clear HS
  have HB3 := Lib.hid (HB2.out.trans (hb3.mono HB2.out.size))
  clear hb3
  go_wp2_with fail
  go_ret
  exact ⟨rfl, HB3.out⟩

end Go.Proofs.YtnanhebepjdlcaaDoor
