/- sanity. -/
import Derived.Test.YtnanhebepjdlcabDoorWalkK
import Derived.Test.YtnanhebepjdlcabDoorWalkM
import Derived.Test.YtnanhebepjdlcabDoorWalkO
namespace Go.Proofs.YtnanhebepjdlcabDoor
open Go.RowKit

/-- Parse, used: the commands can be read. -/
theorem parse_use (s : ByteArray) (w : World) (hw : WOk w) (hs : s.size ≤ 90000) (L : List ScrM.Cm) (er : Int) (hp : ScrM.parse (bl s) = (L, er)) :
    Calls Tryd.prog 10 #[.string s] w fun e w' => ∃ A c, e = .returned (.tuple #[.slice A L.length c, .int .i64 er]) ∧ CmReads w' w'.heap.size A L ∧ Below w.heap.size w w' := by
  refine (parse_any s w hw hs).mono ?_
  rintro e w' ⟨v, M, rfl, hM, ho, hb⟩
  rw [hp] at hM ⊢
  simp only at hM
  obtain ⟨A, n, c, rfl⟩ := own_slice ho.1
  have hn := own_len ho.1
  have hl : M.length = L.length := by rw [← hM, List.length_map]
  rw [hn, hl]
  refine ⟨A, c, rfl, ?_, hb⟩
  rw [← hM]
  exact CmReads.of_own ho

def ex1 : ByteArray := ⟨#[98, 111, 111, 116, 32, 48, 32, 99, 117, 116, 32, 49, 55, 32, 51, 32, 110, 111, 105, 115, 101, 32, 53, 10, 10, 32, 113, 117, 111, 116, 101, 32, 49, 32, 50, 32, 48, 10]⟩
def ex2 : ByteArray := ⟨#[98, 111, 111, 116]⟩
def exL : List ScrM.Cm := [⟨1, [0], 17, 3, 5⟩, ⟨12, [1, 2, 0], -1, 0, 0⟩]
theorem ex1_parse : ScrM.parse (bl ex1) = (exL, 0) := by kernel_rfl
theorem ex2_parse : ScrM.parse (bl ex2) = ([], 3) := by kernel_rfl
def ex1T : ByteArray := ⟨#[98, 111, 111, 116, 32, 48, 32, 99, 117, 116, 32, 49, 55, 32, 51, 32, 110, 111, 105, 115, 101, 32, 53, 10, 113, 117, 111, 116, 101, 32, 49, 32, 50, 32, 48, 10]⟩
theorem ex_text : strOf (ScrM.textL exL) = ex1T := by kernel_rfl
theorem ex_valid : ∀ cm ∈ exL, ScrM.valid cm = true := by
  intro cm h
  simp only [exL, List.mem_cons, List.not_mem_nil, or_false] at h
  rcases h with rfl | rfl <;> decide
theorem ex_faults (w : World) (g : Nat) (h : FtRow w g 19 19 17 3 5) :
    (w.cell? ⟨g, 0, none⟩ = some (.bool false) ∧ w.cell? ⟨g, 1, none⟩ = some (.int .i64 0) ∧ w.cell? ⟨g, 2, none⟩ = some (.bool true)) ∧
    (w.cell? ⟨g, 3, none⟩ = some (.bool false) ∧ w.cell? ⟨g, 4, none⟩ = some (.int .i64 0) ∧ w.cell? ⟨g, 5, none⟩ = some (.bool false)) ∧
    w.cell? ⟨g, 8, none⟩ = some (.bool true) ∧ w.cell? ⟨g, 50, none⟩ = some (.bool true) ∧
    (w.cell? ⟨g, 51, none⟩ = some (.bool true) ∧ w.cell? ⟨g, 52, none⟩ = some (.int .i64 3) ∧ w.cell? ⟨g, 53, none⟩ = some (.bool false)) ∧ w.cell? ⟨g, 56, none⟩ = some (.bool true) :=
  ⟨h.cells 0 (by omega), h.cells 1 (by omega), (h.cells 2 (by omega)).2.2, (h.cells 16 (by omega)).2.2, h.cells 17 (by omega), (h.cells 18 (by omega)).2.2⟩

set_option maxHeartbeats 4000000 in
set_option maxRecDepth 100000 in
theorem sanity_any (w : World) (hw : WOk w) : Calls Tryd.prog 9 #[] w fun e w' => e = .returned (.bool true) ∧ Below w.heap.size w w' := by
  have HW := Lib.hid hw
  go_enter Tryd.func9, Tryd.ntmps9
  go_wp2_with fail
  refine (parse_use ex1 w hw (by decide) exL 0 ex1_parse).mono ?_
  rintro e w1 ⟨A, c, rfl, hr1, hb1⟩
  have HR1 := Lib.hid hr1
  have HB1 := Lib.hid hb1
  clear hr1 hb1 hw
  go_wp2_with fail
  refine (parse_use ex2 w1 (HW.out.later HB1.out) (by decide) [] 3 ex2_parse).mono ?_
  rintro e w2 ⟨A2, c2, rfl, _, hb2⟩
  have HB2 := Lib.hid (HB1.out.trans (hb2.mono HB1.out.size))
  have HR2 := Lib.hid ((HR1.out.below hb2).more hb2.size)
  clear hb2
  obtain ⟨g, o, rfl, hg, hc⟩ := HR2.out (by decide)
  obtain ⟨Aa, ca, haa, a0, a1, a2, a3, a4⟩ := hc 0 ⟨1, [0], 17, 3, 5⟩ rfl
  obtain ⟨Ab, cb, hab, b0, b1, b2, b3, b4⟩ := hc 1 ⟨12, [1, 2, 0], -1, 0, 0⟩ rfl
  have HAA := Lib.hid haa
  clear hc haa hab
  simp only [Nat.zero_mul, Nat.one_mul, Nat.add_zero] at a0 a1 a2 a3 a4 b0 b1 b2 b3 b4
  have hE : exL.length = 2 := rfl
  rw [hE]
  go_wp2_with fail
  refine (faults_any ⟨1, [0], 17, 3, 5⟩ Aa ca 19 (by omega) w2).mono ?_
  rintro e w3 ⟨gx, rfl, hgx, hft, hb3⟩
  have HR3 := Lib.hid ((HR2.out.below hb3).more hb3.size)
  have HB3 := Lib.hid (HB2.out.trans (hb3.mono HB2.out.size))
  have HAA3 := Lib.hid ((HAA.out.below hb3).more hb3.size)
  obtain ⟨⟨x00, x01, x02⟩, ⟨x10, x11, x12⟩, x22, x162, ⟨x170, x171, x172⟩, x182⟩ := ex_faults w3 gx hft
  have d0 := (hb3.cell (p := ⟨g, o, none⟩) hg).trans a0
  have d1 := (hb3.cell (p := ⟨g, o + 1, none⟩) hg).trans a1
  have d2 := (hb3.cell (p := ⟨g, o + 2, none⟩) hg).trans a2
  have d3 := (hb3.cell (p := ⟨g, o + 3, none⟩) hg).trans a3
  have d4 := (hb3.cell (p := ⟨g, o + 4, none⟩) hg).trans a4
  have e2 := (hb3.cell (p := ⟨g, o + 5 + 2, none⟩) hg).trans b2
  have hgl := Nat.lt_of_lt_of_le hg hb3.size
  clear a0 a1 a2 a3 a4 b0 b1 b2 b3 b4 hb3 hft
  go_wp2_with fail
  refine (text_any (some ⟨g, o, none⟩) c exL w3 (HW.out.later HB3.out) HR3.out ex_valid (by decide)).mono ?_
  rintro e w4 ⟨rfl, hb4⟩
  have y00 := (hb4.cell (p := ⟨gx, 0, none⟩) hgx).trans x00
  have y01 := (hb4.cell (p := ⟨gx, 1, none⟩) hgx).trans x01
  have y02 := (hb4.cell (p := ⟨gx, 2, none⟩) hgx).trans x02
  have y10 := (hb4.cell (p := ⟨gx, 3, none⟩) hgx).trans x10
  have y11 := (hb4.cell (p := ⟨gx, 4, none⟩) hgx).trans x11
  have y12 := (hb4.cell (p := ⟨gx, 5, none⟩) hgx).trans x12
  have y22 := (hb4.cell (p := ⟨gx, 8, none⟩) hgx).trans x22
  have y162 := (hb4.cell (p := ⟨gx, 50, none⟩) hgx).trans x162
  have y170 := (hb4.cell (p := ⟨gx, 51, none⟩) hgx).trans x170
  have y171 := (hb4.cell (p := ⟨gx, 52, none⟩) hgx).trans x171
  have y172 := (hb4.cell (p := ⟨gx, 53, none⟩) hgx).trans x172
  have y182 := (hb4.cell (p := ⟨gx, 56, none⟩) hgx).trans x182
  have f0 := (hb4.cell (p := ⟨g, o, none⟩) hgl).trans d0
  have f1 := (hb4.cell (p := ⟨g, o + 1, none⟩) hgl).trans d1
  have f2 := (hb4.cell (p := ⟨g, o + 2, none⟩) hgl).trans d2
  have f3 := (hb4.cell (p := ⟨g, o + 3, none⟩) hgl).trans d3
  have f4 := (hb4.cell (p := ⟨g, o + 4, none⟩) hgl).trans d4
  have k2 := (hb4.cell (p := ⟨g, o + 5 + 2, none⟩) hgl).trans e2
  have HB4 := Lib.hid (HB3.out.trans (hb4.mono HB3.out.size))
  have HAA4 := Lib.hid ((HAA3.out.below hb4).more hb4.size)
  clear d0 d1 d2 d3 d4 e2 x00 x01 x02 x10 x11 x12 x22 x162 x170 x171 x172 x182 hb4
  rw [ex_text]
  have hty : (ex1T.toList == ex1T.toList) = true := by simp
  have htz : (ex1T.toList == [98, 111, 111, 116, 32, 48, 32, 99, 117, 116, 32, 49, 55, 32, 51, 32, 110, 111, 105, 115, 101, 32, 53, 10, 113, 117, 111, 116, 101, 32, 49, 32, 50, 32, 48, 10]) = true := by rw [Lib.toList_data]; rfl
  go_wp2_with fail
  refine (arity_any 12 w4 (HW.out.later HB4.out)).mono ?_
  rintro e w5 ⟨rfl, rfl⟩
  rw [show ScrM.arity 12 = 3 from rfl]
  go_wp2_with fail
  refine (arity_any 21 w4 (HW.out.later HB4.out)).mono ?_
  rintro e w5 ⟨rfl, rfl⟩
  rw [show ScrM.arity 21 = -1 from rfl]
  go_wp2_with fail
  refine (valid_any ⟨1, [0], 17, 3, 5⟩ Aa ca w4 (HW.out.later HB4.out) HAA4.out (by decide)).mono ?_
  rintro e w6 ⟨rfl, hb6⟩
  rw [show ScrM.valid ⟨1, [0], 17, 3, 5⟩ = true by decide]
  go_wp2_with fail
  go_ret
  exact ⟨rfl, HB4.out.trans (hb6.mono HB4.out.size)⟩

end Go.Proofs.YtnanhebepjdlcabDoor
