/- bootchainlaw12.LexNumbers: the walk. -/
import Derived.Test.YtnanhebepjdlcaaDoorLawNum
namespace Go.Proofs.YtnanhebepjdlcaaDoor
open Go.RowKit

theorem decS_size {x : Nat} (hx : x < 1000000) : (decS x).size ≤ 6 := by
  rw [← bl_len, decS_bl]
  exact num_len hx

theorem zero_size {s : ByteArray} (h : s.size ≤ 6) : ((⟨#[48]⟩ : ByteArray) ++ s).size ≤ maxLen := by
  rw [ByteArray.size_append, show (⟨#[48]⟩ : ByteArray).size = 1 from rfl]
  unfold maxLen
  omega

set_option maxHeartbeats 1000000 in
set_option maxRecDepth 100000 in
theorem numbers_big (n : Nat) (hn : n < 4294967296) (w : World) (hw : WOk w) (h6 : 65536 ≤ n % 200000) :
    Calls Tryd.prog 8 #[.int .u32 (n : Int)] w fun e w' => e = .returned (.bool true) ∧ Below w.heap.size w w' := by
  obtain ⟨x, hx⟩ : ∃ x, x = n % 200000 := ⟨_, rfl⟩
  have hxl : x < 200000 := by omega
  rw [← hx] at h6
  have hxe : ((n : Int) % 200000) = (x : Int) := by omega
  have h6' : decide ((65536 : Int) ≤ (x : Int)) = true := by simp; omega
  obtain ⟨s, hs⟩ : ∃ s, s = decS x := ⟨_, rfl⟩
  have hsz : s.size ≤ 6 := by rw [hs]; exact decS_size (by omega)
  have ht1 : LexM.tokens (bl s) = ([], 3) := by
    rw [hs, decS_bl, num_tok (by omega), if_neg (by omega)]
  have ht2 : LexM.tokens (bl ((⟨#[48]⟩ : ByteArray) ++ s)) = ([], 3) := by
    rw [bl_append, hs, decS_bl]
    exact zero_tok (by omega)
  have HS := Lib.hid hs
  have HT1 := Lib.hid ht1
  have HT2 := Lib.hid ht2
  clear hs ht1 ht2 hx
  go_enter Tryd.func8, Tryd.ntmps8
  go_wp2_with fail
  refine (sanity_any w hw).mono ?_
  rintro e w1 ⟨rfl, hb1⟩
  have HB1 := Lib.hid hb1
  clear hb1
  go_wp2_with fail
  rw [hxe]
  refine (decimal_any x (by omega) w1).mono ?_
  rintro e w2 ⟨rfl, hb2⟩
  rw [← HS.out]
  have HB2 := Lib.hid (HB1.out.trans (hb2.mono HB1.out.size))
  clear hb2
  go_wp2_with fail
  refine (tokens_use s w2 (hw.later HB2.out) (by unfold maxLen; omega) [] 3 HT1.out).mono ?_
  rintro e w3 ⟨A, c, rfl, -, hb3⟩
  have HB3 := Lib.hid (HB2.out.trans (hb3.mono HB2.out.size))
  clear hb3
  go_wp2_with fail
  refine (tokens_use _ w3 (hw.later HB3.out) (zero_size hsz) [] 3 HT2.out).mono ?_
  rintro e w4 ⟨A4, c4, rfl, -, hb4⟩
  have HB4 := Lib.hid (HB3.out.trans (hb4.mono HB3.out.size))
  clear hb4
  go_wp2_with fail
  go_ret
  exact ⟨rfl, HB4.out⟩

set_option maxHeartbeats 1000000 in
set_option maxRecDepth 100000 in
theorem numbers_small (n : Nat) (hn : n < 4294967296) (w : World) (hw : WOk w) (h6 : n % 200000 < 65536) :
    Calls Tryd.prog 8 #[.int .u32 (n : Int)] w fun e w' => e = .returned (.bool true) ∧ Below w.heap.size w w' := by
  obtain ⟨x, hx⟩ : ∃ x, x = n % 200000 := ⟨_, rfl⟩
  have hxl : x < 200000 := by omega
  rw [← hx] at h6
  have hxe : ((n : Int) % 200000) = (x : Int) := by omega
  have h6' : decide ((65536 : Int) ≤ (x : Int)) = false := by simp; omega
  obtain ⟨s, hs⟩ : ∃ s, s = decS x := ⟨_, rfl⟩
  have hsz : s.size ≤ 6 := by rw [hs]; exact decS_size (by omega)
  have ht1 : LexM.tokens (bl s) = ([{ kind := 2, text := bl s, n := (x : Int), pos := 0 }], 0) := by
    rw [hs, decS_bl, num_tok (by omega), if_pos (by omega)]
  have ht2 : LexM.tokens (bl ((⟨#[48]⟩ : ByteArray) ++ s)) = ([], 3) := by
    rw [bl_append, hs, decS_bl]
    exact zero_tok (by omega)
  have HS := Lib.hid hs
  have HT1 := Lib.hid ht1
  have HT2 := Lib.hid ht2
  clear hs ht1 ht2 hx
  go_enter Tryd.func8, Tryd.ntmps8
  go_wp2_with fail
  refine (sanity_any w hw).mono ?_
  rintro e w1 ⟨rfl, hb1⟩
  have HB1 := Lib.hid hb1
  clear hb1
  go_wp2_with fail
  rw [hxe]
  refine (decimal_any x (by omega) w1).mono ?_
  rintro e w2 ⟨rfl, hb2⟩
  rw [← HS.out]
  have HB2 := Lib.hid (HB1.out.trans (hb2.mono HB1.out.size))
  clear hb2
  go_wp2_with fail
  refine (tokens_use s w2 (hw.later HB2.out) (by unfold maxLen; omega) _ 0 HT1.out).mono ?_
  rintro e w3 ⟨A, c, rfl, hr3, hb3⟩
  have HR3 := Lib.hid hr3
  have HB3 := Lib.hid (HB2.out.trans (hb3.mono HB2.out.size))
  clear hb3 hr3
  go_wp2_with fail
  refine (tokens_use _ w3 (hw.later HB3.out) (zero_size hsz) [] 3 HT2.out).mono ?_
  rintro e w4 ⟨A4, c4, rfl, -, hb4⟩
  have HR4 := Lib.hid (HR3.out.below hb4)
  have HB4 := Lib.hid (HB3.out.trans (hb4.mono HB3.out.size))
  clear hb4
  obtain ⟨b, o, rfl, hbB, h0, h1, h2, h3⟩ := HR4.out.at_ (show 0 < _ by simp)
  have hts : (toZ { kind := 2, text := bl s, n := (x : Int), pos := 0 }).text = s := bl_mk rfl
  simp only [List.map_cons, List.map_nil, List.getElem_cons_zero] at h0 h1 h2 h3
  rw [hts] at h1
  have h0' : w4.cell? ⟨b, o, none⟩ = some (.int .i64 2) := h0
  have h1' : w4.cell? ⟨b, o + 1, none⟩ = some (.string s) := by rw [← h1]
  have h2' : w4.cell? ⟨b, o + 2, none⟩ = some (.int .i64 (x : Int)) := by rw [← show _ = some (Value.int .i64 (x : Int)) from h2]
  have h3' : w4.cell? ⟨b, o + 3, none⟩ = some (.int .i64 0) := by rw [← show _ = some (Value.int .i64 (0 : Int)) from h3]
  clear h0 h1 h2 h3
  go_wp2_with fail
  go_ret
  refine ⟨?_, HB4.out⟩
  simp

theorem numbers_any (n : Nat) (hn : n < 4294967296) (w : World) (hw : WOk w) :
    Calls Tryd.prog 8 #[.int .u32 (n : Int)] w fun e w' => e = .returned (.bool true) ∧ Below w.heap.size w w' := by
  by_cases h : 65536 ≤ n % 200000
  · exact numbers_big n hn w hw h
  · exact numbers_small n hn w hw (by omega)

end Go.Proofs.YtnanhebepjdlcaaDoor
