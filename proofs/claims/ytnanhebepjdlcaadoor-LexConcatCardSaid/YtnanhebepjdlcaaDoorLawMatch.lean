/- bootchainlaw12.LexMatches: the call returns true at every string. -/
import Derived.Test.YtnanhebepjdlcaaDoorWalkJ
import Derived.Test.YtnanhebepjdlcaaDoorLawTrip
namespace Go.Proofs.YtnanhebepjdlcaaDoor
open Go.RowKit

theorem reftokens_use (s : ByteArray) (w : World) (hm : s.size ≤ maxLen) (L : List LexM.Tk) (er : Int) (ht : LexM.tokens (bl s) = (L, er)) :
    Calls Tryd.prog 11 #[.string s] w fun e w' => ∃ A c, e = .returned (.tuple #[.slice A L.length c, .int .i64 er]) ∧ TkReads w' w'.heap.size A (L.map toZ) ∧ Below w.heap.size w w' := by
  refine (reftokens_any s w hm).mono ?_
  rintro e w' ⟨v, he, ho, hb⟩
  rw [ht] at he ho
  have hv : ∃ A n c, v = .slice A n c := by
    rcases ho.2 with ⟨rfl, _⟩ | ⟨g, cap, cur, rfl, _⟩
    · exact ⟨_, _, _, rfl⟩
    · exact ⟨_, _, _, rfl⟩
  obtain ⟨A, n, c, rfl⟩ := hv
  obtain ⟨rfl, hr⟩ := TkReads.of_own ho
  exact ⟨A, c, he, hr, hb⟩

theorem same_use (A A' : Option Addr) (c c' B : Nat) (L : List LexM.Tk) (w : World) (h : TkReads w B A (L.map toZ)) (h' : TkReads w B A' (L.map toZ)) (hn : L.length ≤ 100000) :
    Calls Tryd.prog 12 #[.slice A L.length c, .slice A' L.length c'] w fun e w' => e = .returned (.bool true) ∧ ∃ m, w' = w.drewN m := by
  have hs := same_yes A A' c c' (L.map toZ) B w h h' (by simp; omega)
  rw [List.length_map] at hs
  exact hs

theorem tokens_len {l : List UInt8} {L : List LexM.Tk} {er : Int} (hl : l.length ≤ 600) (h : LexM.tokens l = (L, er)) : L.length ≤ 600 := by
  unfold LexM.tokens at h
  split at h
  · injection h with h1 _; rw [← h1]; simp
  · cases hx : LexM.lex l with
    | none => rw [hx] at h; injection h with h1 _; rw [← h1]; simp
    | some m =>
      rw [hx] at h
      injection h with h1 h2
      exact (trip hl (show LexM.tokens l = (L, 0) by rw [← h1]; exact tokens_of_lex (by omega) hx)).1

set_option maxHeartbeats 1000000 in
set_option maxRecDepth 100000 in
theorem match_long (s : ByteArray) (w : World) (hw : WOk w) (hm : s.size ≤ maxLen) (hs : 600 < s.size) :
    Calls Tryd.prog 3 #[.string s] w fun e w' => e = .returned (.bool true) ∧ Below w.heap.size w w' := by
  unfold maxLen at hm
  have h6 : decide ((600 : Int) < s.size) = true := by simp; omega
  go_enter Tryd.func3, Tryd.ntmps3
  go_wp2_with fail
  refine (sanity_any w hw).mono ?_
  rintro e w1 ⟨rfl, hb1⟩
  go_wp2_with fail
  go_ret
  exact ⟨rfl, hb1⟩

set_option maxHeartbeats 1000000 in
set_option maxRecDepth 100000 in
theorem match_short (s : ByteArray) (w : World) (hw : WOk w) (hs : s.size ≤ 600) :
    Calls Tryd.prog 3 #[.string s] w fun e w' => e = .returned (.bool true) ∧ Below w.heap.size w w' := by
  have h6 : decide ((600 : Int) < s.size) = false := by simp; omega
  obtain ⟨L, er, ht⟩ : ∃ L er, LexM.tokens (bl s) = (L, er) := ⟨_, _, rfl⟩
  have hL := tokens_len (by rw [bl_len]; exact hs) ht
  have HT := Lib.hid ht
  clear ht
  go_enter Tryd.func3, Tryd.ntmps3
  go_wp2_with fail
  refine (sanity_any w hw).mono ?_
  rintro e w1 ⟨rfl, hb1⟩
  have HB1 := Lib.hid hb1
  clear hb1
  go_wp2_with fail
  refine (tokens_use s w1 (hw.later HB1.out) (by unfold maxLen; omega) L er HT.out).mono ?_
  rintro e w2 ⟨A, c, rfl, hr2, hb2⟩
  have HR2 := Lib.hid hr2
  have HB2 := Lib.hid (HB1.out.trans (hb2.mono HB1.out.size))
  clear hr2 hb2
  go_wp2_with fail
  refine (reftokens_use s w2 (by unfold maxLen; omega) L er HT.out).mono ?_
  rintro e w3 ⟨A3, c3, rfl, hr3, hb3⟩
  have HR3 := Lib.hid hr3
  have HR23 := Lib.hid ((HR2.out.below hb3).more hb3.size)
  have HB3 := Lib.hid (HB2.out.trans (hb3.mono HB2.out.size))
  clear hr3 hb3
  go_wp2_with fail
  refine (same_use A A3 c c3 _ L w3 HR23.out HR3.out (by omega)).mono ?_
  rintro e w4 ⟨rfl, m, rfl⟩
  go_wp2_with fail
  go_ret
  exact ⟨rfl, below_drewN HB3.out m⟩

theorem match_any (s : ByteArray) (w : World) (hw : WOk w) (hm : s.size ≤ maxLen) :
    Calls Tryd.prog 3 #[.string s] w fun e w' => e = .returned (.bool true) ∧ Below w.heap.size w w' := by
  by_cases hs : s.size ≤ 600
  · exact match_short s w hw hs
  · exact match_long s w hw hm (by omega)

end Go.Proofs.YtnanhebepjdlcaaDoor
