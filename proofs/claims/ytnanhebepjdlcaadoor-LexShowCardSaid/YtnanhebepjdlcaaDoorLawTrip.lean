/- bootchainlaw12.LexRoundTrip: the call returns true at every string. -/
import Derived.Test.YtnanhebepjdlcaaDoorWalkH
namespace Go.Proofs.YtnanhebepjdlcaaDoor
open Go.RowKit

theorem lex_of_tokens {l : List UInt8} {L : List LexM.Tk} (h : LexM.tokens l = (L, 0)) : LexM.lex l = some L := by
  unfold LexM.tokens at h
  split at h
  · cases h
  · cases hx : LexM.lex l with
    | none => rw [hx] at h; cases h
    | some m => rw [hx] at h; injection h with h1 _; rw [h1]

theorem texts_toZ (L : List LexM.Tk) : ((L.map toZ).map fun t => bl t.text) = L.map (·.text) := by
  rw [List.map_map]
  rfl

theorem alike_toZ : ∀ (L M : List LexM.Tk), LexM.Alike L M → AlikeZ (L.map toZ) (M.map toZ)
  | [], [], _ => ⟨rfl, fun k h => by simp at h⟩
  | [], _ :: _, h => h.elim
  | _ :: _, [], h => h.elim
  | a :: L, b :: M, ⟨h0, h1, h2, h3⟩ => by
    obtain ⟨e, f⟩ := alike_toZ L M h3
    refine ⟨by simpa using e, fun k hk hk' => ?_⟩
    cases k with
    | zero => exact ⟨h0, by show (⟨a.text.toArray⟩ : ByteArray) = ⟨b.text.toArray⟩; rw [h1], h2⟩
    | succ k => exact f k (by simpa using hk) (by simpa using hk')

/-- What LexRoundTrip leans on, of a text of at most 600 bytes. -/
theorem trip {l : List UInt8} {L : List LexM.Tk} (hl : l.length ≤ 600) (h : LexM.tokens l = (L, 0)) :
    L.length ≤ 600 ∧ (∀ t ∈ L, t.text.length ≤ 600) ∧ ∃ M, LexM.tokens (LexM.showT L) = (M, 0) ∧ LexM.Alike L M ∧ LexM.showT M = LexM.showT L := by
  have hx := lex_of_tokens h
  have hc := LexM.scan_covers _ _ _ _ (by omega) hx
  obtain ⟨h1, h2⟩ := LexM.covers_total L _ _ hc
  obtain ⟨M, hM, ha⟩ := LexM.show_scan L (LexM.scan_fine _ _ _ _ hx)
  have h3 := LexM.showT_length L
  have htot : ∀ (K : List LexM.Tk), ∀ t ∈ K, t.text.length ≤ LexM.total K := by
    intro K
    induction K with
    | nil => intro t ht; simp at ht
    | cons a K ih =>
      intro t ht
      rcases List.mem_cons.1 ht with rfl | ht
      · simp [LexM.total]
      · have := ih t ht
        simp only [LexM.total]
        omega
  refine ⟨by omega, fun t ht => by have := htot L t ht; omega, M, ?_, ha, (LexM.alike_show ha).symm⟩
  exact tokens_of_lex (by omega) hM

theorem size_toZ {L : List LexM.Tk} {m : Nat} (h : ∀ t ∈ L, t.text.length ≤ m) : ∀ t ∈ L.map toZ, t.text.size ≤ m := by
  intro t ht
  obtain ⟨u, hu, rfl⟩ := List.mem_map.1 ht
  have := h u hu
  show (⟨u.text.toArray⟩ : ByteArray).size ≤ m
  rw [Lib.size_eq]
  simpa using this

theorem showS (L : List LexM.Tk) : LexM.joinSp ((L.map toZ).map fun t => bl t.text) = LexM.showT L := by rw [texts_toZ]; rfl

theorem show_use (A : Option Addr) (c m : Nat) (L : List LexM.Tk) (w : World) (h : TkReads w w.heap.size A (L.map toZ)) (hn : L.length ≤ 1500) (hx : ∀ t ∈ L, t.text.length ≤ m) (hm : m ≤ 1500) :
    Calls Tryd.prog 13 #[.slice A L.length c] w fun e w' => e = .returned (.string ⟨(LexM.showT L).toArray⟩) ∧ Below w.heap.size w w' := by
  have hs := show_any A c (L.map toZ) w h (by simpa using hn) (fun t ht => by have := size_toZ hx t ht; omega)
  rw [showS, List.length_map] at hs
  exact hs

theorem alike_use (A A' : Option Addr) (c c' B : Nat) (L M : List LexM.Tk) (w : World) (h : TkReads w B A (L.map toZ)) (h' : TkReads w B A' (M.map toZ)) (ha : LexM.Alike L M) (hn : L.length ≤ 1500) :
    Calls Tryd.prog 16 #[.slice A L.length c, .slice A' M.length c'] w fun e w' => e = .returned (.bool true) ∧ ∃ m, w' = w.drewN m := by
  have hs := alike_yes A A' c c' (L.map toZ) (M.map toZ) B w h h' (alike_toZ _ _ ha) (by simp; omega)
  rw [List.length_map, List.length_map] at hs
  exact hs

theorem below_drewN {B : Nat} {a w : World} (h : Below B a w) (n : Nat) : Below B a (w.drewN n) := ⟨h.os, h.tape, h.output, h.size, h.block⟩

set_option maxHeartbeats 1000000 in
set_option maxRecDepth 100000 in
theorem trip_long (s : ByteArray) (w : World) (hw : WOk w) (hm : s.size ≤ maxLen) (hs : 600 < s.size) :
    Calls Tryd.prog 6 #[.string s] w fun e w' => e = .returned (.bool true) ∧ Below w.heap.size w w' := by
  unfold maxLen at hm
  have h6 : decide ((600 : Int) < s.size) = true := by simp; omega
  go_enter Tryd.func6, Tryd.ntmps6
  go_wp2_with fail
  refine (sanity_any w hw).mono ?_
  rintro e w1 ⟨rfl, hb1⟩
  go_wp2_with fail
  go_ret
  exact ⟨rfl, hb1⟩

set_option maxHeartbeats 1000000 in
set_option maxRecDepth 100000 in
theorem trip_fail (s : ByteArray) (w : World) (hw : WOk w) (hs : s.size ≤ 600) (L : List LexM.Tk) (er : Int) (ht : LexM.tokens (bl s) = (L, er)) (he : er ≠ 0) :
    Calls Tryd.prog 6 #[.string s] w fun e w' => e = .returned (.bool true) ∧ Below w.heap.size w w' := by
  have h6 : decide ((600 : Int) < s.size) = false := by simp; omega
  have hne : (er != 0) = true := by simpa using he
  have HT := Lib.hid ht
  clear ht he
  go_enter Tryd.func6, Tryd.ntmps6
  go_wp2_with fail
  refine (sanity_any w hw).mono ?_
  rintro e w1 ⟨rfl, hb1⟩
  go_wp2_with fail
  refine (tokens_use s w1 (hw.later hb1) (by unfold maxLen; omega) L er HT.out).mono ?_
  rintro e w2 ⟨A, c, rfl, _, hb2⟩
  go_wp2_with fail
  go_ret
  exact ⟨rfl, hb1.trans (hb2.mono hb1.size)⟩

set_option maxHeartbeats 1000000 in
set_option maxRecDepth 100000 in
theorem trip_ok (s : ByteArray) (w : World) (hw : WOk w) (hs : s.size ≤ 600) (L : List LexM.Tk) (ht : LexM.tokens (bl s) = (L, 0)) :
    Calls Tryd.prog 6 #[.string s] w fun e w' => e = .returned (.bool true) ∧ Below w.heap.size w w' := by
  have h6 : decide ((600 : Int) < s.size) = false := by simp; omega
  obtain ⟨hL, hx, M, hM, ha, hsh⟩ := trip (by rw [bl_len]; exact hs) ht
  obtain ⟨x, hxe⟩ : ∃ x : ByteArray, x = ⟨(LexM.showT L).toArray⟩ := ⟨_, rfl⟩
  have hbx : bl x = LexM.showT L := by rw [hxe]
  rw [← hbx] at hM
  have hxs : x.size ≤ maxLen := by
    have h1 := lex_of_tokens hM
    have h2 : ¬ 1500 < (bl x).length := by
      intro h
      have := hM
      unfold LexM.tokens at this
      rw [if_pos h] at this
      injection this with _ h3
      cases h3
    rw [bl_len] at h2
    unfold maxLen
    omega
  have hlM := LexM.alike_length _ _ ha
  have hxM : ∀ t ∈ M, t.text.length ≤ 600 := by
    have := LexM.alike_text _ _ ha
    intro t htm
    have hmem : t.text ∈ L.map (·.text) := by rw [this]; exact List.mem_map_of_mem htm
    obtain ⟨u, hu, hue⟩ := List.mem_map.1 hmem
    rw [← hue]
    exact hx u hu
  have HT := Lib.hid ht
  have HM := Lib.hid hM
  have HA := Lib.hid ha
  have HS := Lib.hid (hsh)
  have HX := Lib.hid hx
  have HXM := Lib.hid hxM
  have HXE := Lib.hid hxe
  have HLM := Lib.hid hlM
  clear ht hM ha hsh hx hxM hxe hlM hbx
  go_enter Tryd.func6, Tryd.ntmps6
  go_wp2_with fail
  refine (sanity_any w hw).mono ?_
  rintro e w1 ⟨rfl, hb1⟩
  have HB1 := Lib.hid hb1
  clear hb1
  go_wp2_with fail
  refine (tokens_use s w1 (hw.later HB1.out) (by unfold maxLen; omega) L 0 HT.out).mono ?_
  rintro e w2 ⟨A, c, rfl, hr2, hb2⟩
  have HR2 := Lib.hid hr2
  have HB2 := Lib.hid (HB1.out.trans (hb2.mono HB1.out.size))
  clear hr2 hb2
  go_wp2_with fail
  refine (show_use A c 600 L w2 HR2.out (by omega) HX.out (by omega)).mono ?_
  rintro e w3 ⟨rfl, hb3⟩
  rw [← HXE.out]
  have HR3 := Lib.hid ((HR2.out.below hb3).more hb3.size)
  have HB3 := Lib.hid (HB2.out.trans (hb3.mono HB2.out.size))
  clear hb3
  go_wp2_with fail
  refine (tokens_use x w3 (hw.later HB3.out) hxs M 0 HM.out).mono ?_
  rintro e w4 ⟨A4, c4, rfl, hr4, hb4⟩
  have HR4 := Lib.hid hr4
  have HR34 := Lib.hid ((HR3.out.below hb4).more hb4.size)
  have HB4 := Lib.hid (HB3.out.trans (hb4.mono HB3.out.size))
  clear hb4 hr4
  go_wp2_with fail
  refine (alike_use A A4 c c4 _ L M w4 HR34.out HR4.out HA.out (by omega)).mono ?_
  rintro e w5 ⟨rfl, m, rfl⟩
  go_wp2_with fail
  refine (show_use A4 c4 600 M (w4.drewN m) (show TkReads (w4.drewN m) _ _ _ from HR4.out) (by rw [← HLM.out]; omega) HXM.out (by omega)).mono ?_
  rintro e w6 ⟨rfl, hb6⟩
  rw [HS.out, ← HXE.out]
  go_wp2_with fail
  go_ret
  exact ⟨rfl, (below_drewN HB4.out m).trans (hb6.mono HB4.out.size)⟩

theorem trip_any (s : ByteArray) (w : World) (hw : WOk w) (hm : s.size ≤ maxLen) :
    Calls Tryd.prog 6 #[.string s] w fun e w' => e = .returned (.bool true) ∧ Below w.heap.size w w' := by
  by_cases hs : s.size ≤ 600
  · cases ht : LexM.tokens (bl s) with
    | mk L er =>
      by_cases he : er = 0
      · subst he
        exact trip_ok s w hw hs L ht
      · exact trip_fail s w hw hs L er ht he
  · exact trip_long s w hw hm (by omega)

end Go.Proofs.YtnanhebepjdlcaaDoor
