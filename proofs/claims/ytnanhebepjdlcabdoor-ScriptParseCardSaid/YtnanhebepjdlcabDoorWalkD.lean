/- The line of words: number. -/
import Derived.Test.YtnanhebepjdlcabDoorWalkC
import Derived.Lib.AtoiAllCases
import Derived.Test.YtnanhebepjdlcabDoorModelD
namespace Go.Proofs.YtnanhebepjdlcabDoor
open Go.RowKit

theorem LineAt.below {w w' : World} {b K : Nat} {ws : List ByteArray} (h : LineAt w b K ws) (hb : Below w.heap.size w w') : LineAt w' b K ws := by
  obtain ⟨hK, g, o, c, h1, h2, h3, h4, h5, h6, h7⟩ := h
  have h4w := Nat.lt_of_lt_of_le h4 hK
  have h5w := Nat.lt_of_lt_of_le h5 hK
  exact ⟨Nat.le_trans hK hb.size, g, o, c, (hb.cell h5w).trans h1, (hb.frozen h5w).trans h2, h3, h4, h5, h6, fun i x hx => (hb.cell h4w).trans (h7 i x hx)⟩

set_option maxHeartbeats 1000000 in
set_option maxRecDepth 100000 in
theorem number_nil (b K : Nat) (most : Int) (w : World) (h : LineAt w b K []) :
    Calls Tryd.prog 41 #[.pointer (some ⟨b, 0, none⟩), .int .i64 most] w fun e w' => e = .returned (.tuple #[.int .i64 0, .bool false]) ∧ w = w' := by
  obtain ⟨hK, g, o, c, h1, h2, h3, h4, h5, h6, h7⟩ := h
  have h4x := Nat.lt_of_lt_of_le h4 hK
  have h5x := Nat.lt_of_lt_of_le h5 hK
  simp only [List.length_nil] at h1
  clear h7
  go_enter Tryd.func41, Tryd.ntmps41
  go_wp2_with fail
  go_ret2
  exact ⟨rfl, rfl⟩

/-- What number answers to the word x, the words r behind it. -/
def NumPost (b K : Nat) (r : List ByteArray) (hn : Option Nat) (w : World) (e : Ending) (w' : World) : Prop :=
  ∃ n : Int, e = .returned (.tuple #[.int .i64 n, .bool hn.isSome]) ∧ (∀ v, hn = some v → n = (v : Int)) ∧ LineAt w' b K r ∧ w.grownBy w' (some b)

theorem grown_set {w w1 w2 : World} {b : Nat} (hb : Below w.heap.size w w1) (v : Value) (h2 : Below w1.heap.size (w1.setCell ⟨b, 0, none⟩ v) w2) : w.grownBy w2 (some b) :=
  ⟨h2.os.trans hb.os, h2.tape.trans hb.tape, h2.output.trans hb.output, Nat.le_trans hb.size (by have := h2.size; rw [World.size_setCell] at this; exact this), fun k hk hne => by
    have hne' : b ≠ k := fun e => hne (by rw [e])
    rw [h2.block k (Nat.lt_of_lt_of_le hk hb.size), World.setCell]
    show (w1.heap.modify b _)[k]? = _
    rw [Array.getElem?_modify, if_neg hne']
    exact hb.block k hk⟩

theorem WOk.setCell {w : World} {b : Nat} (h : WOk w) (hb : 9 ≤ b) (v : Value) : WOk (w.setCell ⟨b, 0, none⟩ v) :=
  h.below ((Below.refl 9 w).setCell hb v) (Nat.le_refl _)

theorem num_post {b K : Nat} {r : List ByteArray} {hn : Option Nat} {w w1 w2 : World} {v : Value} {n : Int} {t : Bool} (ht : t = hn.isSome) (hv : ∀ v, hn = some v → n = (v : Int)) (hb : Below w.heap.size w w1) (hl : LineAt (w1.setCell ⟨b, 0, none⟩ v) b K r)
    (h2 : Below w1.heap.size (w1.setCell ⟨b, 0, none⟩ v) w2) : NumPost b K r hn w (.returned (.tuple #[.int .i64 n, .bool t])) w2 := by
  subst ht
  exact ⟨n, rfl, hv, hl.below (by rw [World.size_setCell]; exact h2), grown_set hb v h2⟩

theorem num_ok_true {most : Nat} (hm : most ≤ 65535) {x : ByteArray} {v : Int} (hv : Lib.atoiAll (bl x) = .ok v) (hq : Lib.itoa v = bl x) : ScrM.within v 0 (most : Int) = (ScrM.num most (bl x)).isSome ∧ ∀ u, ScrM.num most (bl x) = some u → v = (u : Int) := by
  rw [ScrM.num_of_atoi hm hv]
  by_cases h : 0 ≤ v ∧ v ≤ (most : Int)
  · rw [if_pos ⟨hq, h⟩]
    refine ⟨?_, fun u hu => by injection hu with hu; omega⟩
    simp [ScrM.within, h.1, h.2]
  · rw [if_neg (fun hc => h hc.2)]
    refine ⟨?_, fun u hu => by cases hu⟩
    simp only [ScrM.within, Option.isSome_none, Bool.and_eq_false_iff, decide_eq_false_iff_not]
    omega

theorem num_ok_false {most : Nat} (hm : most ≤ 65535) {x : ByteArray} {v : Int} (hv : Lib.atoiAll (bl x) = .ok v) (hq : ¬ Lib.itoa v = bl x) : ScrM.num most (bl x) = none := by
  rw [ScrM.num_of_atoi hm hv, if_neg (fun hc => hq hc.1)]

theorem itoa_named (v : Int) (h0 : -9223372036854775808 ≤ v) (h1 : v ≤ 9223372036854775807) : ∃ y : ByteArray, bl y = Lib.itoa v ∧ ∀ w, WOk w → Calls Tryd.prog 32 #[.int .i64 v] w fun e w' => e = .returned (.string y) ∧ Below w.heap.size w w' :=
  ⟨⟨(Lib.itoa v).toArray⟩, rfl, fun w hw => itoa_any v h0 h1 w hw⟩

set_option maxHeartbeats 2000000 in
set_option maxRecDepth 100000 in
theorem number_cons (b K : Nat) (r : List ByteArray) (x : ByteArray) (most : Nat) (hmost : most ≤ 65535) (w : World) (hw : WOk w) (hb10 : 9 ≤ b) (h : LineAt w b K (x :: r)) (hl : r.length ≤ 100000) (hx : x.size ≤ 100000) :
    Calls Tryd.prog 41 #[.pointer (some ⟨b, 0, none⟩), .int .i64 (most : Int)] w (NumPost b K r (ScrM.num most (bl x)) w) := by
  have HL := Lib.hid h
  obtain ⟨hK, g, o, c, h1, h2, h3, h4, h5, h6, h7⟩ := h
  have h4x := Nat.lt_of_lt_of_le h4 hK
  have h5x := Nat.lt_of_lt_of_le h5 hK
  have hy := h7 0 x rfl
  rw [Nat.add_zero] at hy
  simp only [List.length_cons] at h1 h6
  have hln : ((r.length : Int) + 1 == 0) = false := beq_eq_false_iff_ne.2 (by omega)
  have H7 := Lib.hid h7
  clear h7
  go_enter Tryd.func41, Tryd.ntmps41
  go_wp2_with fail
  refine (atoi_any x (by omega) w hw).mono ?_
  rintro e w1 ⟨hb1, hcase⟩
  have h1w := (hb1.cell h5x).trans h1
  have h2w := (hb1.frozen h5x).trans h2
  have HB1 := Lib.hid hb1
  have HW1 := Lib.hid (hw.later hb1)
  have hKw := Nat.le_trans hK hb1.size
  have h5w := Nat.lt_of_lt_of_le h5 hKw
  have H7w := Lib.hid (fun i y (hi : (x :: r)[i]? = some y) => (hb1.cell h4x).trans (H7.out i y hi))
  clear hb1 h1 h2 hy
  have hcs : ∃ o' c', (c = 1 → c' = 0 ∧ o' = o ∧ r.length = 0) ∧ (c ≠ 1 → o' = o + 1 ∧ c' = c - 1) ∧ LineAt (w1.setCell ⟨b, 0, none⟩ (.slice (some ⟨g, o', none⟩) r.length c')) b K r := by
    by_cases hc : c = 1
    · have hr : r = [] := List.eq_nil_of_length_eq_zero (by omega)
      exact ⟨o, 0, fun _ => ⟨rfl, rfl, by rw [hr]; rfl⟩, fun h => absurd hc h, LineAt.tail h1w h2w h3 hKw h4 h5 H7w.out (by omega) (.inl hr)⟩
    · exact ⟨o + 1, c - 1, fun h => absurd h hc, fun _ => ⟨rfl, rfl⟩, LineAt.tail h1w h2w h3 hKw h4 h5 H7w.out (by omega) (.inr rfl)⟩
  obtain ⟨o', c', hc1, hc2, hT⟩ := hcs
  rcases hcase with ⟨v, rfl, hv⟩ | ⟨n, N, rfl, hv⟩
  · obtain ⟨b0, b1⟩ := Lib.atoiAll_bounds hv
    obtain ⟨y, hyb, hI⟩ := itoa_named v b0 b1
    by_cases hq : Lib.itoa v = bl x
    · have hyx : (y.toList == x.toList) = true := by
        rw [Lib.toList_data, Lib.toList_data, beq_iff_eq]
        exact hyb.trans hq
      have HQ := Lib.hid (num_ok_true hmost hv hq)
      clear hv hq hyb
      by_cases hc : c = 1
      · obtain ⟨rfl, rfl, hr0⟩ := hc1 hc
        subst hc
        have HT := Lib.hid hT
        have HR0 := Lib.hid hr0
        clear hc1 hc2 hT hr0
        go_wp2_with fail
        refine (hI _ ((HW1.out).setCell hb10 _)).mono ?_
        rintro e w2 ⟨rfl, hb2⟩
        have HB2 := Lib.hid hb2
        clear hb2
        go_wp2_with fail
        refine (within_any v 0 most w2).mono ?_
        rintro e w3 ⟨rfl, rfl⟩
        go_wp2_with fail
        go_ret2
        have ht := HT.out
        rw [HR0.out] at ht
        refine num_post HQ.out.1 HQ.out.2 HB1.out ht ?_
        have := HB2.out
        rw [World.size_setCell] at this
        exact this
      · obtain ⟨rfl, rfl⟩ := hc2 hc
        have hc1' : 1 < c := by omega
        have HT := Lib.hid hT
        clear hc1 hc2 hT hc
        go_wp2_with fail
        refine (hI _ ((HW1.out).setCell hb10 _)).mono ?_
        rintro e w2 ⟨rfl, hb2⟩
        have HB2 := Lib.hid hb2
        clear hb2
        go_wp2_with fail
        refine (within_any v 0 most w2).mono ?_
        rintro e w3 ⟨rfl, rfl⟩
        go_wp2_with fail
        go_ret2
        refine num_post HQ.out.1 HQ.out.2 HB1.out HT.out ?_
        have := HB2.out
        rw [World.size_setCell] at this
        exact this
    · have hyx : (y.toList == x.toList) = false := by
        rw [Lib.toList_data, Lib.toList_data, beq_eq_false_iff_ne]
        exact fun e => hq (hyb.symm.trans e)
      have HN := Lib.hid (num_ok_false hmost hv hq)
      clear hv hq hyb
      by_cases hc : c = 1
      · obtain ⟨rfl, rfl, hr0⟩ := hc1 hc
        subst hc
        have HT := Lib.hid hT
        have HR0 := Lib.hid hr0
        clear hc1 hc2 hT hr0
        go_wp2_with fail
        refine (hI _ ((HW1.out).setCell hb10 _)).mono ?_
        rintro e w2 ⟨rfl, hb2⟩
        have HB2 := Lib.hid hb2
        clear hb2
        go_wp2_with fail
        go_ret2
        have ht := HT.out
        rw [HR0.out] at ht
        rw [HN.out]
        refine num_post rfl (fun _ h => by cases h) HB1.out ht ?_
        have := HB2.out
        rw [World.size_setCell] at this
        exact this
      · obtain ⟨rfl, rfl⟩ := hc2 hc
        have hc1' : 1 < c := by omega
        have HT := Lib.hid hT
        clear hc1 hc2 hT hc
        go_wp2_with fail
        refine (hI _ ((HW1.out).setCell hb10 _)).mono ?_
        rintro e w2 ⟨rfl, hb2⟩
        have HB2 := Lib.hid hb2
        clear hb2
        go_wp2_with fail
        go_ret2
        rw [HN.out]
        refine num_post rfl (fun _ h => by cases h) HB1.out HT.out ?_
        have := HB2.out
        rw [World.size_setCell] at this
        exact this
  · have HN := Lib.hid (ScrM.num_of_fail (most := most) hv)
    clear hv
    by_cases hc : c = 1
    · obtain ⟨rfl, rfl, hr0⟩ := hc1 hc
      subst hc
      have HT := Lib.hid hT
      have HR0 := Lib.hid hr0
      clear hc1 hc2 hT hr0
      go_wp2_with fail
      go_ret2
      have ht := HT.out
      rw [HR0.out] at ht
      rw [HN.out]
      exact num_post rfl (fun _ h => by cases h) HB1.out ht (Below.refl _ _)
    · obtain ⟨rfl, rfl⟩ := hc2 hc
      have hc1' : 1 < c := by omega
      have HT := Lib.hid hT
      clear hc1 hc2 hT hc
      go_wp2_with fail
      go_ret2
      rw [HN.out]
      exact num_post rfl (fun _ h => by cases h) HB1.out HT.out (Below.refl _ _)

theorem number_any (b K : Nat) (ws : List ByteArray) (most : Nat) (hmost : most ≤ 65535) (w : World) (hw : WOk w) (hb10 : 9 ≤ b) (h : LineAt w b K ws) (hl : ws.length ≤ 100000) (hx : ∀ x ∈ ws, x.size ≤ 100000) :
    Calls Tryd.prog 41 #[.pointer (some ⟨b, 0, none⟩), .int .i64 (most : Int)] w (NumPost b K ws.tail (ScrM.hd most (ws.map bl)) w) := by
  cases ws with
  | nil =>
    refine (number_nil b K most w h).mono ?_
    rintro e w' ⟨rfl, rfl⟩
    exact ⟨0, rfl, (fun v hv => nomatch hv), h, World.grownBy.refl _ _⟩
  | cons x r => exact number_cons b K r x most hmost w hw hb10 h (by simp at hl; omega) (hx x (by simp))

end Go.Proofs.YtnanhebepjdlcabDoor
