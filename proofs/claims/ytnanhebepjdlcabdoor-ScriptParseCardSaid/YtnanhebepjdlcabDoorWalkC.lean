/- The line of words: word, number. -/
import Derived.Test.YtnanhebepjdlcabDoorWalkB
import Derived.Test.YtnanhebepjdlcabDoorModelC
import Derived.Deep.RegionHeld
namespace Go.Proofs.YtnanhebepjdlcabDoor
open Go.RowKit

/-- The line at block b: the words ws that are left; its blocks lie below K. -/
def LineAt (w : World) (b K : Nat) (ws : List ByteArray) : Prop :=
  K ≤ w.heap.size ∧ ∃ g o c, w.cell? ⟨b, 0, none⟩ = some (.slice (some ⟨g, o, none⟩) ws.length c) ∧ w.frozen? ⟨b, 0, none⟩ = false ∧ g ≠ b ∧ g < K ∧ b < K ∧ ws.length ≤ c ∧
    ∀ i x, ws[i]? = some x → w.cell? ⟨g, o + i, none⟩ = some (.string x)

set_option maxHeartbeats 1000000 in
set_option maxRecDepth 100000 in
theorem word_no (b K : Nat) (ws : List ByteArray) (x : ByteArray) (w : World) (h : LineAt w b K ws) (hl : ws.length ≤ 100000) (hne : ws.head? ≠ some x) :
    Calls Tryd.prog 42 #[.pointer (some ⟨b, 0, none⟩), .string x] w fun e w' => e = .returned (.bool false) ∧ w = w' := by
  obtain ⟨hK, g, o, c, h1, h2, h3, h4, h5, h6, h7⟩ := h
  have h5w := Nat.lt_of_lt_of_le h5 hK
  cases ws with
  | nil =>
    simp only [List.length_nil] at h1
    clear h7 hne
    go_enter Tryd.func42, Tryd.ntmps42
    go_wp2_with fail
    go_ret
    exact ⟨rfl, rfl⟩
  | cons y r =>
    have hy := h7 0 y rfl
    rw [Nat.add_zero] at hy
    have hyx : (y.toList == x.toList) = false := by
      rw [beq_eq_false_iff_ne]
      intro e
      refine hne ?_
      rw [Lib.toList_data, Lib.toList_data] at e
      obtain ⟨⟨y⟩⟩ := y
      obtain ⟨⟨x⟩⟩ := x
      have : y = x := e
      rw [this]
      rfl
    have hyx' : (!(y.toList == x.toList)) = true := by rw [hyx]; rfl
    have hln : ((r.length : Int) + 1 == 0) = false := beq_eq_false_iff_ne.2 (by omega)
    simp only [List.length_cons] at h1 hl
    have hn0 : (((r.length + 1 : Nat) : Int) == 0) = false := beq_eq_false_iff_ne.2 (by omega)
    clear h7 hne
    go_enter Tryd.func42, Tryd.ntmps42
    go_wp2_with fail
    go_ret
    exact ⟨rfl, rfl⟩

/-- The first word is gone. -/
theorem LineAt.tail {w : World} {b K g o o' c c' : Nat} {x : ByteArray} {r : List ByteArray} (h1 : w.cell? ⟨b, 0, none⟩ = some (.slice (some ⟨g, o, none⟩) (r.length + 1) c)) (h2 : w.frozen? ⟨b, 0, none⟩ = false) (h3 : g ≠ b) (hK : K ≤ w.heap.size) (h4 : g < K) (h5 : b < K)
    (h7 : ∀ i y, (x :: r)[i]? = some y → w.cell? ⟨g, o + i, none⟩ = some (.string y)) (hc : r.length ≤ c') (ho : r = [] ∨ o' = o + 1) : LineAt (w.setCell ⟨b, 0, none⟩ (.slice (some ⟨g, o', none⟩) r.length c')) b K r := by
  refine ⟨?_, g, o', c', World.cell?_setCell_same _ _ _ h1, ?_, h3, h4, h5, hc, fun i y hy => ?_⟩
  · rw [World.size_setCell]; exact hK
  · rw [World.frozen?_setCell]; exact h2
  · rcases ho with rfl | rfl
    · simp at hy
    · rw [World.cell?_setCell_far _ _ _ _ (fun e => h3 e.symm)]
      have := h7 (i + 1) y (by simpa using hy)
      rw [show o + 1 + i = o + (i + 1) by omega]
      exact this

set_option maxHeartbeats 1000000 in
set_option maxRecDepth 100000 in
theorem word_yes (b K : Nat) (r : List ByteArray) (x : ByteArray) (w : World) (h : LineAt w b K (x :: r)) (hl : r.length ≤ 100000) :
    Calls Tryd.prog 42 #[.pointer (some ⟨b, 0, none⟩), .string x] w fun e w' => e = .returned (.bool true) ∧ (∃ v, w' = w.setCell ⟨b, 0, none⟩ v) ∧ LineAt w' b K r := by
  obtain ⟨hK, g, o, c, h1, h2, h3, h4, h5, h6, h7⟩ := h
  have h5w := Nat.lt_of_lt_of_le h5 hK
  have hy := h7 0 x rfl
  rw [Nat.add_zero] at hy
  have hyx : (x.toList == x.toList) = true := by simp
  have hyx' : (!(x.toList == x.toList)) = false := by simp
  simp only [List.length_cons] at h1 h6
  have hln : ((r.length : Int) + 1 == 0) = false := beq_eq_false_iff_ne.2 (by omega)
  have H7 := Lib.hid h7
  have H1 := Lib.hid h1
  clear h7
  by_cases hc : c = 1
  · subst hc
    have hr : r = [] := List.eq_nil_of_length_eq_zero (by omega)
    have HT := Lib.hid (LineAt.tail (o' := o) (c' := 0) H1.out h2 h3 hK h4 h5 H7.out (by omega) (.inl hr))
    have HR0 := Lib.hid (show r.length = 0 by omega)
    clear hr
    go_enter Tryd.func42, Tryd.ntmps42
    go_wp2_with fail
    go_ret
    have ht := HT.out
    rw [HR0.out] at ht
    exact ⟨rfl, ⟨_, rfl⟩, ht⟩
  · have hc1 : 1 < c := by omega
    have HT := Lib.hid (LineAt.tail (o' := o + 1) (c' := c - 1) H1.out h2 h3 hK h4 h5 H7.out (by omega) (.inr rfl))
    go_enter Tryd.func42, Tryd.ntmps42
    go_wp2_with fail
    go_ret
    exact ⟨rfl, ⟨_, rfl⟩, HT.out⟩

end Go.Proofs.YtnanhebepjdlcabDoor
