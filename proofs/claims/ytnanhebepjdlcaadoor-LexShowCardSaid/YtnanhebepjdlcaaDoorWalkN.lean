/- bootchainlaw12.LexShow: the walk. -/
import Derived.Test.YtnanhebepjdlcaaDoorShowArg
namespace Go.Proofs.YtnanhebepjdlcaaDoor
open Go.RowKit

set_option maxHeartbeats 1000000 in
set_option maxRecDepth 100000 in
theorem shows_long (A : Option Addr) (c : Nat) (L : List Tz) (w : World) (hw : WOk w) (hm : L.length ≤ maxLen) (hs : 100 < L.length) :
    Calls Tryd.prog 4 #[.slice A L.length c] w fun e w' => e = .returned (.bool true) ∧ Below w.heap.size w w' := by
  unfold maxLen at hm
  have h6 : decide ((100 : Int) < L.length) = true := by simp; omega
  go_enter Tryd.func4, Tryd.ntmps4
  go_wp2_with fail
  refine (sanity_any w hw).mono ?_
  rintro e w1 ⟨rfl, hb1⟩
  go_wp2_with fail
  go_ret
  exact ⟨rfl, hb1⟩

set_option maxHeartbeats 1000000 in
set_option maxRecDepth 100000 in
theorem shows_short (A : Option Addr) (c : Nat) (L : List Tz) (w : World) (hw : WOk w) (hr : TkReads w w.heap.size A L) (hx : ∀ t ∈ L, t.text.size ≤ maxLen) (hs : L.length ≤ 100) :
    Calls Tryd.prog 4 #[.slice A L.length c] w fun e w' => e = .returned (.bool true) ∧ Below w.heap.size w w' := by
  have h6 : decide ((100 : Int) < L.length) = false := by simp; omega
  have HR := Lib.hid hr
  have HX := Lib.hid hx
  clear hr hx
  go_enter Tryd.func4, Tryd.ntmps4
  go_wp2_with fail
  refine (sanity_any w hw).mono ?_
  rintro e w1 ⟨rfl, hb1⟩
  have HB1 := Lib.hid hb1
  have HR1 := Lib.hid (HR.out.below hb1)
  clear hb1
  go_wp2_with fail
  go_loopw [4] (fun i w' => ∃ (k m : Nat), k ≤ L.length ∧ i = .int .i64 k ∧ w' = w1.drewN m ∧ Hid (∀ j t, j < k → L[j]? = some t → t.text.size ≤ 100)) (fun i _ => L.length - (intOf i).toNat)
  case atStart => exact ⟨0, 0, by omega, rfl, rfl, fun j t h => by omega⟩
  case round =>
    obtain ⟨k, m, hk, rfl, rfl, HI⟩ := hrel
    by_cases hlt : k < L.length
    · obtain ⟨b, o, rfl, hbB, h0, h1, h2, h3⟩ := HR1.out.at_ hlt
      have hk0 : (0 : Int) ≤ (k : Int) := by omega
      have hk1 : (k : Int) < (L.length : Int) := by omega
      have hxs := HX.out L[k] (List.getElem_mem hlt)
      unfold maxLen at hxs
      by_cases hbig : 100 < L[k].text.size
      · have hbig' : decide ((100 : Int) < (L[k].text.size : Int)) = true := by simp; omega
        go_wp2_with fail
        go_ret
        exact ⟨rfl, below_drewN HB1.out m⟩
      · have hbig' : decide ((100 : Int) < (L[k].text.size : Int)) = false := by simp; omega
        have HI' := Lib.hid (show ∀ j t, j < k + 1 → L[j]? = some t → t.text.size ≤ 100 from fun j t hj ht => by
          rcases Nat.lt_or_ge j k with h | h
          · exact HI.out j t h ht
          · obtain rfl : j = k := by omega
            rw [List.getElem?_eq_getElem hlt] at ht
            injection ht with ht
            subst ht
            omega)
        go_wp2_with fail
        go_roundw
        case rel => exact ⟨k + 1, m, by omega, by go_num, rfl, HI'⟩
        case measure => simp [intOf]; omega
    · obtain rfl : k = L.length := by omega
      have HS := Lib.hid (show ∀ t ∈ L, t.text.size ≤ 1500 from fun t ht => by
        obtain ⟨j, hj, rfl⟩ := List.mem_iff_getElem.1 ht
        have := HI.out j _ hj (List.getElem?_eq_getElem hj)
        omega)
      have HR2 := Lib.hid ((HR1.out.below (below_drewN (Below.refl _ _) m)).more HB1.out.size)
      clear HI
      go_wp2_with fail
      refine (show_any A c L _ HR2.out (by omega) HS.out).mono ?_
      rintro e w2 ⟨rfl, hb2⟩
      have HB2 := Lib.hid ((below_drewN HB1.out m).trans (hb2.mono HB1.out.size))
      have HR3 := Lib.hid (HR2.out.below hb2)
      clear hb2
      go_wp2_with fail
      refine (refshow_any A c L _ _ HR3.out (by omega) HS.out).mono ?_
      rintro e w3 ⟨rfl, m3, rfl⟩
      go_wp2_with fail
      go_ret
      refine ⟨?_, below_drewN HB2.out m3⟩
      simp

theorem shows_any (A : Option Addr) (c : Nat) (L : List Tz) (w : World) (hw : WOk w) (hr : TkReads w w.heap.size A L) (hm : L.length ≤ maxLen) (hx : ∀ t ∈ L, t.text.size ≤ maxLen) :
    Calls Tryd.prog 4 #[.slice A L.length c] w fun e w' => e = .returned (.bool true) ∧ Below w.heap.size w w' := by
  by_cases hs : L.length ≤ 100
  · exact shows_short A c L w hw hr hx hs
  · exact shows_long A c L w hw hm (by omega)

end Go.Proofs.YtnanhebepjdlcaaDoor
