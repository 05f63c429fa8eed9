/- bootchainlaw12.LexOffsets: the call returns true at every string. -/
import Derived.Test.YtnanhebepjdlcaaDoorLawTrip
namespace Go.Proofs.YtnanhebepjdlcaaDoor
open Go.RowKit

theorem blank_yes (c : UInt8) (h : LexM.isBlank c = true) (w : World) : Calls Tryd.prog 15 #[.int .u8 (c.toNat : Int)] w fun e w' => e = .returned (.bool true) ∧ w = w' := by
  have h4 : clsI (c.toNat : Int) = 4 := by
    rw [LexM.isBlank_iff] at h
    unfold clsI
    rw [if_neg (by omega), if_neg (by omega), if_neg (by omega), if_pos (by omega)]
  refine (blank_any (c.toNat : Int) w).mono ?_
  rintro e w' ⟨rfl, rfl⟩
  rw [h4]
  exact ⟨rfl, rfl⟩

theorem empty_of_err {l : List UInt8} {L : List LexM.Tk} {er : Int} (h : LexM.tokens l = (L, er)) (he : er ≠ 0) : L = [] := by
  unfold LexM.tokens at h
  split at h
  · injection h with h1 _; exact h1.symm
  · cases hx : LexM.lex l with
    | none => rw [hx] at h; injection h with h1 _; exact h1.symm
    | some m => rw [hx] at h; injection h with _ h2; exact absurd h2.symm he

set_option maxHeartbeats 1000000 in
set_option maxRecDepth 100000 in
theorem off_long (s : ByteArray) (w : World) (hw : WOk w) (hm : s.size ≤ maxLen) (hs : 600 < s.size) :
    Calls Tryd.prog 5 #[.string s] w fun e w' => e = .returned (.bool true) ∧ Below w.heap.size w w' := by
  unfold maxLen at hm
  have h6 : decide ((600 : Int) < s.size) = true := by simp; omega
  go_enter Tryd.func5, Tryd.ntmps5
  go_wp2_with fail
  refine (sanity_any w hw).mono ?_
  rintro e w1 ⟨rfl, hb1⟩
  go_wp2_with fail
  go_ret
  exact ⟨rfl, hb1⟩

set_option maxHeartbeats 1000000 in
set_option maxRecDepth 100000 in
theorem off_fail (s : ByteArray) (w : World) (hw : WOk w) (hs : s.size ≤ 600) (er : Int) (ht : LexM.tokens (bl s) = ([], er)) (he : er ≠ 0) :
    Calls Tryd.prog 5 #[.string s] w fun e w' => e = .returned (.bool true) ∧ Below w.heap.size w w' := by
  have h6 : decide ((600 : Int) < s.size) = false := by simp; omega
  have hne : (er != 0) = true := by simpa using he
  have HT := Lib.hid ht
  clear ht he
  go_enter Tryd.func5, Tryd.ntmps5
  go_wp2_with fail
  refine (sanity_any w hw).mono ?_
  rintro e w1 ⟨rfl, hb1⟩
  go_wp2_with fail
  refine (tokens_use s w1 (hw.later hb1) (by unfold maxLen; omega) [] er HT.out).mono ?_
  rintro e w2 ⟨A, c, rfl, _, hb2⟩
  go_wp2_with fail
  go_ret
  exact ⟨rfl, hb1.trans (hb2.mono hb1.size)⟩

/-- What the loop of LexOffsets leans on at round k. -/
def OffAt (l : List UInt8) (L : List LexM.Tk) (k p : Nat) : Prop := p ≤ l.length ∧ LexM.Covers p (l.drop p) (L.drop k)

theorem off_step {l : List UInt8} {L : List LexM.Tk} {k p : Nat} (h : OffAt l L k p) (hk : k < L.length) :
    p ≤ L[k].pos ∧ 0 < L[k].text.length ∧ L[k].pos + L[k].text.length ≤ l.length ∧ (∀ j c, p ≤ j → j < L[k].pos → l[j]? = some c → LexM.isBlank c = true) ∧
      (l.drop L[k].pos).take L[k].text.length = L[k].text ∧ OffAt l L (k + 1) (L[k].pos + L[k].text.length) := by
  obtain ⟨hp, hc⟩ := h
  rw [List.drop_eq_getElem_cons hk] at hc
  obtain ⟨b, h1, h2, h3, h4, h5, h6⟩ := hc
  rw [List.length_drop] at h4
  rw [List.drop_drop] at h5 h6
  rw [h1]
  refine ⟨by omega, h3, by omega, fun j c hj hj' hc => ?_, h5.symm, by omega, ?_⟩
  · refine h2 c ?_
    rw [List.mem_iff_getElem?]
    refine ⟨j - p, ?_⟩
    rw [List.getElem?_take, if_pos (by omega), List.getElem?_drop, show p + (j - p) = j by omega]
    exact hc
  · rw [show p + (b + L[k].text.length) = p + b + L[k].text.length by omega] at h6
    exact h6

theorem off_end {l : List UInt8} {L : List LexM.Tk} {p : Nat} (h : OffAt l L L.length p) : ∀ j c, p ≤ j → l[j]? = some c → LexM.isBlank c = true := by
  intro j c hj hc
  have hcv := h.2
  rw [List.drop_length] at hcv
  refine hcv c ?_
  rw [List.mem_iff_getElem?]
  refine ⟨j - p, ?_⟩
  rw [List.getElem?_drop, show p + (j - p) = j by omega]
  exact hc

/-- A counter between two numbers. -/
def InR (p q : Nat) (j : Value) : Prop := ∃ t : Nat, p ≤ t ∧ t ≤ q ∧ j = .int .i64 t

theorem bl_get (s : ByteArray) (j : Nat) (h : j < s.size) : (bl s)[j]? = some s[j] := by
  rw [List.getElem?_eq_getElem (by rw [bl_len]; exact h)]
  rfl

theorem ext_mid (s : ByteArray) (a b : Nat) : (s.extract a b).toList = ((bl s).drop a).take (b - a) := by
  rw [Lib.toList_data, Lib.extract_data]

set_option maxHeartbeats 2000000 in
set_option maxRecDepth 100000 in
theorem off_ok (s : ByteArray) (w : World) (hw : WOk w) (hs : s.size ≤ 600) (L : List LexM.Tk) (ht : LexM.tokens (bl s) = (L, 0)) :
    Calls Tryd.prog 5 #[.string s] w fun e w' => e = .returned (.bool true) ∧ Below w.heap.size w w' := by
  have h6 : decide ((600 : Int) < s.size) = false := by simp; omega
  obtain ⟨hL, -, -⟩ := trip (by rw [bl_len]; exact hs) ht
  have hcv : OffAt (bl s) L 0 0 := ⟨Nat.zero_le _, LexM.scan_covers _ _ _ _ (by omega) (lex_of_tokens ht)⟩
  have HC := Lib.hid hcv
  have HT := Lib.hid ht
  clear ht hcv
  go_enter Tryd.func5, Tryd.ntmps5
  go_wp2_with fail
  refine (sanity_any w hw).mono ?_
  rintro e w1 ⟨rfl, hb1⟩
  have HB1 := Lib.hid hb1
  clear hb1
  go_wp2_with fail
  refine (tokens_use s w1 (hw.later HB1.out) (by unfold maxLen; omega) L 0 HT.out).mono ?_
  rintro e w2 ⟨A, c, rfl, hr2, hb2⟩
  have HR2 := Lib.hid hr2
  have HB2 := Lib.hid (HB1.out.trans (hb2.mono HB1.out.size))
  clear hr2 hb2
  go_wp2_with fail
  go_loopw [6, 7] (fun a i w' => ∃ (k p m : Nat), k ≤ L.length + 1 ∧ i = .int .i64 k ∧ a = .int .i64 p ∧ p ≤ s.size ∧ w' = w2.drewN m ∧ Hid (k ≤ L.length → OffAt (bl s) L k p)) (fun _ i _ => L.length + 1 - (intOf i).toNat)
  case atStart => exact ⟨0, 0, 0, by omega, rfl, rfl, by omega, rfl, fun _ => HC.out⟩
  case round =>
    obtain ⟨k, p, m, hk, rfl, rfl, hp, rfl, HI⟩ := hrel
    by_cases hlt : k < L.length
    · obtain ⟨b, o, rfl, hbB, h0, h1, h2, h3⟩ := HR2.out.at_ (show k < (L.map toZ).length by simpa using hlt)
      obtain ⟨g1, g2, g3, g4, g5, g6⟩ := off_step (HI.out (by omega)) hlt
      obtain ⟨q, hq⟩ : ∃ q, q = L[k].pos := ⟨_, rfl⟩
      obtain ⟨x, hx⟩ : ∃ x : ByteArray, x = ⟨L[k].text.toArray⟩ := ⟨_, rfl⟩
      have hxb : bl x = L[k].text := by rw [hx]
      have hxs : x.size = L[k].text.length := by rw [← bl_len, hxb]
      have h3' : w2.cell? ⟨b, o + k * 4 + 3, none⟩ = some (.int .i64 (q : Int)) := by rw [h3, List.getElem_map, hq]; rfl
      have h1' : w2.cell? ⟨b, o + k * 4 + 1, none⟩ = some (.string x) := by rw [h1, List.getElem_map, hx]; rfl
      rw [← hq] at g1 g3 g4 g5 g6
      rw [← hxs] at g2 g3 g5 g6
      rw [bl_len] at g3
      have hlen : ((k : Int) ≤ (L.length : Int)) := by omega
      have hk0 : (0 : Int) ≤ (k : Int) := by omega
      have hk1 : (k : Int) < (L.length : Int) := by omega
      have hq0 : (0 : Int) ≤ (q : Int) := by omega
      have hq1 : (p : Int) ≤ (q : Int) := by omega
      have hq2 : (q : Int) + (x.size : Int) ≤ (s.size : Int) := by omega
      have hd1 : decide (q < p) = false := by simp; omega
      have hd2 : decide ((s.size : Int) < (q : Int) + (x.size : Int)) = false := by simp; omega
      have hx0 : ((x.size : Int) == 0) = false := beq_eq_false_iff_ne.2 (by omega)
      have hxe : (s.extract q (q + x.size)).toList = x.toList := by
        rw [ext_mid, show q + x.size - q = x.size by omega, g5, Lib.toList_data]
        exact hxb.symm
      have G4 := Lib.hid g4
      have G6 := Lib.hid g6
      have HXE := Lib.hid hxe
      clear h0 h1 h2 h3 g4 g5 g6 hq hx hxb hxs hxe
      go_wp2_with fail
      go_loop [9] (fun j => InR p q j) (fun j => q - (intOf j).toNat)
      case atStart => exact ⟨p, by omega, by omega, rfl⟩
      case round =>
        obtain ⟨t, ht1, ht2, rfl⟩ := hrel
        by_cases htq : t < q
        · have hts : t < s.size := by omega
          have hbt := G4.out t s[t] ht1 htq (bl_get s t hts)
          go_wp2_with fail
          refine (blank_yes s[t] hbt _).mono ?_
          rintro e W ⟨rfl, rfl⟩
          go_wp2_with fail
          go_round
          case rel => exact ⟨t + 1, by omega, by omega, by go_num⟩
          case measure => simp [intOf]; omega
        · obtain rfl : t = q := by omega
          go_wp2_with fail
          go_quiet (fail)
          go_wp2_with fail
          · rename_i hne
            rw [HXE.out] at hne
            simp at hne
          · go_roundw
            case rel => exact ⟨k + 1, t + x.size, m + nq, by omega, by go_num, by go_num, by omega, rfl, fun _ => G6.out⟩
            case measure => simp [intOf]; omega
    · by_cases hke : k = L.length
      · subst hke
        have G4 := Lib.hid (off_end (HI.out (by omega)))
        have hp1 : (p : Int) ≤ (s.size : Int) := by omega
        have hL0 : (0 : Int) ≤ (L.length : Int) := by omega
        go_wp2_with fail
        go_loop [9] (fun j => InR p s.size j) (fun j => s.size - (intOf j).toNat)
        case atStart => exact ⟨p, by omega, by omega, rfl⟩
        case round =>
          obtain ⟨t, ht1, ht2, rfl⟩ := hrel
          by_cases htq : t < s.size
          · have hbt := G4.out t s[t] ht1 (bl_get s t htq)
            go_wp2_with fail
            refine (blank_yes s[t] hbt _).mono ?_
            rintro e W ⟨rfl, rfl⟩
            go_wp2_with fail
            go_round
            case rel => exact ⟨t + 1, by omega, by omega, by go_num⟩
            case measure => simp [intOf]; omega
          · obtain rfl : t = s.size := by omega
            go_wp2_with fail
            go_roundw
            case rel => exact ⟨L.length + 1, p, m, by omega, by go_num, rfl, by omega, rfl, fun h => by omega⟩
            case measure => simp [intOf]
      · obtain rfl : k = L.length + 1 := by omega
        go_wp2_with fail
        go_ret
        exact ⟨rfl, below_drewN HB2.out m⟩

theorem off_any (s : ByteArray) (w : World) (hw : WOk w) (hm : s.size ≤ maxLen) :
    Calls Tryd.prog 5 #[.string s] w fun e w' => e = .returned (.bool true) ∧ Below w.heap.size w w' := by
  by_cases hs : s.size ≤ 600
  · cases ht : LexM.tokens (bl s) with
    | mk L er =>
      by_cases he : er = 0
      · subst he
        exact off_ok s w hw hs L ht
      · obtain rfl := empty_of_err ht he
        exact off_fail s w hw hs er ht he
  · exact off_long s w hw hm (by omega)

end Go.Proofs.YtnanhebepjdlcaaDoor
