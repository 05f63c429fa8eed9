/- The reference's Show, Same and Alike. -/
import Derived.Test.YtnanhebepjdlcaaDoorWalkF
import Derived.Deep.QuietTactic
import Derived.BigQuiet
namespace Go.Proofs.YtnanhebepjdlcaaDoor
open Go.RowKit

set_option maxHeartbeats 1000000 in
set_option maxRecDepth 100000 in
/-- Two rows that read as one list are the same. -/
theorem same_yes (A A' : Option Addr) (c c' : Nat) (L : List Tz) (B : Nat) (w : World) (h : TkReads w B A L) (h' : TkReads w B A' L) (hn : L.length ≤ 100000) :
    Calls Tryd.prog 12 #[.slice A L.length c, .slice A' L.length c'] w fun e w' => e = .returned (.bool true) ∧ ∃ m, w' = w.drewN m := by
  have HR := Lib.hid h
  have HR' := Lib.hid h'
  clear h h'
  go_enter Tryd.func12, Tryd.ntmps12
  go_wp2_with fail
  go_loopw [5] (fun i w' => ∃ (k m : Nat), k ≤ L.length ∧ i = .int .i64 k ∧ w' = w.drewN m) (fun i _ => L.length - (intOf i).toNat)
  case atStart => exact ⟨0, 0, by omega, rfl, rfl⟩
  case round =>
    obtain ⟨k, m, hk, rfl, rfl⟩ := hrel
    by_cases hlt : k < L.length
    · obtain ⟨b, o, rfl, hbB, h0, h1, h2, h3⟩ := HR.out.at_ hlt
      obtain ⟨b', o', rfl, hbB', g0, g1, g2, g3⟩ := HR'.out.at_ hlt
      have hk0 : (0 : Int) ≤ (k : Int) := by omega
      have hk63 : (k : Int) < (L.length : Int) := by omega
      go_wp2_with fail
      go_quiet (fail)
      go_wp2_with fail
      go_roundw
      case rel => exact ⟨k + 1, m + nq, by omega, by go_num, rfl⟩
      case measure => simp [intOf]; omega
    · go_wp2_with fail
      go_ret
      exact ⟨rfl, m, rfl⟩

/-- Equal but for the offsets. -/
def AlikeZ (L M : List Tz) : Prop := L.length = M.length ∧ ∀ (k : Nat) (h : k < L.length) (h' : k < M.length), L[k].kind = M[k].kind ∧ L[k].text = M[k].text ∧ L[k].n = M[k].n

set_option maxHeartbeats 1000000 in
set_option maxRecDepth 100000 in
theorem alike_yes (A A' : Option Addr) (c c' : Nat) (L M : List Tz) (B : Nat) (w : World) (h : TkReads w B A L) (h' : TkReads w B A' M) (ha : AlikeZ L M) (hn : L.length ≤ 100000) :
    Calls Tryd.prog 16 #[.slice A L.length c, .slice A' M.length c'] w fun e w' => e = .returned (.bool true) ∧ ∃ m, w' = w.drewN m := by
  obtain ⟨hl, ha⟩ := ha
  rw [← hl]
  have HL := Lib.hid hl
  have HA := Lib.hid ha
  have HR := Lib.hid h
  have HR' := Lib.hid h'
  clear h h' ha hl
  go_enter Tryd.func16, Tryd.ntmps16
  go_wp2_with fail
  go_loopw [5] (fun i w' => ∃ (k m : Nat), k ≤ L.length ∧ i = .int .i64 k ∧ w' = w.drewN m) (fun i _ => L.length - (intOf i).toNat)
  case atStart => exact ⟨0, 0, by omega, rfl, rfl⟩
  case round =>
    obtain ⟨k, m, hk, rfl, rfl⟩ := hrel
    by_cases hlt : k < L.length
    · obtain ⟨b, o, rfl, hbB, h0, h1, h2, _⟩ := HR.out.at_ hlt
      obtain ⟨b', o', rfl, hbB', g0, g1, g2, _⟩ := HR'.out.at_ (show k < M.length by rw [← HL.out]; exact hlt)
      obtain ⟨e0, e1, e2⟩ := HA.out k hlt (by rw [← HL.out]; exact hlt)
      rw [← e0] at g0
      rw [← e1] at g1
      rw [← e2] at g2
      clear e0 e1 e2
      have hk0 : (0 : Int) ≤ (k : Int) := by omega
      have hk63 : (k : Int) < (L.length : Int) := by omega
      go_wp2_with fail
      go_quiet (fail)
      go_wp2_with fail
      go_roundw
      case rel => exact ⟨k + 1, m + nq, by omega, by go_num, rfl⟩
      case measure => simp [intOf]; omega
    · go_wp2_with fail
      go_ret
      exact ⟨rfl, m, rfl⟩

theorem sp_snoc : ∀ (l : List (List UInt8)) (x : List UInt8), LexM.joinSp (l ++ [x]) = if l = [] then x else LexM.joinSp l ++ 32 :: x
  | [], x => rfl
  | [y], x => by simp [LexM.joinSp]
  | y :: z :: r, x => by
    have := sp_snoc (z :: r) x
    rw [if_neg (by simp)] at this
    rw [if_neg (by simp)]
    show y ++ 32 :: LexM.joinSp ((z :: r) ++ [x]) = _
    rw [this]
    simp [LexM.joinSp]

def spOf (L : List Tz) (k : Nat) : ByteArray := ⟨(LexM.joinSp ((L.take k).map fun t => bl t.text)).toArray⟩

theorem ret_str {a b : ByteArray} (h : a = b) : Ending.returned (.string a) = .returned (.string b) := by rw [h]

theorem bl_append (a b : ByteArray) : bl (a ++ b) = bl a ++ bl b := by
  show (a ++ b).data.toList = _
  rw [ByteArray.data_append]
  simp

theorem spOf_all (L : List Tz) : spOf L L.length = ⟨(LexM.joinSp (L.map fun t => bl t.text)).toArray⟩ := by
  unfold spOf
  rw [List.take_length]

theorem spOf_more {L : List Tz} {k : Nat} (hk : k < L.length) (h0 : 0 < k) : spOf L k ++ ⟨#[32]⟩ ++ L[k].text = spOf L (k + 1) := by
  refine bl_mk ?_
  rw [bl_append, bl_append, List.take_succ_eq_append_getElem hk, List.map_append]
  show _ = LexM.joinSp (_ ++ [bl L[k].text])
  rw [sp_snoc, if_neg]
  · show _ ++ [32] ++ _ = _
    rw [List.append_assoc]
    rfl
  · intro e
    have h9 : (L.take k).length = 0 := by
      have := congrArg List.length e
      simpa only [List.length_map, List.length_nil] using this
    rw [List.length_take] at h9
    omega

theorem spOf_first {L : List Tz} {k : Nat} (hk : k < L.length) (h0 : ¬ 0 < k) : spOf L k ++ L[k].text = spOf L (k + 1) := by
  obtain rfl : k = 0 := by omega
  refine bl_mk ?_
  rw [bl_append, List.take_succ_eq_append_getElem hk]
  rfl

theorem spOf_size {L : List Tz} {k : Nat} (hx : ∀ t ∈ L, t.text.size ≤ 1500) (hn : k ≤ 1500) : (spOf L k).size ≤ 2251500 := by
  have h := sp_length ((L.take k).map fun t => bl t.text) 1500 fun x hx' => by
    obtain ⟨u, hu, rfl⟩ := List.mem_map.1 hx'
    rw [bl_len]
    exact hx u (List.mem_of_mem_take hu)
  rw [List.length_map] at h
  have h1 : (L.take k).length ≤ k := List.length_take_le _ _
  have h2 : 1501 * (L.take k).length ≤ 1501 * 1500 := Nat.mul_le_mul_left _ (by omega)
  rw [← bl_len]
  show (LexM.joinSp _).length ≤ _
  omega

set_option maxHeartbeats 1000000 in
set_option maxRecDepth 100000 in
theorem refshow_any (A : Option Addr) (c : Nat) (L : List Tz) (B : Nat) (w : World) (h : TkReads w B A L) (hn : L.length ≤ 1500) (hx : ∀ t ∈ L, t.text.size ≤ 1500) :
    Calls Tryd.prog 14 #[.slice A L.length c] w fun e w' => e = .returned (.string ⟨(LexM.joinSp (L.map fun t => bl t.text)).toArray⟩) ∧ ∃ m, w' = w.drewN m := by
  have HR := Lib.hid h
  have HX := Lib.hid hx
  clear h hx
  go_enter Tryd.func14, Tryd.ntmps14
  go_wp2_with fail
  go_loopw [3, 4] (fun v i w' => ∃ (k m : Nat), k ≤ L.length ∧ i = .int .i64 k ∧ w' = w.drewN m ∧ v = .string (spOf L k)) (fun _ i _ => L.length - (intOf i).toNat)
  case atStart => exact ⟨0, 0, by omega, rfl, rfl, rfl⟩
  case round =>
    obtain ⟨k, m, hk, rfl, rfl, rfl⟩ := hrel
    by_cases hlt : k < L.length
    · obtain ⟨b, o, rfl, hbB, _, h1, _, _⟩ := HR.out.at_ hlt
      have hk0 : (0 : Int) ≤ (k : Int) := by omega
      have hk63 : (k : Int) < (L.length : Int) := by omega
      have hs1 := spOf_size HX.out (show k ≤ 1500 by omega)
      have hs2 := HX.out L[k] (List.getElem_mem hlt)
      go_wp2_with fail
      · have h0k : 0 < k := by assumption
        go_roundw
        case rel => exact ⟨k + 1, m, by omega, by go_num, rfl, by rw [← spOf_more hlt h0k]⟩
        case measure => simp [intOf]; omega
      · have h0k : ¬ 0 < k := by omega
        go_roundw
        case rel => exact ⟨k + 1, m, by omega, by go_num, rfl, by rw [← spOf_first hlt h0k]⟩
        case measure => simp [intOf]; omega
    · obtain rfl : k = L.length := by omega
      go_wp2_with fail
      go_ret
      exact ⟨ret_str (spOf_all L), m, rfl⟩

end Go.Proofs.YtnanhebepjdlcaaDoor
