/- The reference's number. -/
import Derived.Test.YtnanhebepjdlcabDoorModelE
import Derived.Test.YtnanhebepjdlcabDoorWalkA
namespace Go.Proofs.YtnanhebepjdlcabDoor
open Go.RowKit

theorem bl_size (x : ByteArray) : (bl x).length = x.size := (Lib.size_eq x).symm

theorem beq_cast (a b : Nat) : ((a : Int) == (b : Int)) = (a == b) := by
  rw [Bool.eq_iff_iff, beq_iff_eq, beq_iff_eq]
  omega

theorem bl_at (x : ByteArray) (k : Nat) (hk : k < x.size) : (bl x)[k]? = some x[k] := by
  rw [List.getElem?_eq_getElem (by rw [bl_size]; exact hk)]
  rfl

theorem bl_head (x : ByteArray) (h : 0 < x.size) : (bl x).head? = some x[0] := by
  rw [List.head?_eq_getElem?]
  exact bl_at x 0 h

def nvOf (x : ByteArray) (k : Nat) : Nat := ScrM.numVal ((bl x).take k)

theorem nv_zero (x : ByteArray) : nvOf x 0 = 0 := rfl
theorem nv_all (x : ByteArray) : nvOf x x.size = ScrM.numVal (bl x) := by
  unfold nvOf
  rw [List.take_of_length_le (by rw [bl_size]; omega)]
theorem nv_step (x : ByteArray) (k : Nat) (hk : k < x.size) : nvOf x (k + 1) = 10 * nvOf x k + (x[k].toNat - 48) := by
  unfold nvOf
  rw [List.take_succ_eq_append_getElem (by rw [bl_size]; exact hk), ScrM.numVal_snoc]
  rfl

/-- The first k bytes are digits. -/
def digsTo (x : ByteArray) (k : Nat) : Prop := ∀ c ∈ (bl x).take k, ScrM.isDigit c = true

theorem nv_lt (x : ByteArray) (k : Nat) (hd : digsTo x k) (hk : k ≤ 5) : nvOf x k < 100000 := by
  have h := ScrM.numVal_lt (w := (bl x).take k) hd
  have h1 : 10 ^ ((bl x).take k).length ≤ 10 ^ 5 := Nat.pow_le_pow_right (by omega) (Nat.le_trans (List.length_take_le _ _) hk)
  unfold nvOf
  omega

theorem digs_next {x : ByteArray} {k : Nat} (h : digsTo x k) (hk : k < x.size) (h0 : 48 ≤ x[k].toNat) (h1 : x[k].toNat ≤ 57) : digsTo x (k + 1) := by
  intro c hc
  rw [List.take_succ_eq_append_getElem (by rw [bl_size]; exact hk)] at hc
  rcases List.mem_append.1 hc with hc | hc
  · exact h c hc
  · obtain rfl : c = x[k] := List.mem_singleton.1 hc
    simp only [ScrM.isDigit, Bool.and_eq_true, decide_eq_true_eq]
    exact ⟨h0, h1⟩

theorem numI_at {x : ByteArray} {most k : Nat} (hk : k < x.size) (h : x[k].toNat < 48 ∨ 57 < x[k].toNat) : ScrM.numI most (bl x) = -1 := by
  refine ScrM.numI_digit (List.mem_of_getElem? (bl_at x k hk)) ?_
  simp only [ScrM.isDigit, Bool.and_eq_false_iff, decide_eq_false_iff_not]
  omega

set_option maxHeartbeats 400000 in
set_option maxRecDepth 100000 in
theorem rnum_none (x : ByteArray) (most : Int) (h0 : x.size = 0) (w : World) :
    Calls Tryd.prog 43 #[.string x, .int .i64 most] w fun e w' => e = .returned (.int .i64 (-1)) ∧ w = w' := by
  have hd1 : decide ((x.size : Int) < 1) = true := by simp; omega
  clear h0
  go_enter Tryd.func43, Tryd.ntmps43
  go_wp2_with fail
  go_ret
  exact ⟨rfl, rfl⟩

set_option maxHeartbeats 400000 in
set_option maxRecDepth 100000 in
theorem rnum_long (x : ByteArray) (most : Int) (hs : x.size ≤ 1000000) (h5 : 5 < x.size) (w : World) :
    Calls Tryd.prog 43 #[.string x, .int .i64 most] w fun e w' => e = .returned (.int .i64 (-1)) ∧ w = w' := by
  have hd1 : decide ((x.size : Int) < 1) = false := by simp; omega
  have hd5 : decide ((5 : Int) < (x.size : Int)) = true := by simp; omega
  go_enter Tryd.func43, Tryd.ntmps43
  go_wp2_with fail
  go_ret
  exact ⟨rfl, rfl⟩

set_option maxHeartbeats 400000 in
set_option maxRecDepth 100000 in
theorem rnum_zero (x : ByteArray) (most : Int) (h5 : x.size ≤ 5) (h1 : 1 < x.size) (h48 : ((x[0].toNat : Int) == 48) = true) (w : World) :
    Calls Tryd.prog 43 #[.string x, .int .i64 most] w fun e w' => e = .returned (.int .i64 (-1)) ∧ w = w' := by
  have hd0 : decide ((x.size : Int) < 1) = false := by simp; omega
  have hd5 : decide ((5 : Int) < (x.size : Int)) = false := by simp; omega
  have hd1 : decide ((1 : Int) < (x.size : Int)) = true := by simp; omega
  have hx0 : (0 : Int) < (x.size : Int) := by omega
  go_enter Tryd.func43, Tryd.ntmps43
  go_wp2_with fail
  go_ret
  exact ⟨rfl, rfl⟩

set_option maxHeartbeats 2000000 in
set_option maxRecDepth 100000 in
theorem rnum_loop (x : ByteArray) (most : Nat) (h0 : 0 < x.size) (h5 : x.size ≤ 5) (b48 b1 : Bool) (h48 : ((x[0].toNat : Int) == 48) = b48) (h1 : decide ((1 : Int) < (x.size : Int)) = b1) (hb : (b48 && b1) = false) (w : World) :
    Calls Tryd.prog 43 #[.string x, .int .i64 (most : Int)] w fun e w' => e = .returned (.int .i64 (ScrM.numI most (bl x))) ∧ w = w' := by
  have hdz : decide ((x.size : Int) < 1) = false := by simp; omega
  have hd5 : decide ((5 : Int) < (x.size : Int)) = false := by simp; omega
  have hx0 : (0 : Int) < (x.size : Int) := by omega
  have HV := Lib.hid (fun (hd : digsTo x x.size) => (show ScrM.numI most (bl x) = if nvOf x x.size ≤ most then (nvOf x x.size : Int) else -1 by
    rw [nv_all]
    refine ScrM.numI_val (by rw [bl_size]; omega) (by rw [bl_size]; omega) ?_ (fun c hc => hd c (by rw [List.take_of_length_le (by rw [bl_size]; omega)]; exact hc))
    rw [bl_head x h0, bl_size]
    cases b1 with
    | false => exact .inr (by have := of_decide_eq_false h1; omega)
    | true =>
      rw [Bool.and_true] at hb
      subst hb
      refine .inl fun e => ?_
      injection e with e
      rw [e] at h48
      exact absurd h48 (by decide)))
  cases b48 <;> cases b1 <;> (try cases hb) <;>
  · go_enter Tryd.func43, Tryd.ntmps43
    go_wp2_with fail
    go_loop [5, 6] (fun n i => ∃ k : Nat, k ≤ x.size ∧ i = .int .i64 k ∧ n = .int .i64 (nvOf x k : Int) ∧ digsTo x k) (fun _ i => x.size - (intOf i).toNat)
    case atStart => exact ⟨0, by omega, rfl, rfl, fun c hc => nomatch hc⟩
    case round =>
      obtain ⟨k, hk, rfl, rfl, hdg⟩ := hrel
      have HD := Lib.hid hdg
      clear hdg
      by_cases hlt : k < x.size
      · have hn := nv_lt x k HD.out (by omega)
        have HS := Lib.hid (nv_step x k hlt)
        have HB := Lib.hid (fun h => @numI_at x most k hlt h)
        have HG := Lib.hid (fun a b => digs_next HD.out hlt a b)
        have hk0 : (0 : Int) ≤ (k : Int) := by omega
        have hk1 : (k : Int) < (x.size : Int) := by omega
        by_cases g1 : x[k].toNat < 48
        · have g1' : decide ((x[k].toNat : Int) < 48) = true := by simp; omega
          have HE := Lib.hid (HB.out (.inl g1))
          clear HB HG
          go_wp2_with fail
          go_ret
          exact ⟨ret_int HE.out.symm, rfl⟩
        · have g1' : decide ((x[k].toNat : Int) < 48) = false := by simp; omega
          by_cases g2 : 57 < x[k].toNat
          · have g2' : decide ((57 : Int) < (x[k].toNat : Int)) = true := by simp; omega
            have HE := Lib.hid (HB.out (.inr g2))
            clear HB HG
            go_wp2_with fail
            go_ret
            exact ⟨ret_int HE.out.symm, rfl⟩
          · have g2' : decide ((57 : Int) < (x[k].toNat : Int)) = false := by simp; omega
            have HE := Lib.hid (HG.out (by omega) (by omega))
            have g3 : 48 ≤ x[k].toNat := by omega
            have g4 : x[k].toNat ≤ 57 := by omega
            clear HB HG
            go_wp2_with fail
            go_round
            case rel => exact ⟨k + 1, by omega, by go_num, by rw [HS.out]; go_num, HE.out⟩
            case measure => simp [intOf]; omega
      · obtain rfl : k = x.size := by omega
        have HN := Lib.hid (HV.out HD.out)
        by_cases h6 : nvOf x x.size ≤ most
        · have h6' : decide ((most : Int) < (nvOf x x.size : Int)) = false := by simp; omega
          go_wp2_with fail
          go_ret
          refine ⟨ret_int ?_, rfl⟩
          rw [HN.out, if_pos h6]
        · have h6' : decide ((most : Int) < (nvOf x x.size : Int)) = true := by simp; omega
          go_wp2_with fail
          go_ret
          refine ⟨ret_int ?_, rfl⟩
          rw [HN.out, if_neg h6]

/-- What the reference reads out of a word. -/
theorem rnum_any (x : ByteArray) (most : Nat) (hs : x.size ≤ 1000000) (w : World) :
    Calls Tryd.prog 43 #[.string x, .int .i64 (most : Int)] w fun e w' => e = .returned (.int .i64 (ScrM.numI most (bl x))) ∧ w = w' := by
  by_cases h0 : x.size = 0
  · rw [ScrM.numI_len (.inl (by rw [bl_size]; omega))]
    exact rnum_none x most h0 w
  · by_cases h5 : 5 < x.size
    · rw [ScrM.numI_len (.inr (by rw [bl_size]; omega))]
      exact rnum_long x most hs h5 w
    · cases h48 : (x[0].toNat == 48) with
      | true =>
        have e48 : ((x[0].toNat : Int) == 48) = true := (beq_cast _ 48).trans h48
        by_cases h1 : 1 < x.size
        · rw [ScrM.numI_zero (by rw [bl_head x (by omega), Option.some.injEq]; exact UInt8.toNat_inj.1 (beq_iff_eq.1 h48)) (by rw [bl_size]; omega)]
          exact rnum_zero x most (by omega) h1 e48 w
        · exact rnum_loop x most (by omega) (by omega) true false e48 (by simp; omega) rfl w
      | false =>
        have e48 : ((x[0].toNat : Int) == 48) = false := (beq_cast _ 48).trans h48
        exact rnum_loop x most (by omega) (by omega) false _ e48 rfl rfl w

end Go.Proofs.YtnanhebepjdlcabDoor
