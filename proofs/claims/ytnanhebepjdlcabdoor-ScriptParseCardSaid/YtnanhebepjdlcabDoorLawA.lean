/- bootchainlaw39.valid; ScriptCanonical: the walk. -/
import Derived.Test.YtnanhebepjdlcabDoorWalkP
import Derived.Test.YtnanhebepjdlcabDoorWalkQ
namespace ScrM

theorem parse_ok {s : List UInt8} {L : List Cm} (h : parse s = (L, 0)) : parseL s = some L ∧ L.length ≤ 400 := by
  unfold parse at h
  cases hp : parseL s with
  | none => rw [hp] at h; simp at h
  | some l =>
    rw [hp] at h
    simp only at h
    split at h
    · simp at h
    · rename_i hl
      injection h with h1 h2
      subst h1
      exact ⟨rfl, by omega⟩

theorem parse_bad {s : List UInt8} {L : List Cm} {er : Int} (h : parse s = (L, er)) (he : er ≠ 0) : L = [] := by
  unfold parse at h
  cases hp : parseL s with
  | none => rw [hp] at h; injection h with h1 h2; exact h1.symm
  | some l =>
    rw [hp] at h
    simp only at h
    split at h
    · injection h with h1 h2; exact h1.symm
    · injection h with h1 h2; exact absurd h2.symm he

theorem parse_valid {s : List UInt8} {L : List Cm} (h : parse s = (L, 0)) : ∀ c ∈ L, valid c = true :=
  cmds_valid _ _ (parse_ok h).1

theorem parse_again {s : List UInt8} {L : List Cm} (h : parse s = (L, 0)) : parse (textL L) = (L, 0) := by
  have h1 := parse_text L (parse_valid h)
  have h2 := (parse_ok h).2
  unfold parse
  rw [h1]
  simp only
  rw [if_neg (by omega)]

theorem valid_args {c : Cm} (h : valid c = true) : c.args.length ≤ 3 := by
  obtain ⟨h1, h2, h3, _⟩ := valid_iff h
  rw [h3]
  exact arity_le _ (by omega)

/-- What the law's valid answers. -/
def vAll (L : List Cm) : Bool := L.all fun c => decide (c.args.length ≤ 10) && valid c

theorem vAll_true {L : List Cm} (h : ∀ c ∈ L, valid c = true) : vAll L = true := by
  rw [vAll, List.all_eq_true]
  intro c hc
  have := valid_args (h c hc)
  rw [h c hc, decide_eq_true (by omega)]
  rfl

end ScrM
namespace Go.Proofs.YtnanhebepjdlcabDoor
open Go.RowKit

set_option maxHeartbeats 2000000 in
set_option maxRecDepth 100000 in
theorem vlaw_any (A : Option Addr) (c : Nat) (L : List ScrM.Cm) (w : World) (hw : WOk w) (h : CmReads w w.heap.size A L) (hn : L.length ≤ 100000) :
    Calls Tryd.prog 22 #[.slice A L.length c] w fun e w' => e = .returned (.bool (ScrM.vAll L)) ∧ Below w.heap.size w w' := by
  have HR := Lib.hid h
  have HW := Lib.hid hw
  clear h hw
  go_enter Tryd.func22, Tryd.ntmps22
  go_wp2_with fail
  go_loopw [3] (fun i w' => ∃ k : Nat, k ≤ L.length ∧ i = .int .i64 k ∧ Below w.heap.size w w' ∧ ∀ j (hj : j < L.length), j < k → (decide (L[j].args.length ≤ 10) && ScrM.valid L[j]) = true) (fun i _ => L.length - (intOf i).toNat)
  case atStart => exact ⟨0, by omega, rfl, Below.refl _ _, fun j _ h => by omega⟩
  case round =>
    obtain ⟨k, hk, rfl, hb, hall⟩ := hrel
    have HB := Lib.hid hb
    have HALL := Lib.hid hall
    have hsz := hb.size
    clear hb hall
    by_cases hlt : k < L.length
    · obtain ⟨g, o, rfl, hg, Aa, ca, ha, d0, d1, d2, d3, d4⟩ := (HR.out.below HB.out).at_ hlt
      have HAA := Lib.hid (ha.more hsz)
      have HNO := Lib.hid (fun (hbad : (decide (L[k].args.length ≤ 10) && ScrM.valid L[k]) = false) => (show ScrM.vAll L = false from List.all_eq_false.2 ⟨L[k], List.getElem_mem hlt, by rw [hbad]; simp⟩))
      have HST := Lib.hid (fun (hgood : (decide (L[k].args.length ≤ 10) && ScrM.valid L[k]) = true) => (fun j (hj : j < L.length) (h : j < k + 1) => if e : j = k then (show (decide (L[j].args.length ≤ 10) && ScrM.valid L[j]) = true by subst e; exact hgood) else HALL.out j hj (by omega)))
      clear ha
      generalize L[k] = cm at HAA HNO HST d0 d1 d2 d3 d4
      have hk0 : (0 : Int) ≤ (k : Int) := by omega
      have hk63 : (k : Int) < (L.length : Int) := by omega
      by_cases h10 : cm.args.length ≤ 10
      · have h10d : decide ((10 : Int) < (cm.args.length : Int)) = false := decide_eq_false (by omega)
        have hcall := valid_any cm Aa ca wr (HW.out.later HB.out) HAA.out (by omega)
        obtain ⟨op, al, cut, bytes, noise⟩ := cm
        simp only [cmVal, cmCells] at hcall
        simp only [] at d0 d1 d2 d3 d4 h10 h10d
        cases hv : ScrM.valid ⟨op, al, cut, bytes, noise⟩ with
        | true =>
          rw [hv] at hcall
          have HG := Lib.hid (HST.out (by rw [hv]; simp [h10]))
          clear hv HST HNO
          go_wp2_with fail
          refine hcall.mono ?_
          rintro e w3 ⟨rfl, hb3⟩
          go_wp2_with fail
          go_roundw
          case rel => exact ⟨k + 1, by omega, by go_num, HB.out.trans (hb3.mono hsz), HG.out⟩
          case measure => simp [intOf]; omega
        | false =>
          rw [hv] at hcall
          have HG := Lib.hid (HNO.out (by rw [hv]; simp))
          clear hv HST HNO
          go_wp2_with fail
          refine hcall.mono ?_
          rintro e w3 ⟨rfl, hb3⟩
          go_wp2_with fail
          go_ret
          exact ⟨ret_bool HG.out.symm, HB.out.trans (hb3.mono hsz)⟩
      · have h10d : decide ((10 : Int) < (cm.args.length : Int)) = true := decide_eq_true (by omega)
        have HG := Lib.hid (HNO.out (by simp [h10]))
        clear HST HNO
        go_wp2_with fail
        go_ret
        exact ⟨ret_bool HG.out.symm, HB.out⟩
    · obtain rfl : k = L.length := by omega
      have HG := Lib.hid (show ScrM.vAll L = true by
        rw [ScrM.vAll, List.all_eq_true]
        intro x hx
        obtain ⟨j, hj, rfl⟩ := List.getElem_of_mem hx
        exact HALL.out j hj hj)
      go_wp2_with fail
      go_ret
      exact ⟨ret_bool HG.out.symm, HB.out⟩

set_option maxHeartbeats 2000000 in
set_option maxRecDepth 100000 in
theorem canon_any (s : ByteArray) (w : World) (hw : WOk w) (_hm : s.size ≤ maxLen) :
    Calls Tryd.prog 6 #[.string s] w fun e w' => e = .returned (.bool true) ∧ Below w.heap.size w w' := by
  have HW := Lib.hid hw
  by_cases hs : s.size ≤ 3000
  · have hd : decide ((3000 : Int) < (s.size : Int)) = false := decide_eq_false (by omega)
    obtain ⟨L, er, hp⟩ : ∃ L er, ScrM.parse (bl s) = (L, er) := ⟨_, _, rfl⟩
    go_enter Tryd.func6, Tryd.ntmps6
    go_wp2_with fail
    refine (sanity_any w hw).mono ?_
    rintro e w1 ⟨rfl, hb1⟩
    have HB1 := Lib.hid hb1
    clear hb1 hw
    go_wp2_with fail
    refine (parse_use s w1 (HW.out.later HB1.out) (by omega) L er hp).mono ?_
    rintro e w2 ⟨A, c, rfl, hr, hb2⟩
    have HR2 := Lib.hid hr
    have HB2 := Lib.hid (HB1.out.trans (hb2.mono HB1.out.size))
    have HP := Lib.hid hp
    clear hr hb2 hp
    by_cases he : er = 0
    · subst he
      have HV := Lib.hid (ScrM.parse_valid HP.out)
      have HPA := Lib.hid (ScrM.parse_again HP.out)
      have hL4 := (ScrM.parse_ok HP.out).2
      have HTL := Lib.hid (ScrM.textL_len L HV.out)
      go_wp2_with fail
      refine (text_any A c L w2 (HW.out.later HB2.out) HR2.out HV.out (by omega)).mono ?_
      rintro e w3 ⟨rfl, hb3⟩
      have HB3 := Lib.hid (HB2.out.trans (hb3.mono HB2.out.size))
      have HR3 := Lib.hid ((HR2.out.below hb3).more hb3.size)
      have hsz3 : (strOf (ScrM.textL L)).size ≤ 90000 := by
        have := HTL.out
        show (ScrM.textL L).length ≤ 90000
        omega
      have HPB := Lib.hid (show ScrM.parse (bl (strOf (ScrM.textL L))) = (L, 0) from HPA.out)
      generalize strOf (ScrM.textL L) = t at hsz3 HPB ⊢
      clear hb3
      go_wp2_with fail
      refine (parse_use t w3 (HW.out.later HB3.out) hsz3 L 0 HPB.out).mono ?_
      rintro e w4 ⟨A4, c4, rfl, hr4, hb4⟩
      have HB4 := Lib.hid (HB3.out.trans (hb4.mono HB3.out.size))
      have HR4 := Lib.hid ((HR3.out.below hb4).more hb4.size)
      have HQ4 := Lib.hid hr4
      clear hr4 hb4
      go_wp2_with fail
      refine (vlaw_any A c L w4 (HW.out.later HB4.out) HR4.out (by omega)).mono ?_
      rintro e w5 ⟨rfl, hb5⟩
      rw [ScrM.vAll_true HV.out]
      have HB5 := Lib.hid (HB4.out.trans (hb5.mono HB4.out.size))
      have HR5 := Lib.hid ((HR4.out.below hb5).more hb5.size)
      have HQ5 := Lib.hid ((HQ4.out.below hb5).more hb5.size)
      clear hb5
      go_wp2_with fail
      refine (same_yes A A4 c c4 L w5 HR5.out HQ5.out (by omega) (fun cm hcm => by have := ScrM.valid_args (HV.out cm hcm); omega)).mono ?_
      rintro e w6 ⟨rfl, hb6⟩
      go_wp2_with fail
      go_ret
      exact ⟨rfl, HB5.out.trans (hb6.mono HB5.out.size)⟩
    · have hL := ScrM.parse_bad HP.out he
      subst hL
      have hen : (er != 0) = true := by rw [bne_iff_ne]; exact he
      have hen2 : (er == 0) = false := beq_eq_false_iff_ne.2 he
      simp only [List.length_nil]
      go_wp2_with fail
      go_ret
      exact ⟨rfl, HB2.out⟩
  · have hd : decide ((3000 : Int) < (s.size : Int)) = true := decide_eq_true (by omega)
    go_enter Tryd.func6, Tryd.ntmps6
    go_wp2_with fail
    refine (sanity_any w hw).mono ?_
    rintro e w1 ⟨rfl, hb1⟩
    go_wp2_with fail
    go_ret
    exact ⟨rfl, hb1⟩

end Go.Proofs.YtnanhebepjdlcabDoor
