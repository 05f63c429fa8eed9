/- The reference's Text. -/
import Derived.Test.YtnanhebepjdlcabDoorRefF
import Derived.Test.YtnanhebepjdlcabDoorRefA
import Derived.Test.YtnanhebepjdlcabDoorReads
import Derived.Deep.RegionHeld3
import Derived.Deep.CutRange
namespace ScrM
open Go.Lib

theorem joinSp_cons (x : List UInt8) : ∀ ws : List (List UInt8), joinSp (x :: ws) = x ++ ws.flatMap fun y => 32 :: y
  | [] => by simp [joinSp]
  | y :: r => by
    have ih := joinSp_cons y r
    simp only [joinSp, List.flatMap_cons] at ih ⊢
    rw [ih]
    simp

def argsT (l : List Int) : List UInt8 := l.flatMap fun n => 32 :: dec n
def cutT (a b : Int) : List UInt8 := if 0 ≤ a then [32, 99, 117, 116, 32] ++ dec a ++ [32] ++ dec b else []
def noiseT (a : Int) : List UInt8 := if 1 ≤ a then [32, 110, 111, 105, 115, 101, 32] ++ dec a else []

theorem line_parts (c : Cm) : lineOf c = nameOf c.op.toNat ++ argsT c.args ++ cutT c.cut c.bytes ++ noiseT c.noise := by
  have hw : wCut = [99, 117, 116] := by decide
  have hn : wNoise = [110, 111, 105, 115, 101] := by decide
  unfold lineOf wordsOf
  rw [joinSp_cons, List.flatMap_append, List.flatMap_append, hw, hn]
  simp only [argsT, cutT, noiseT, List.append_assoc]
  congr 1
  congr 1
  · rw [List.flatMap_map]
  · congr 1
    · split <;> simp
    · split <;> simp

theorem argsT_next {l : List Int} {k : Nat} (hk : k < l.length) : argsT (l.take (k + 1)) = argsT (l.take k) ++ 32 :: dec l[k] := by
  rw [List.take_succ_eq_append_getElem hk]
  simp only [argsT, List.flatMap_append, List.flatMap_cons, List.flatMap_nil, List.append_nil]

end ScrM
namespace Go.Proofs.YtnanhebepjdlcabDoor
open Go.RowKit

theorem dec_size {n : Int} (h0 : 0 ≤ n) (h1 : n ≤ 65535) : (strOf (ScrM.dec n)).size ≤ 5 := ScrM.dec_len h0 h1

theorem decimal_z (n : Int) (h0 : 0 ≤ n) (h1 : n ≤ 65535) (w : World) :
    Calls Tryd.prog 37 #[.int .i64 n] w fun e w' => e = .returned (.string (strOf (ScrM.dec n))) ∧ Below w.heap.size w w' := by
  obtain ⟨k, rfl⟩ : ∃ k : Nat, n = (k : Int) := ⟨n.toNat, by omega⟩
  exact decimal_any k (by omega) w

theorem bl_strOf (l : List UInt8) : bl (strOf l) = l := rfl

/-- What the drawn statement keeps of the world: the copy of the command. -/
def TxHeld (w0 : World) (C : Nat) (cm : ScrM.Cm) (Aa : Option Addr) (ca : Nat) (w : World) : Prop :=
  Below w0.heap.size w0 w ∧ w.heap[C]? = some (.cells (cmCells cm Aa ca).toArray 31 (0, 0))

theorem decimal_keep (w0 : World) (C : Nat) (op cut bytes noise : Int) (al : List Int) (Aa : Option Addr) (ca : Nat) (n : Int) (h0 : 0 ≤ n) (h1 : n ≤ 65535) (w : World) (hs : TxHeld w0 C ⟨op, al, cut, bytes, noise⟩ Aa ca w) :
    Calls Tryd.prog 37 #[.int .i64 n] w fun e w' => e = .returned (.string (strOf (ScrM.dec n))) ∧
      TxHeld w0 C ⟨op, al, cut, bytes, noise⟩ Aa ca w' ∧ w'.cell? ⟨C, 2, none⟩ = some (.int .i64 cut) ∧ w'.cell? ⟨C, 3, none⟩ = some (.int .i64 bytes) := by
  refine (decimal_z n h0 h1 w).mono ?_
  rintro e w' ⟨rfl, hb⟩
  have hblk := (hb.block C (blk_lt hs.2)).trans hs.2
  exact ⟨rfl, ⟨hs.1.trans (hb.mono hs.1.size), hblk⟩, cells_of_blk hblk 2, cells_of_blk hblk 3⟩

/-- The text so far: its bytes, not long. -/
def TxtIs (v : Value) (m : Nat) (l : List UInt8) : Prop := ∃ y : ByteArray, v = .string y ∧ y.size ≤ m ∧ bl y = l

set_option maxHeartbeats 4000000 in
set_option maxRecDepth 100000 in
theorem reftext_any (A : Option Addr) (c : Nat) (L : List ScrM.Cm) (w : World) (h : CmReads w w.heap.size A L) (hv : ∀ cm ∈ L, ScrM.valid cm = true) (hn : L.length ≤ 1000) :
    Calls Tryd.prog 18 #[.slice A L.length c] w fun e w' => e = .returned (.string (strOf (ScrM.textL L))) ∧ Below w.heap.size w w' := by
  have HR := Lib.hid h
  have HV := Lib.hid hv
  clear h hv
  go_enter Tryd.func18, Tryd.ntmps18
  go_wp2_with fail
  go_loopw [3, 4] (fun s i w' => ∃ k : Nat, k ≤ L.length ∧ i = .int .i64 k ∧ TxtIs s (100 * k) (ScrM.textL (L.take k)) ∧ Below w.heap.size w w') (fun _ i _ => L.length - (intOf i).toNat)
  case atStart => exact ⟨0, by omega, rfl, ⟨_, rfl, Nat.le_refl _, rfl⟩, Below.refl _ _⟩
  case round =>
    obtain ⟨k, hk, rfl, ⟨y, rfl, hys, hy⟩, hb⟩ := hrel
    have HY := Lib.hid hy
    have HB := Lib.hid hb
    have hsz := hb.size
    clear hb hy
    by_cases hlt : k < L.length
    · have hk63 : (k : Int) < (L.length : Int) := by omega
      have HVK := Lib.hid (HV.out L[k] (List.getElem_mem hlt))
      have HTN := Lib.hid (text_next hlt)
      obtain ⟨g, o, rfl, hg, Aa, ca, ha, d0, d1, d2, d3, d4⟩ := HR.out.at_ hlt
      have hcl := fun (q : Nat) => HB.out.cell (p := ⟨g, q, none⟩) hg
      replace d0 := (hcl _).trans d0
      replace d1 := (hcl _).trans d1
      replace d2 := (hcl _).trans d2
      replace d3 := (hcl _).trans d3
      replace d4 := (hcl _).trans d4
      clear hcl
      have HAA := Lib.hid ha
      generalize L[k] = cm at HVK HTN HAA d0 d1 d2 d3 d4 ha
      obtain ⟨op, al, cut, bytes, noise⟩ := cm
      simp only [] at d0 d1 d2 d3 d4
      obtain ⟨v1, v2, v3, v4, v5, v6, v7, v8, v9, v10, v11⟩ := ScrM.valid_iff HVK.out
      simp only [] at v1 v2 v3 v4 v5 v6 v7 v8 v9 v10 v11
      have HV4 := Lib.hid v4
      have hal3 : al.length ≤ 3 := by rw [v3]; exact ScrM.arity_le _ (by omega)
      have hnl : (ScrM.nameOf op.toNat).length ≤ 7 := ScrM.name_len _ (by omega)
      clear v3 v4 ha
      have hbw : Below w.heap.size w wr := HB.out
      obtain ⟨wo, hwo⟩ : ∃ wo, wo = wr := ⟨_, rfl⟩
      subst hwo
      have hblk : (wo.alloc (.cells (cmCells ⟨op, al, cut, bytes, noise⟩ Aa ca).toArray 31)).heap[wo.heap.size]? = some (.cells (cmCells ⟨op, al, cut, bytes, noise⟩ Aa ca).toArray 31 (0, 0)) := heap_alloc_new wo _
      have hbo : Below w.heap.size w (wo.alloc (.cells (cmCells ⟨op, al, cut, bytes, noise⟩ Aa ca).toArray 31)) := hbw.alloc hsz _
      have HBLK := Lib.hid hblk
      have HBO := Lib.hid hbo
      clear hblk hbo hbw
      go_wp2_with fail
      refine (refname_any op _ ⟨v1, v2⟩).mono ?_
      rintro e w2 ⟨rfl, rfl⟩
      have hns : (strOf (ScrM.nameOf op.toNat)).size ≤ 7 := hnl
      go_wp2_with fail
      obtain ⟨y0, hy0⟩ : ∃ y0, y0 = y ++ strOf (ScrM.nameOf op.toNat) := ⟨_, rfl⟩
      rw [← hy0]
      have hs0 : y0.size ≤ 100 * k + 7 := by rw [hy0, ByteArray.size_append]; omega
      have HY0 := Lib.hid (show bl y0 = ScrM.textL (L.take k) ++ ScrM.nameOf op.toNat by rw [hy0, bl_append, HY.out, bl_strOf])
      clear hy0 hys HY
      go_loopw [3, 6] (fun s j w' => ∃ q : Nat, q ≤ al.length ∧ j = .int .i64 q ∧ TxtIs s (100 * k + 7 + 6 * q) (ScrM.textL (L.take k) ++ ScrM.nameOf op.toNat ++ ScrM.argsT (al.take q)) ∧ Below w.heap.size w w' ∧ w'.heap[wo.heap.size]? = some (.cells (cmCells ⟨op, al, cut, bytes, noise⟩ Aa ca).toArray 31 (0, 0))) (fun _ j _ => al.length - (intOf j).toNat)
      case atStart => exact ⟨0, by omega, rfl, ⟨_, rfl, hs0, by rw [HY0.out]; simp [ScrM.argsT]⟩, HBO.out, HBLK.out⟩
      case round =>
        clear HY0 hs0 HBO HBLK
        obtain ⟨q, hq, rfl, ⟨y1, rfl, hs1, hy1⟩, hb1, hblk⟩ := hrel
        by_cases hql : q < al.length
        · obtain ⟨ga, oa, rfl, hga, hac⟩ := HAA.out.2 (by intro e; rw [e] at hql; simp at hql)
          have hcq := (hb1.cell (p := ⟨ga, oa + q, none⟩) (by show ga < w.heap.size; omega)).trans (hac q hql)
          have hnq := HV4.out al[q] (List.getElem_mem hql)
          have HAN := Lib.hid (ScrM.argsT_next hql)
          have hdz := dec_size hnq.1 hnq.2
          generalize al[q] = z at hcq hnq HAN hdz
          obtain ⟨hz0, hz1⟩ := hnq
          have c1 : wr.cell? ⟨wo.heap.size, 1, none⟩ = some (.slice (some ⟨ga, oa, none⟩) al.length ca) := cells_of_blk hblk 1
          have hq63 : (q : Int) < (al.length : Int) := by omega
          have hq0 : (0 : Int) ≤ (q : Int) := by omega
          have hsq := hb1.size
          have HB1 := Lib.hid hb1
          have HBK := Lib.hid hblk
          have HY1 := Lib.hid hy1
          clear hac hb1 hblk hy1
          have hsp : (⟨#[32]⟩ : ByteArray).size = 1 := rfl
          have hsa : (y1 ++ (⟨#[32]⟩ : ByteArray)).size = y1.size + 1 := ByteArray.size_append
          go_wp2_with fail
          refine (decimal_z z hz0 hz1 _).mono ?_
          rintro e w3 ⟨rfl, hb3⟩
          have HB3 := Lib.hid (HB1.out.trans (hb3.mono hsq))
          have HBK3 := Lib.hid ((hb3.block _ (blk_lt HBK.out)).trans HBK.out)
          clear hb3
          go_wp2_with fail
          go_roundw
          case rel =>
            refine ⟨q + 1, by omega, by go_num, ⟨_, rfl, ?_, ?_⟩, HB3.out, HBK3.out⟩
            · rw [ByteArray.size_append, hsa]; omega
            · rw [bl_append, bl_append, HY1.out, bl_strOf, HAN.out]
              simp [bl]
          case measure => simp [intOf]; omega
        · obtain rfl : q = al.length := by omega
          rw [List.take_length] at hy1
          have hln := ScrM.line_parts ⟨op, al, cut, bytes, noise⟩
          simp only [] at hln
          have HLN := Lib.hid hln
          have hs1' : y1.size ≤ 100 * k + 25 := by omega
          have HB1 := Lib.hid hb1
          have hsq := hb1.size
          have HBK := Lib.hid hblk
          have HY1 := Lib.hid hy1
          clear hb1 hblk hy1 hln HAA hs1 hq
          have c1 : wr.cell? ⟨wo.heap.size, 1, none⟩ = some (.slice Aa al.length ca) := cells_of_blk HBK.out 1
          have c2 : wr.cell? ⟨wo.heap.size, 2, none⟩ = some (.int .i64 cut) := cells_of_blk HBK.out 2
          have c3 : wr.cell? ⟨wo.heap.size, 3, none⟩ = some (.int .i64 bytes) := cells_of_blk HBK.out 3
          go_upto_if 40 with (fail)
          go_cut [3] from 7 to 62 (fun s wx => TxtIs s (100 * k + 45) (ScrM.textL (L.take k) ++ ScrM.nameOf op.toNat ++ ScrM.argsT al ++ ScrM.cutT cut bytes) ∧ Below w.heap.size w wx ∧ wx.heap[wo.heap.size]? = some (.cells (cmCells ⟨op, al, cut, bytes, noise⟩ Aa ca).toArray 31 (0, 0)))
          case first =>
            by_cases hc : 0 ≤ cut
            · have hcd : decide (0 ≤ cut) = true := decide_eq_true hc
              have hds1 := dec_size hc v6
              have hds2 := dec_size v9 (show bytes ≤ 65535 by omega)
              have hqa : (⟨#[32, 99, 117, 116, 32]⟩ : ByteArray).size = 5 := rfl
              have hqb : (⟨#[32]⟩ : ByteArray).size = 1 := rfl
              have hq1 : (y1 ++ (⟨#[32, 99, 117, 116, 32]⟩ : ByteArray)).size = y1.size + 5 := ByteArray.size_append
              have hq2 : (y1 ++ (⟨#[32, 99, 117, 116, 32]⟩ : ByteArray) ++ strOf (ScrM.dec cut)).size = y1.size + 5 + (strOf (ScrM.dec cut)).size := by rw [ByteArray.size_append, hq1]
              have hq3 : (y1 ++ (⟨#[32, 99, 117, 116, 32]⟩ : ByteArray) ++ strOf (ScrM.dec cut) ++ (⟨#[32]⟩ : ByteArray)).size = y1.size + 5 + (strOf (ScrM.dec cut)).size + 1 := by rw [ByteArray.size_append, hq2]; rfl
              have HW := Lib.hid (show bl (y1 ++ (⟨#[32, 99, 117, 116, 32]⟩ : ByteArray) ++ strOf (ScrM.dec cut) ++ (⟨#[32]⟩ : ByteArray) ++ strOf (ScrM.dec bytes)) = ScrM.textL (L.take k) ++ ScrM.nameOf op.toNat ++ ScrM.argsT al ++ ScrM.cutT cut bytes by
                rw [bl_append, bl_append, bl_append, bl_append, HY1.out, ScrM.cutT, if_pos hc]
                simp only [bl, List.append_assoc]
                rfl)
              have z1 : ¬ 9223372036854775807 < y1.size + 5 := by omega
              have z2 : ¬ 9223372036854775807 < y1.size + 5 + (strOf (ScrM.dec cut)).size := by omega
              have z3 : ¬ 9223372036854775807 < y1.size + 5 + (strOf (ScrM.dec cut)).size + 1 := by omega
              have z4 : ¬ 9223372036854775807 < y1.size + 5 + (strOf (ScrM.dec cut)).size + 1 + (strOf (ScrM.dec bytes)).size := by omega
              go_upto_region 12 with fail
              have hbd : TxHeld w wo.heap.size ⟨op, al, cut, bytes, noise⟩ Aa ca wr.drew := ⟨HB1.out.drew, HBK.out⟩
              have e2 : wr.drew.cell? ⟨wo.heap.size, 2, none⟩ = some (.int .i64 cut) := c2
              have e3 : wr.drew.cell? ⟨wo.heap.size, 3, none⟩ = some (.int .i64 bytes) := c3
              go_region_held3 (fun w' => TxHeld w wo.heap.size ⟨op, al, cut, bytes, noise⟩ Aa ca w' ∧ w'.cell? ⟨wo.heap.size, 2, none⟩ = some (.int .i64 cut) ∧ w'.cell? ⟨wo.heap.size, 3, none⟩ = some (.int .i64 bytes))
                (first | assumption | exact ⟨by assumption, by assumption, by assumption⟩)
                (first
                  | (go_at_call_of 37 (Value.int IntKind.i64 cut)
                     refine Calls.mono (decimal_keep w wo.heap.size op cut bytes noise al Aa ca cut hc v6 _ ?_) ?_
                     · assumption
                     rintro e W ⟨rfl, hk1, hk2, hk3⟩)
                  | (go_at_call_of 37 (Value.int IntKind.i64 bytes)
                     refine Calls.mono (decimal_keep w wo.heap.size op cut bytes noise al Aa ca bytes v9 (Int.le_trans v10 (by decide)) _ ?_) ?_
                     · assumption
                     rintro e W ⟨rfl, hk1, hk2, hk3⟩))
              all_goals
                go_wp2_with fail
                go_meet
                case rel =>
                  refine ⟨⟨_, rfl, ?_, HW.out⟩, hk1.1, hk1.2⟩
                  rw [ByteArray.size_append, hq3]
                  omega
            · have hcd : decide (0 ≤ cut) = false := decide_eq_false hc
              have HW := Lib.hid (show bl y1 = ScrM.textL (L.take k) ++ ScrM.nameOf op.toNat ++ ScrM.argsT al ++ ScrM.cutT cut bytes by
                rw [HY1.out, ScrM.cutT, if_neg hc, List.append_nil])
              go_wp2_with fail
              go_meet
              case rel => exact ⟨⟨_, rfl, by omega, HW.out⟩, HB1.out, HBK.out⟩
          case rest =>
            obtain ⟨⟨y2, rfl, hs2, hy2⟩, hb2, hblk2⟩ := hcut
            have c4 : wc.cell? ⟨wo.heap.size, 4, none⟩ = some (.int .i64 noise) := cells_of_blk hblk2 4
            have HY2 := Lib.hid hy2
            have HB2 := Lib.hid hb2
            have hsz2 := hb2.size
            clear hy2 hb2 hblk2 HY1 HB1 HBK c1 c2 c3
            by_cases hz : 1 ≤ noise
            · have hzd : decide (0 < noise) = true := decide_eq_true (by omega)
              have hds := dec_size v7 v8
              have hqa : (⟨#[32, 110, 111, 105, 115, 101, 32]⟩ : ByteArray).size = 7 := rfl
              have hqb : (⟨#[10]⟩ : ByteArray).size = 1 := rfl
              have hq1 : (y2 ++ (⟨#[32, 110, 111, 105, 115, 101, 32]⟩ : ByteArray)).size = y2.size + 7 := ByteArray.size_append
              have hq2 : (y2 ++ (⟨#[32, 110, 111, 105, 115, 101, 32]⟩ : ByteArray) ++ strOf (ScrM.dec noise)).size = y2.size + 7 + (strOf (ScrM.dec noise)).size := by rw [ByteArray.size_append, hq1]
              have hq3 : (y2 ++ (⟨#[32, 110, 111, 105, 115, 101, 32]⟩ : ByteArray) ++ strOf (ScrM.dec noise) ++ (⟨#[10]⟩ : ByteArray)).size ≤ 100 * (k + 1) := by rw [ByteArray.size_append, hq2]; omega
              have HW := Lib.hid (show bl (y2 ++ (⟨#[32, 110, 111, 105, 115, 101, 32]⟩ : ByteArray) ++ strOf (ScrM.dec noise) ++ (⟨#[10]⟩ : ByteArray)) = ScrM.textL (L.take (k + 1)) by
                rw [bl_append, bl_append, bl_append, HY2.out, HTN.out, HLN.out, ScrM.noiseT, if_pos hz]
                simp only [bl, List.append_assoc]
                rfl)
              go_wp2_with fail
              refine (decimal_z noise v7 v8 _).mono ?_
              rintro e w3 ⟨rfl, hb3⟩
              have HB3 := Lib.hid (HB2.out.trans (hb3.mono hsz2))
              clear hb3
              go_wp2_with fail
              go_roundw
              case rel => exact ⟨k + 1, by omega, by go_num, ⟨_, rfl, hq3, HW.out⟩, HB3.out⟩
              case measure => simp [intOf]; omega
            · have hzd : decide (0 < noise) = false := decide_eq_false (by omega)
              have hq3 : (y2 ++ (⟨#[10]⟩ : ByteArray)).size ≤ 100 * (k + 1) := by rw [size_nl]; omega
              have hqb : (⟨#[10]⟩ : ByteArray).size = 1 := rfl
              have HW := Lib.hid (show bl (y2 ++ (⟨#[10]⟩ : ByteArray)) = ScrM.textL (L.take (k + 1)) by
                rw [bl_append, HY2.out, HTN.out, HLN.out, ScrM.noiseT, if_neg hz]
                simp only [bl, List.append_assoc, List.nil_append])
              go_wp2_with fail
              go_roundw
              case rel => exact ⟨k + 1, by omega, by go_num, ⟨_, rfl, hq3, HW.out⟩, HB2.out⟩
              case measure => simp [intOf]; omega
    · obtain rfl : k = L.length := by omega
      have HE := Lib.hid (show y = strOf (ScrM.textL L) from bl_inj (by rw [HY.out, List.take_length]; rfl))
      go_wp2_with fail
      go_ret
      refine ⟨?_, HB.out⟩
      rw [HE.out]
      rfl

end Go.Proofs.YtnanhebepjdlcabDoor
