/- The reference's command: the walk. -/
import Derived.Test.YtnanhebepjdlcabDoorRefJ
import Derived.BigRegion
namespace Go.Proofs.YtnanhebepjdlcabDoor
open Go.RowKit

set_option maxHeartbeats 4000000 in
set_option maxRecDepth 100000 in
theorem rcommand_any (v : Value) (x : ByteArray) (r : List ByteArray) (w : World) (h : WdsAt w w.heap.size v (x :: r)) (hl : r.length ≤ 99999) (hx : ∀ y ∈ x :: r, y.size ≤ 1000000) :
    Calls Tryd.prog 28 #[v] w (RcPost (x :: r) w) := by
  have HX := Lib.hid hx
  obtain ⟨g, o, c, rfl, h4, h6, h7⟩ := h
  have hy := h7 0 x rfl
  rw [Nat.add_zero] at hy
  have H7 := Lib.hid h7
  clear h7 hx
  simp only [List.length_cons] at h6
  have HST := Lib.hid (rc_start w (bl x))
  have hsz0 : (w.alloc (.cells zeroCm 31)).heap.size = w.heap.size + 1 := by simp
  go_enter Tryd.func28, Tryd.ntmps28
  go_wp2_with fail
  go_loopw [5] (fun i w' => ∃ k : Nat, 1 ≤ k ∧ k ≤ 21 ∧ i = .int .i64 k ∧ RcAt w (w.heap.size + 1) (ScrM.mop (bl x) k : Int) (.slice none 0 0) [] (-1) 0 0 w') (fun i _ => 21 - (intOf i).toNat)
  case atStart => exact ⟨1, by omega, by omega, rfl, HST.out⟩
  case round =>
    obtain ⟨k, hk1, hk, rfl, hat⟩ := hrel
    have HA := Lib.hid hat
    have hyw := (hat.low.cell (p := ⟨g, o, none⟩) h4).trans hy
    obtain ⟨⟨k0, k1, k2, k3, k4⟩, t0, t1, t2, t3, t4⟩ := hat.facts
    clear hat
    by_cases hlt : k ≤ 20
    · have hle : decide ((k : Int) ≤ 20) = true := decide_eq_true (by omega)
      obtain ⟨nm, hnm⟩ : ∃ nm, nm = strOf (ScrM.nameOf k) := ⟨_, rfl⟩
      have hcall := fun W => rname_k k hk1 hlt W
      rw [← hnm] at hcall
      have HNM := Lib.hid hnm
      clear hnm
      have hlp : (0 : Int) < ((r.length + 1 : Nat) : Int) := by omega
      go_upto_region 5 with fail
      cases hq : nm.toList == x.toList with
      | true =>
        have hq' : (nm.toList == x.toList) = true := hq
        have HM := Lib.hid (show ScrM.mop (bl x) (k + 1) = k by
          rw [beq_iff_eq, Lib.toList_data, Lib.toList_data, HNM.out] at hq
          rw [ScrM.mop, if_pos ⟨hk1, hq⟩])
        have HN := Lib.hid (fun m => (HA.out.drawn m).set 0 (.int .i64 (k : Int)) (op' := (k : Int)) (sv' := .slice none 0 0) (al' := []) (cut' := -1) (bytes' := 0) (noise' := 0) rfl HA.out.row)
        clear hq
        go_quiet ((go_at_call 36; exact Calls.quiet_of_same (hcall _)))
        go_wp2_with fail
        go_roundw
        case rel => exact ⟨k + 1, by omega, by omega, by go_num, by rw [HM.out]; exact HN.out _⟩
        case measure => simp [intOf]; omega
      | false =>
        have hq' : (nm.toList == x.toList) = false := hq
        have HM := Lib.hid (show ScrM.mop (bl x) (k + 1) = ScrM.mop (bl x) k by
          rw [beq_eq_false_iff_ne, Lib.toList_data, Lib.toList_data, HNM.out] at hq
          rw [ScrM.mop, if_neg (fun hc => hq hc.2)])
        clear hq
        go_quiet ((go_at_call 36; exact Calls.quiet_of_same (hcall _)))
        go_wp2_with fail
        go_roundw
        case rel => exact ⟨k + 1, by omega, by omega, by go_num, by rw [HM.out]; exact HA.out.drawn _⟩
        case measure => simp [intOf]; omega
    · have hle : decide ((k : Int) ≤ 20) = false := decide_eq_false (by omega)
      have HA2 := Lib.hid (show RcAt w (w.heap.size + 1) (ScrM.opOf (bl x) : Int) (.slice none 0 0) [] (-1) 0 0 wr by
        rw [← ScrM.mop_all, show 21 = k by omega]
        exact HA.out)
      clear k0 k1 k2 k3 k4 t0 t1 t2 t3 t4 hyw HA
      obtain ⟨⟨k0, k1, k2, k3, k4⟩, t0, t1, t2, t3, t4⟩ := HA2.out.facts
      obtain ⟨⟨r0, r1, r2, r3, r4⟩, s0, s1, s2, s3, s4⟩ := zero_facts HA2.out.res
      have hCR : w.heap.size + 1 ≠ w.heap.size := by omega
      go_wp2_with fail
      refine (refarity_any (ScrM.opOf (bl x) : Int) wr).mono ?_
      rintro e w2 ⟨rfl, rfl⟩
      by_cases h0 : ScrM.opOf (bl x) = 0
      · have HC := Lib.hid (show ScrM.command (bl x :: r.map bl) = none from ScrM.command_unknown h0)
        have hfin := Lib.hid (HA2.out.fin (.int .i64 (ScrM.opOf (bl x) : Int)) (.slice none 0 0) (.int .i64 (-1)) (.int .i64 0) (.int .i64 0))
        rw [show ScrM.arity (ScrM.opOf (bl x) : Int) = -1 by rw [h0]; decide]
        clear h0
        go_wp2_with fail
        (try simp only [Exit.inBlock, Exit.then])
        refine bodyPost_ret (v := .tuple #[.agg #[.int .i64 (ScrM.opOf (bl x) : Int), .slice none 0 0, .int .i64 (-1), .int .i64 0, .int .i64 0], .bool false]) ?_ rfl (rc_post hfin.out ?_)
        · rw [results_cell_tmp rfl]
          go_simp
        · rw [HC.out]; rfl
      · rw [ScrM.arity_known h0]
        have H0 := Lib.hid h0
        clear h0
        have hn3 := ScrM.arityOf_le (bl x)
        obtain ⟨n, hnn⟩ : ∃ n, n = ScrM.arityOf (bl x) := ⟨_, rfl⟩
        rw [← hnn] at hn3 ⊢
        have HNN := Lib.hid hnn
        clear hnn
        have hn0 : decide ((n : Int) < 0) = false := decide_eq_false (by omega)
        by_cases hf : r.length < n
        · have hfd : decide ((r.length : Int) + 1 < 1 + (n : Int)) = true := decide_eq_true (by omega)
          have HC := Lib.hid (show ScrM.command (bl x :: r.map bl) = none from ScrM.command_nums (ScrM.nums_few (by rw [← HNN.out, List.length_map]; exact hf)))
          have hfin := Lib.hid (HA2.out.fin (.int .i64 (ScrM.opOf (bl x) : Int)) (.slice none 0 0) (.int .i64 (-1)) (.int .i64 0) (.int .i64 0))
          clear hf
          go_wp2_with fail
          (try simp only [Exit.inBlock, Exit.then])
          refine bodyPost_ret (v := .tuple #[.agg #[.int .i64 (ScrM.opOf (bl x) : Int), .slice none 0 0, .int .i64 (-1), .int .i64 0, .int .i64 0], .bool false]) ?_ rfl (rc_post hfin.out ?_)
          · rw [results_cell_tmp rfl]
            go_simp
          · rw [HC.out]; rfl
        · have hfd : decide ((r.length : Int) + 1 < 1 + (n : Int)) = false := decide_eq_false (by omega)
          have hrn : n ≤ r.length := by omega
          clear hf k0 k1 k2 k3 k4 t0 t1 t2 t3 t4 r0 r1 r2 r3 r4 s0 s1 s2 s3 s4
          obtain ⟨i0, hi0, hz0, hz1, hz2⟩ := info_parts intInfo
          go_wp2_with fail
          go_loopw [7] (fun i w' => ∃ (k : Nat) (sv : Value) (al : List Int), k ≤ n ∧ i = .int .i64 ((k : Int) + 1) ∧ al.length = k ∧ ScrM.nums k (r.map bl) = some al ∧ RcAt w (w.heap.size + 1) (ScrM.opOf (bl x) : Int) sv al (-1) 0 0 w') (fun i _ => n + 1 - (intOf i).toNat)
          case atStart => exact ⟨0, .slice none 0 0, [], by omega, rfl, rfl, rfl, HA2.out⟩
          case round =>
            clear HA2
            obtain ⟨k, sv, al, hk, rfl, hal, hnums, hat⟩ := hrel
            have HNM := Lib.hid hnums
            have HAL := Lib.hid hal
            have HA := Lib.hid hat
            obtain ⟨⟨k0, k1, k2, k3, k4⟩, t0, t1, t2, t3, t4⟩ := hat.facts
            clear hnums hal hat
            by_cases hlt : k < n
            · have hle : decide ((k : Int) + 1 ≤ (n : Int)) = true := decide_eq_true (by omega)
              have hkr : k < r.length := by omega
              obtain ⟨y, hyr⟩ : ∃ y, r[k]? = some y := ⟨_, List.getElem?_eq_getElem hkr⟩
              have hcy := (HA.out.low.cell (p := ⟨g, o + (k + 1), none⟩) h4).trans (H7.out (k + 1) y (by simpa using hyr))
              have hys := HX.out y (List.mem_cons_of_mem _ (List.mem_of_getElem? hyr))
              have HYR := Lib.hid (show (r.map bl)[k]? = some (bl y) by rw [List.getElem?_map, hyr]; rfl)
              clear hyr
              have hk0 : (0 : Int) ≤ (k : Int) + 1 := by omega
              have hk1 : (k : Int) + 1 < (r.length : Int) + 1 := by omega
              have hkn : ((k : Int) + 1).toNat = k + 1 := by omega
              obtain ⟨As, ns, cs, rfl⟩ := own_slice HA.out.row
              go_wp2_with fail
              refine (rnum_any y 65535 hys _).mono ?_
              rintro e w2 ⟨rfl, rfl⟩
              obtain ⟨z, hz⟩ : ∃ z, z = ScrM.numI 65535 (bl y) := ⟨_, rfl⟩
              rw [← hz]
              have HZ := Lib.hid hz
              clear hz
              by_cases hv : z < 0
              · have hvd : decide (z < 0) = true := decide_eq_true hv
                have HC := Lib.hid (show ScrM.command (bl x :: r.map bl) = none from ScrM.command_nums (ScrM.nums_bad (k := k) (by rw [← HNN.out]; exact hlt) HYR.out (ScrM.numI_neg (by rw [← HZ.out]; exact hv))))
                obtain ⟨⟨r0, r1, r2, r3, r4⟩, s0, s1, s2, s3, s4⟩ := zero_facts HA.out.res
                have hfin := Lib.hid (HA.out.fin (.int .i64 (ScrM.opOf (bl x) : Int)) (.slice As ns cs) (.int .i64 (-1)) (.int .i64 0) (.int .i64 0))
                go_wp2_with fail
                (try simp only [Exit.inBlock, Exit.then])
                refine bodyPost_ret (v := .tuple #[.agg #[.int .i64 (ScrM.opOf (bl x) : Int), .slice As ns cs, .int .i64 (-1), .int .i64 0, .int .i64 0], .bool false]) ?_ rfl (rc_post hfin.out ?_)
                · rw [results_cell_tmp rfl]
                  go_simp
                · rw [HC.out]; rfl
              · have hvd : decide (z < 0) = false := decide_eq_false hv
                have HNX := Lib.hid (ScrM.nums_next HNM.out HYR.out (by rw [← HZ.out]; omega))
                rw [← HZ.out] at HNX
                go_wp2_with (at_builtin; refine wpList_append_own _ rfl _ _ 29 rfl w.heap.size 3 i0 (.int .i64 0) 1 8 Tryd.underlying29 hi0 hz0 hz1 hz2 rfl (by omega) _ _ _ rfl (HA.out.row.alloc _) _ 1 1 [.int .i64 z] rfl rfl ?c1 ?c2 ?c3 ?c4 ?c5 ?_)
                case c1 => exact World.news_of_block (heap_alloc_new _ _)
                case c2 => simp [Value.oneCell']
                case c3 => have := HAL.out; unfold maxLen; omega
                case c4 => have := HAL.out; omega
                case c5 => have := HA.out.low.size; simp; omega
                intro v' w3 hown' hgrow _
                obtain ⟨A', n', c', rfl⟩ : ∃ A' n' c', v' = .slice A' n' c' := own_slice hown'
                obtain ⟨⟨a1, a2⟩, happ⟩ := HA.out.app (v' := .slice A' n' c') _ hgrow
                have HAPP := Lib.hid (happ z hown')
                clear happ hown' hgrow k0 k1 k2 k3 k4 t0 t1 t2 t3 t4
                go_wp2_with fail
                go_roundw
                case rel => exact ⟨k + 1, .slice A' n' c', al ++ [z], by omega, by go_num, by have := HAL.out; simp; omega, HNX.out, HAPP.out⟩
                case measure => simp [intOf]; omega
            · have hle : decide ((k : Int) + 1 ≤ (n : Int)) = false := decide_eq_false (by omega)
              obtain rfl : k = n := by omega
              obtain ⟨As, ns, cs, rfl⟩ := own_slice HA.out.row
              go_upto_region 17 with fail
              clear i0 hi0 hz0 hz1 hz2 k0 k1 k2 k3 k4 t0 t1 t2 t3 t4
              go_cut [0] from 54 to 57 (fun v w' => w' = wr ∧ WdsAt w w.heap.size v ((x :: r).drop (1 + k)))
              case first =>
                by_cases hc : c = 1 + k
                · subst hc
                  go_wp2_with fail
                  go_meet
                  case rel => exact ⟨rfl, wds_drop H7.out h4 (by simp; omega) (by simp; omega) (by simp) (by omega) (.inl (by omega))⟩
                · go_wp2_with fail
                  go_meet
                  case rel => exact ⟨rfl, wds_drop H7.out h4 (by simp; omega) (by simp; omega) (by simp) rfl (.inr rfl)⟩
              case rest =>
                obtain ⟨rfl, hwd⟩ := hcut
                have HNU := Lib.hid (show ScrM.nums (ScrM.arityOf (bl x)) (r.map bl) = some al by rw [← HNN.out]; exact HNM.out)
                have HXT := Lib.hid (fun y (hy : y ∈ (x :: r).drop (1 + k)) => HX.out y (List.mem_of_mem_drop hy))
                have HDR := Lib.hid (show ((x :: r).drop (1 + k)).map bl = (r.map bl).drop (ScrM.arityOf (bl x)) by
                  rw [← HNN.out, Nat.add_comm 1 k, List.drop_succ_cons, List.map_drop])
                obtain ⟨t, ht⟩ : ∃ t, t = (x :: r).drop (1 + k) := ⟨_, rfl⟩
                rw [← ht] at hwd HXT HDR
                have htl : t.length ≤ 99999 := by rw [ht, List.length_drop]; simp; omega
                clear ht H7 hy h6 hrn hfd hn0 hle hlt
                obtain ⟨g2, o2, c2, rfl, hg2, hl2, h72⟩ := hwd
                obtain ⟨⟨k0, k1, k2, k3, k4⟩, t0, t1, t2, t3, t4⟩ := HA.out.facts
                have HC72 := Lib.hid (fun i y (hy : t[i]? = some y) => (HA.out.low.cell (p := ⟨g2, o2 + i, none⟩) hg2).trans (h72 i y hy))
                have H72 := Lib.hid h72
                clear h72
                go_upto_region 18 with fail
                go_cut [66] from 58 to 65 (fun b w' => b = .bool (cutHead t) ∧ w' = wc)
                case first =>
                  by_cases h3 : 3 ≤ t.length
                  · have h3d : decide ((3 : Int) ≤ (t.length : Int)) = true := decide_eq_true (by omega)
                    have hl0 : (0 : Int) < (t.length : Int) := by omega
                    obtain ⟨y0, hy0⟩ : ∃ y0, t[0]? = some y0 := ⟨_, List.getElem?_eq_getElem (by omega)⟩
                    have hc0 := HC72.out 0 y0 hy0
                    rw [Nat.add_zero] at hc0
                    have hcb : (y0.toList == [99, 117, 116]) = cutHead t := by
                      unfold cutHead
                      rw [decide_eq_true h3, Bool.true_and, List.head?_eq_getElem?, hy0, Bool.eq_iff_iff, beq_iff_eq, decide_eq_true_eq, Option.some.injEq, Lib.toList_data]
                      exact ⟨fun e => bl_inj e, fun e => by rw [e]; rfl⟩
                    cases hcv : cutHead t with
                    | true =>
                      rw [hcv] at hcb
                      have HCV := Lib.hid hcv
                      clear hcv hy0
                      go_wp2_with fail
                      go_meet
                      case rel => exact ⟨by first | rfl | rw [HCV.out], rfl⟩
                    | false =>
                      rw [hcv] at hcb
                      have HCV := Lib.hid hcv
                      clear hcv hy0
                      go_wp2_with fail
                      go_meet
                      case rel => exact ⟨by first | rfl | rw [HCV.out], rfl⟩
                  · have h3d : decide ((3 : Int) ≤ (t.length : Int)) = false := decide_eq_false (by omega)
                    have hcv : cutHead t = false := by unfold cutHead; rw [decide_eq_false h3]; rfl
                    have HCV := Lib.hid hcv
                    clear hcv
                    go_wp2_with fail
                    go_meet
                    case rel => exact ⟨by rw [HCV.out], rfl⟩
                case rest =>
                  obtain ⟨rfl, rfl⟩ := hcut
                  obtain ⟨cb, hct⟩ : ∃ cb, cb = cutHead t := ⟨_, rfl⟩
                  rw [← hct]
                  have HCT := Lib.hid hct
                  clear hct
                  go_upto_if 66 with (fail)
                  go_cut [0] from 67 to 87 (fun v w' => CutSt w x r (.slice As ns cs) al v w')
                  case first =>
                    cases cb with
                    | false =>
                      go_wp2_with fail
                      go_meet
                      case rel => exact ⟨t, -1, 0, ⟨g2, o2, c2, rfl, hg2, hl2, H72.out⟩, htl, HXT.out, by rw [HDR.out]; exact ScrM.stageR_no H0.out HNU.out (by rw [← HDR.out]; exact cut_false HCT.out.symm), HA.out⟩
                    | true =>
                      obtain ⟨ya, yb, tr, ht⟩ := cut_true HCT.out.symm
                      have hca := HC72.out 1 ya (by rw [ht]; rfl)
                      have hcb := HC72.out 2 yb (by rw [ht]; rfl)
                      have hsa := HXT.out ya (by rw [ht]; simp)
                      have hsb := HXT.out yb (by rw [ht]; simp)
                      have htl3 : t.length = tr.length + 3 := by rw [ht]; rfl
                      have hl1 : (1 : Int) < (t.length : Int) := by omega
                      have hl2' : (2 : Int) < (t.length : Int) := by omega
                      have HTE := Lib.hid ht
                      have HTL3 := Lib.hid htl3
                      clear ht htl3
                      go_wp2_with fail
                      refine (rnum_any ya 65535 hsa _).mono ?_
                      rintro e w2 ⟨rfl, rfl⟩
                      obtain ⟨za, hz⟩ : ∃ z, z = ScrM.numI 65535 (bl ya) := ⟨_, rfl⟩
                      rw [← hz]
                      have HZA := Lib.hid hz
                      clear hz
                      have hat2 := HA.out.set 2 (.int .i64 za) (op' := (ScrM.opOf (bl x) : Int)) (sv' := .slice As ns cs) (al' := al) (cut' := za) (bytes' := 0) (noise' := 0) rfl HA.out.row
                      have hcb2 := (hat2.low.cell (p := ⟨g2, o2 + 2, none⟩) hg2).trans ((HA.out.low.cell (p := ⟨g2, o2 + 2, none⟩) hg2).symm.trans hcb)
                      go_wp2_with fail
                      refine (rnum_any yb 256 hsb _).mono ?_
                      rintro e w2 ⟨rfl, rfl⟩
                      obtain ⟨zb, hz⟩ : ∃ z, z = ScrM.numI 256 (bl yb) := ⟨_, rfl⟩
                      rw [← hz]
                      have HZB := Lib.hid hz
                      clear hz
                      have hat3 := hat2.set 3 (.int .i64 zb) (op' := (ScrM.opOf (bl x) : Int)) (sv' := .slice As ns cs) (al' := al) (cut' := za) (bytes' := zb) (noise' := 0) rfl hat2.row
                      have HA3 := Lib.hid hat3
                      obtain ⟨⟨q0, q1, q2, q3, q4⟩, v0, v1, v2, v3, v4⟩ := hat2.facts
                      obtain ⟨⟨m0, m1, m2, m3, m4⟩, j0, j1, j2, j3, j4⟩ := hat3.facts
                      obtain ⟨⟨r0, r1, r2, r3, r4⟩, s0, s1, s2, s3, s4⟩ := zero_facts hat3.res
                      have hfin := Lib.hid (hat3.fin (.int .i64 (ScrM.opOf (bl x) : Int)) (.slice As ns cs) (.int .i64 za) (.int .i64 zb) (.int .i64 0))
                      have hdrop : (r.map bl).drop (ScrM.arityOf (bl x)) = ScrM.wCut :: bl ya :: bl yb :: tr.map bl := by rw [← HDR.out, HTE.out]; rfl
                      have HDROP := Lib.hid hdrop
                      clear hat2 hat3 hdrop hcb2 hca hcb k0 k1 k2 k3 k4 t0 t1 t2 t3 t4
                      by_cases hva : za < 0
                      · have hvd : decide (za < 0) = true := decide_eq_true hva
                        have HC := Lib.hid (show ScrM.command (bl x :: r.map bl) = none from ScrM.stageR_bad H0.out HNU.out HDROP.out (.inl (by rw [← HZA.out]; exact hva)))
                        go_wp2_with fail
                        (try simp only [Exit.inBlock, Exit.then])
                        refine bodyPost_ret (v := .tuple #[.agg #[.int .i64 (ScrM.opOf (bl x) : Int), .slice As ns cs, .int .i64 za, .int .i64 zb, .int .i64 0], .bool false]) ?_ rfl (rc_post hfin.out ?_)
                        · rw [results_cell_tmp rfl]
                          go_simp
                        · rw [HC.out]; rfl
                      · have hvd : decide (za < 0) = false := decide_eq_false hva
                        by_cases hvb : zb < 0
                        · have hvd2 : decide (zb < 0) = true := decide_eq_true hvb
                          have HC := Lib.hid (show ScrM.command (bl x :: r.map bl) = none from ScrM.stageR_bad H0.out HNU.out HDROP.out (.inr (by rw [← HZB.out]; exact hvb)))
                          go_wp2_with fail
                          (try simp only [Exit.inBlock, Exit.then])
                          refine bodyPost_ret (v := .tuple #[.agg #[.int .i64 (ScrM.opOf (bl x) : Int), .slice As ns cs, .int .i64 za, .int .i64 zb, .int .i64 0], .bool false]) ?_ rfl (rc_post hfin.out ?_)
                          · rw [results_cell_tmp rfl]
                            go_simp
                          · rw [HC.out]; rfl
                        · have hvd2 : decide (zb < 0) = false := decide_eq_false hvb
                          have HSR := Lib.hid (ScrM.stageR_yes H0.out HNU.out HDROP.out (by rw [← HZA.out]; omega) (by rw [← HZB.out]; omega))
                          rw [← HZA.out, ← HZB.out] at HSR
                          have hst3 : ∀ v, WdsAt w w.heap.size v (t.drop 3) → CutSt w x r (.slice As ns cs) al v _ := fun v hv => ⟨t.drop 3, za, zb, hv, by rw [List.length_drop]; omega, fun y hy => HXT.out y (List.mem_of_mem_drop hy), by rw [HTE.out]; exact HSR.out, HA3.out⟩
                          have HST3 := Lib.hid hst3
                          have hl3 : 3 ≤ t.length := by have := HTL3.out; omega
                          clear hst3 r0 r1 r2 r3 r4 s0 s1 s2 s3 s4 hfin
                          by_cases hc3 : c2 = 3
                          · subst hc3
                            go_wp2_with fail
                            go_meet
                            case rel => exact HST3.out _ (wds_drop H72.out hg2 hl2 hl3 (by first | rfl | omega) (by omega) (.inl (by omega)))
                          · have hc3' : 3 < c2 := by omega
                            go_wp2_with fail
                            go_meet
                            case rel => exact HST3.out _ (wds_drop H72.out hg2 hl2 hl3 (by first | rfl | omega) rfl (.inr rfl))
                  case rest =>
                    obtain ⟨u, cut, bytes, hwd, hul, hux, hst, hat⟩ := hcut
                    clear HXT HDR htl hg2 hl2 HC72 H72 HA HCT k0 k1 k2 k3 k4 t0 t1 t2 t3 t4
                    obtain ⟨g5, o5, c5, rfl, hg5, hl5, h75⟩ := hwd
                    obtain ⟨⟨k0, k1, k2, k3, k4⟩, t0, t1, t2, t3, t4⟩ := hat.facts
                    have HC75 := Lib.hid (fun i y (hy : u[i]? = some y) => (hat.low.cell (p := ⟨g5, o5 + i, none⟩) hg5).trans (h75 i y hy))
                    have H75 := Lib.hid h75
                    have HA5 := Lib.hid hat
                    have HSR := Lib.hid hst
                    have HUX := Lib.hid hux
                    clear h75 hat hst hux
                    go_upto_region 24 with fail
                    go_cut [96] from 88 to 95 (fun b w' => b = .bool (noiseHead u) ∧ w' = wc)
                    case first =>
                      by_cases h3 : 2 ≤ u.length
                      · have h3d : decide ((2 : Int) ≤ (u.length : Int)) = true := decide_eq_true (by omega)
                        have hl0 : (0 : Int) < (u.length : Int) := by omega
                        obtain ⟨y0, hy0⟩ : ∃ y0, u[0]? = some y0 := ⟨_, List.getElem?_eq_getElem (by omega)⟩
                        have hc0 := HC75.out 0 y0 hy0
                        rw [Nat.add_zero] at hc0
                        have hcb : (y0.toList == [110, 111, 105, 115, 101]) = noiseHead u := by
                          unfold noiseHead
                          rw [decide_eq_true h3, Bool.true_and, List.head?_eq_getElem?, hy0, Bool.eq_iff_iff, beq_iff_eq, decide_eq_true_eq, Option.some.injEq, Lib.toList_data]
                          exact ⟨fun e => bl_inj e, fun e => by rw [e]; rfl⟩
                        cases hcv : noiseHead u with
                        | true =>
                          rw [hcv] at hcb
                          have HCV := Lib.hid hcv
                          clear hcv hy0
                          go_wp2_with fail
                          go_meet
                          case rel => exact ⟨by first | rfl | rw [HCV.out], rfl⟩
                        | false =>
                          rw [hcv] at hcb
                          have HCV := Lib.hid hcv
                          clear hcv hy0
                          go_wp2_with fail
                          go_meet
                          case rel => exact ⟨by first | rfl | rw [HCV.out], rfl⟩
                      · have h3d : decide ((2 : Int) ≤ (u.length : Int)) = false := decide_eq_false (by omega)
                        have hcv : noiseHead u = false := by unfold noiseHead; rw [decide_eq_false h3]; rfl
                        have HCV := Lib.hid hcv
                        clear hcv
                        go_wp2_with fail
                        go_meet
                        case rel => exact ⟨by rw [HCV.out], rfl⟩
                    case rest =>
                      obtain ⟨rfl, rfl⟩ := hcut
                      obtain ⟨cb, hct⟩ : ∃ cb, cb = noiseHead u := ⟨_, rfl⟩
                      rw [← hct]
                      have HCT := Lib.hid hct
                      clear hct
                      go_upto_if 96 with (fail)
                      go_cut [0] from 97 to 107 (fun v w' => EndSt w x r (.slice As ns cs) al cut bytes v w')
                      case first =>
                        cases cb with
                        | false =>
                          go_wp2_with fail
                          go_meet
                          case rel => exact ⟨_, _, _, 0, rfl, hul, by rw [ScrM.finR_no HSR.out (noise_false HCT.out.symm), List.length_map], HA5.out⟩
                        | true =>
                          obtain ⟨ya, tr, ht⟩ := noise_true HCT.out.symm
                          have hca := HC75.out 1 ya (by rw [ht]; rfl)
                          have hsa := HUX.out ya (by rw [ht]; simp)
                          have htl3 : u.length = tr.length + 2 := by rw [ht]; rfl
                          have hl1 : (1 : Int) < (u.length : Int) := by omega
                          have HSY := Lib.hid (show ScrM.StageR (bl x) (r.map bl) al cut bytes (ScrM.wNoise :: bl ya :: tr.map bl) by have := HSR.out; rw [ht] at this; exact this)
                          have HTL3 := Lib.hid htl3
                          clear ht htl3 HSR
                          go_wp2_with fail
                          refine (rnum_any ya 65535 hsa _).mono ?_
                          rintro e w2 ⟨rfl, rfl⟩
                          obtain ⟨za, hz⟩ : ∃ z, z = ScrM.numI 65535 (bl ya) := ⟨_, rfl⟩
                          rw [← hz]
                          have HZA := Lib.hid hz
                          clear hz
                          have hat3 := HA5.out.set 4 (.int .i64 za) (op' := (ScrM.opOf (bl x) : Int)) (sv' := .slice As ns cs) (al' := al) (cut' := cut) (bytes' := bytes) (noise' := za) rfl HA5.out.row
                          have HA3 := Lib.hid hat3
                          obtain ⟨⟨m0, m1, m2, m3, m4⟩, j0, j1, j2, j3, j4⟩ := hat3.facts
                          obtain ⟨⟨r0, r1, r2, r3, r4⟩, s0, s1, s2, s3, s4⟩ := zero_facts hat3.res
                          have hfin := Lib.hid (hat3.fin (.int .i64 (ScrM.opOf (bl x) : Int)) (.slice As ns cs) (.int .i64 cut) (.int .i64 bytes) (.int .i64 za))
                          clear hat3 hca
                          by_cases hva : za ≤ 0
                          · have hvd : decide (za ≤ 0) = true := decide_eq_true hva
                            have HC := Lib.hid (show ScrM.command (bl x :: r.map bl) = none from ScrM.finR_bad HSY.out (by rw [← HZA.out]; exact hva))
                            go_wp2_with fail
                            (try simp only [Exit.inBlock, Exit.then])
                            refine bodyPost_ret (v := .tuple #[.agg #[.int .i64 (ScrM.opOf (bl x) : Int), .slice As ns cs, .int .i64 cut, .int .i64 bytes, .int .i64 za], .bool false]) ?_ rfl (rc_post hfin.out ?_)
                            · rw [results_cell_tmp rfl]
                              go_simp
                            · rw [HC.out]; rfl
                          · have hvd : decide (za ≤ 0) = false := decide_eq_false hva
                            have HFY := Lib.hid (ScrM.finR_yes HSY.out (by rw [← HZA.out]; omega))
                            rw [← HZA.out] at HFY
                            have hst3 : ∀ A n c, n = u.length - 2 → EndSt w x r (.slice As ns cs) al cut bytes (.slice A n c) _ := fun A n c hn => ⟨A, n, c, za, rfl, by omega, by rw [HFY.out, hn, HTL3.out, List.length_map]; rfl, HA3.out⟩
                            have HST3 := Lib.hid hst3
                            have hl3 : 2 ≤ u.length := by have := HTL3.out; omega
                            clear hst3 r0 r1 r2 r3 r4 s0 s1 s2 s3 s4 hfin
                            by_cases hc3 : c5 = 2
                            · subst hc3
                              go_wp2_with fail
                              go_meet
                              case rel => exact HST3.out _ _ _ (by first | rfl | omega)
                            · have hc3' : 2 < c5 := by omega
                              go_wp2_with fail
                              go_meet
                              case rel => exact HST3.out _ _ _ (by first | rfl | omega)
                      case rest =>
                        obtain ⟨A9, n9, c9, noise, rfl, hn9, hcmd, hat⟩ := hcut
                        clear k0 k1 k2 k3 k4 t0 t1 t2 t3 t4
                        obtain ⟨⟨k0, k1, k2, k3, k4⟩, t0, t1, t2, t3, t4⟩ := hat.facts
                        obtain ⟨⟨r0, r1, r2, r3, r4⟩, s0, s1, s2, s3, s4⟩ := zero_facts hat.res
                        have hfin := Lib.hid (hat.fin (.int .i64 (ScrM.opOf (bl x) : Int)) (.slice As ns cs) (.int .i64 cut) (.int .i64 bytes) (.int .i64 noise))
                        have HC := Lib.hid hcmd
                        clear hcmd hat
                        by_cases hz : n9 = 0
                        · have hzd : ((n9 : Int) == 0) = true := beq_iff_eq.2 (by omega)
                          have HZ := Lib.hid hz
                          clear hz
                          go_wp2_with fail
                          (try simp only [Exit.inBlock, Exit.then])
                          refine bodyPost_ret (v := .tuple #[.agg #[.int .i64 (ScrM.opOf (bl x) : Int), .slice As ns cs, .int .i64 cut, .int .i64 bytes, .int .i64 noise], .bool true]) ?_ rfl (rc_post hfin.out ?_)
                          · rw [results_cell_tmp rfl]
                            go_simp
                          · rw [HC.out, if_pos HZ.out]; rfl
                        · have hzd : ((n9 : Int) == 0) = false := beq_eq_false_iff_ne.2 (by omega)
                          have HZ := Lib.hid hz
                          clear hz
                          go_wp2_with fail
                          (try simp only [Exit.inBlock, Exit.then])
                          refine bodyPost_ret (v := .tuple #[.agg #[.int .i64 (ScrM.opOf (bl x) : Int), .slice As ns cs, .int .i64 cut, .int .i64 bytes, .int .i64 noise], .bool false]) ?_ rfl (rc_post hfin.out ?_)
                          · rw [results_cell_tmp rfl]
                            go_simp
                          · rw [HC.out, if_neg HZ.out]; rfl

end Go.Proofs.YtnanhebepjdlcabDoor
