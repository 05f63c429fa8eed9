/- line.command: the walk. -/
import Derived.Test.YtnanhebepjdlcabDoorWalkH
import Derived.BigRegion
import Derived.Laws.ResultCell
namespace Go.Proofs.YtnanhebepjdlcabDoor
open Go.RowKit

theorem cmd_post {b : Nat} {x : ByteArray} {r : List ByteArray} {w W5 : World} {op cut bytes noise : Int} {As : Option Addr} {ns cs : Nat} {al : List Int} {t : Bool}
    (hf : w.grownBy W5 (some b) ∧ W5.ownsRow w.heap.size 3 1 (.slice As ns cs) al.length (intsV al)) (h1 : (ScrM.command ((x :: r).map bl)).isSome = t)
    (h2 : ∀ cm, ScrM.command ((x :: r).map bl) = some cm → cm = ⟨op, al, cut, bytes, noise⟩) :
    CmdPost b (x :: r) w (.returned (.tuple #[.agg #[.int .i64 op, .slice As ns cs, .int .i64 cut, .int .i64 bytes, .int .i64 noise], .bool t])) W5.drew := by
  refine ⟨op, cut, bytes, noise, As, ns, cs, by rw [h1]; rfl, fun cm hcm => ?_, ⟨hf.1.os, hf.1.tape, hf.1.output, hf.1.size, hf.1.block⟩⟩
  have e := h2 cm hcm
  subst e
  exact ⟨rfl, rfl, rfl, rfl, hf.2⟩

set_option maxHeartbeats 4000000 in
set_option maxRecDepth 100000 in
theorem command_any (b : Nat) (x : ByteArray) (r : List ByteArray) (w : World) (hw : WOk w) (hb10 : 9 ≤ b) (h : LineAt w b w.heap.size (x :: r)) (hl : r.length ≤ 99999) (hx : ∀ y ∈ x :: r, y.size ≤ 100000) :
    Calls Tryd.prog 26 #[.pointer (some ⟨b, 0, none⟩)] w (CmdPost b (x :: r) w) := by
  have HL := Lib.hid h
  have HX := Lib.hid hx
  have hxs : x.size ≤ maxLen := by have := hx x (by simp); unfold maxLen; omega
  obtain ⟨hK, g, o, c, h1, h2, h3, h4, h5, h6, h7⟩ := h
  have hy := h7 0 x rfl
  rw [Nat.add_zero] at hy
  clear h7 hx
  simp only [List.length_cons] at h1 h6
  have hln : ((r.length : Int) + 1 == 0) = false := beq_eq_false_iff_ne.2 (by omega)
  have hlp : (0 : Int) < ((r.length + 1 : Nat) : Int) := by omega
  have hbA := fun (o' : Obj) => (Below.refl w.heap.size w).alloc (Nat.le_refl _) o'
  go_enter Tryd.func26, Tryd.ntmps26
  go_wp2_with fail
  go_cut [4] from 12 (fun cp w' => ∃ C : Nat, cp = .pointer (some ⟨C, 0, none⟩) ∧ CmdAt w b C (x :: r) (ScrM.opOf (bl x) : Int) (.slice none 0 0) [] (-1) 0 0 w')
  case first =>
    go_region_held3 (fun w' => w'.cell? ⟨b, 0, none⟩ = some (.slice (some ⟨g, o, none⟩) (r.length + 1) c) ∧ w'.cell? ⟨g, o, none⟩ = some (.string x))
      (go_keep)
      (first
        | (go_at_call 40
           refine Calls.mono (names_any _ (hw.later (hbA _).drew)) ?_
           rintro e W ⟨B, rfl, hNM, hbN⟩
           have hbW : Below w.heap.size w W := Below.trans (hbA _).drew (hbN.mono (by simp))
           have hWb := (hbW.cell (p := ⟨b, 0, none⟩) h5).trans h1
           have hWg := (hbW.cell (p := ⟨g, o, none⟩) h4).trans hy
           have hWba := fun o' => (World.cell?_alloc_lt (w := W) (a := ⟨b, 0, none⟩) (o := o') (Nat.lt_of_lt_of_le h5 hbW.size)).trans hWb
           have hWga := fun o' => (World.cell?_alloc_lt (w := W) (a := ⟨g, o, none⟩) (o := o') (Nat.lt_of_lt_of_le h4 hbW.size)).trans hWg
           have hres : W.heap[w.heap.size]? = some (.cells zeroCm 31 (0, 0)) := (hbN.block w.heap.size (by simp)).trans (heap_alloc_new w _)
           have hsz : w.heap.size + 1 ≤ W.heap.size := by have := hbN.size; simpa using this
           have hlk := hNM.lookup (Below.refl _ _) x hxs
           have hlk2 := fun o' => hNM.lookup ((Below.refl _ _).alloc (Nat.le_refl _) o') x hxs)
        | (go_at_call 40
           refine Calls.mono (names_any _ (hw.later ((hbA _).drew.alloc (by simp) _))) ?_
           rintro e W ⟨B, rfl, hNM, hbN⟩
           have hbW : Below w.heap.size w W := Below.trans ((hbA _).drew.alloc (by simp) _) (hbN.mono (by simp; try omega))
           have hWb := (hbW.cell (p := ⟨b, 0, none⟩) h5).trans h1
           have hWg := (hbW.cell (p := ⟨g, o, none⟩) h4).trans hy
           have hWb5 := keep5 (C := w.heap.size + 1) hWb (by simp; omega)
           have hWg5 := keep5 (C := w.heap.size + 1) hWg (by simp; omega)
           have hblk : W.heap[w.heap.size + 1]? = some (.cells zeroCm 31 (0, 0)) := (hbN.block (w.heap.size + 1) (by simp)).trans (new_second w _ _)
           obtain ⟨⟨hc0, hc1, hc2, hc3, hc4⟩, ht0, ht1, ht2, ht3, ht4⟩ := zero_facts hblk
           have hres : W.heap[w.heap.size]? = some (.cells zeroCm 31 (0, 0)) := (hbN.block w.heap.size (by simp; omega)).trans (new_first w _ _)
           have hlk := hNM.lookup (Below.refl _ _) x hxs))
    all_goals
      go_wp2_with fail
      go_meet
      case rel => first
        | exact ⟨_, rfl, CmdAt.start HL.out hbW hres hsz _⟩
        | exact ⟨_, rfl, CmdAt.start5 HL.out hbW hres hblk (Nat.le_refl _) _⟩
  case rest =>
    obtain ⟨C, rfl, hat⟩ := hcut
    clear h1 h2 h6 hy hlp hbA
    go_upto_region 2 with fail
    go_cut [4] from 12 (fun cp w' => cp = .pointer (some ⟨C, 0, none⟩) ∧ CmdAt w b C r (ScrM.opOf (bl x) : Int) (.slice none 0 0) [] (-1) 0 0 w')
    case first =>
      have HAT := Lib.hid hat
      obtain ⟨hK1, g1, o1, c1, g1a, g1b, g1c, g1d, g1e, g1f, g1g⟩ := hat.line
      simp only [List.length_cons] at g1a g1f
      have HG := Lib.hid g1g
      have H1 := Lib.hid g1a
      clear g1g hat
      by_cases hc : c1 = 1
      · subst hc
        have hr : r = [] := List.eq_nil_of_length_eq_zero (by omega)
        have HT := Lib.hid (LineAt.tail (o' := o1) (c' := 0) H1.out g1b g1c hK1 g1d g1e HG.out (by omega) (.inl hr))
        have HR0 := Lib.hid (show r.length = 0 by omega)
        clear hr
        go_wp2_with fail
        go_meet
        case rel =>
          have ht := HT.out
          rw [HR0.out] at ht
          refine ⟨rfl, ?_⟩
          have := HAT.out.setLine g1e HT.out
          rw [HR0.out] at this
          exact this
      · have hc1 : 1 < c1 := by omega
        have HT := Lib.hid (LineAt.tail (o' := o1 + 1) (c' := c1 - 1) H1.out g1b g1c hK1 g1d g1e HG.out (by omega) (.inr rfl))
        go_wp2_with fail
        go_meet
        case rel => exact ⟨rfl, HAT.out.setLine g1e HT.out⟩
    case rest =>
      obtain ⟨rfl, hat1⟩ := hcut
      obtain ⟨⟨k0, k1, k2, k3, k4⟩, t0, t1, t2, t3, t4⟩ := hat1.facts
      have hwk := hat1.wok hw hb10
      have HAT := Lib.hid hat1
      clear hat hat1
      go_wp2_with fail
      refine (arity_any (ScrM.opOf (bl x)) _ hwk).mono ?_
      rintro e w2 ⟨rfl, rfl⟩
      go_wp2_with fail
      rw [max_arity]
      clear k0 k1 k2 k3 k4 t0 t1 t2 t3 t4
      have hn3 := ScrM.arityOf_le (bl x)
      generalize hnn : ScrM.arityOf (bl x) = n at hn3 ⊢
      have HNN := Lib.hid hnn
      clear hnn
      obtain ⟨i0, hi0, hz0, hz1, hz2⟩ := info_parts intInfo
      go_loopw [5, 36] (fun ok i w' => ∃ (k : Nat) (sv : Value) (al : List Int), k ≤ n ∧ i = .int .i64 k ∧ al.length = k ∧ ok = .bool (okN x r k) ∧ (∀ l, ScrM.nums k (r.map bl) = some l → al = l) ∧ CmdAt w b C (r.drop k) (ScrM.opOf (bl x) : Int) sv al (-1) 0 0 w') (fun _ i _ => n - (intOf i).toNat)
      case atStart => exact ⟨0, .slice none 0 0, [], by omega, rfl, rfl, by rw [show okN x r 0 = decide (0 < ScrM.opOf (bl x)) by simp [okN, ScrM.nums]], (fun l h => by simpa [ScrM.nums] using h), HAT.out⟩
      case round =>
        obtain ⟨k, sv, al, hk, rfl, hal, rfl, hals, hat⟩ := hrel
        have HALS := Lib.hid hals
        have HAT2 := Lib.hid hat
        have HAL := Lib.hid hal
        have hwk2 := hat.wok hw hb10
        clear hals hat hal
        by_cases hlt : k < n
        · have hk63 : (k : Int) < (n : Int) := by omega
          have hnum := number_any b w.heap.size (r.drop k) 65535 (by omega) wr hwk2 hb10 HAT2.out.line (by rw [List.length_drop]; omega) (fun y hy => HX.out y (List.mem_cons_of_mem _ (List.mem_of_mem_drop hy)))
          have hsucc := Lib.hid (okN_succ x r k)
          generalize hhn : ScrM.hd 65535 ((r.drop k).map bl) = hn at hnum hsucc
          have HHN := Lib.hid hhn
          clear hhn
          cases hok : okN x r k <;> cases hn
          all_goals
            go_wp2_with fail
            refine hnum.mono ?_
            rintro e w2 ⟨v, rfl, hv, hl2, hg2⟩
            have hat2 := HAT2.out.later h5 hg2 hl2
            obtain ⟨⟨k0, k1, k2, k3, k4⟩, t0, t1, t2, t3, t4⟩ := hat2.facts
            have HA2 := Lib.hid hat2
            have HV := Lib.hid hv
            clear hat2 hv hl2 hg2 hnum
            go_wp2_with (at_builtin; refine wpList_append_own _ rfl _ _ 29 rfl w.heap.size 3 i0 (.int .i64 0) 1 8 Tryd.underlying29 hi0 hz0 hz1 hz2 rfl (by omega) _ _ _ rfl (HA2.out.row.alloc _) _ 1 1 [.int .i64 v] rfl rfl ?c1 ?c2 ?c3 ?c4 ?c5 ?_)
            case c1 => exact World.news_of_block (heap_alloc_new _ _)
            case c2 => simp [Value.oneCell']
            case c3 => have := HAL.out; unfold maxLen; omega
            case c4 => have := HAL.out; omega
            case c5 => have := HA2.out.grown.size; simp; omega
            intro v' w3 hown' hgrow _
            obtain ⟨A', n', c', rfl⟩ : ∃ A' n' c', v' = .slice A' n' c' := own_slice hown'
            obtain ⟨⟨a1, a2⟩, happ⟩ := HA2.out.app (v' := .slice A' n' c') _ hgrow
            have HAPP := Lib.hid (happ v hown')
            clear happ hown' hgrow k0 k1 k2 k3 k4 t0 t1 t2 t3 t4
            go_wp2_with fail
            go_roundw
            case rel => exact ⟨k + 1, .slice A' n' c', al ++ [v], by omega, by go_num, by have := HAL.out; simp; omega, by rw [hsucc.out, hok]; rfl, nums_step HALS.out HHN.out HV.out, by have := HAPP.out; rw [List.tail_drop] at this; exact this⟩
            case measure => simp [intOf]; omega
        · obtain rfl : k = n := by omega
          obtain ⟨As, ns, cs, rfl⟩ := own_slice HAT2.out.row
          go_upto_region 10 with fail
          have hals9 := HALS.out
          have hst0 := @stage_no x r al
          have hst1 := @stage_yes x r
          rw [HNN.out] at hst0 hst1
          clear i0 hi0 hz0 hz1 hz2
          by_cases hc : (r.drop k).head? = some cutB
          · obtain ⟨t, ht⟩ := head_cons hc
            have hlt := congrArg List.length ht
            rw [List.length_drop, List.length_cons] at hlt
            have hxt : ∀ y ∈ t, y.size ≤ 100000 := fun y hy => HX.out y (List.mem_cons_of_mem _ (List.mem_of_mem_drop (i := k) (by rw [ht]; exact List.mem_cons_of_mem _ hy)))
            have HST := Lib.hid (fun ha hb v1 v2 a1 a2 a3 a4 => @hst1 t al ha hb v1 v2 hals9 ht a1 a2 a3 a4)
            have HA3 := Lib.hid (show CmdAt w b C (cutB :: t) _ _ _ _ _ _ wr from by rw [← ht]; exact HAT2.out)
            go_wp2_with fail
            refine (word_yes b w.heap.size t cutB wr HA3.out.line (by omega)).mono ?_
            rintro e w4 ⟨rfl, ⟨vz, rfl⟩, hlz⟩
            have hat4 := HA3.out.later h5 (grown_set (Below.refl _ _) vz (Below.refl _ _)) hlz
            have hnum := number_any b w.heap.size t 65535 (by omega) _ (hat4.wok hw hb10) hb10 hat4.line (by omega) hxt
            have HA4 := Lib.hid hat4
            have HST1 := Lib.hid (fun hb v1 v2 a2 a3 a4 => HST.out _ hb v1 v2 rfl a2 a3 a4)
            generalize ScrM.hd 65535 (t.map bl) = ha at hnum HST1
            clear hat4 hlz HST
            go_wp2_with fail
            refine hnum.mono ?_
            rintro e w5 ⟨v1, rfl, hv1, hl5, hg5⟩
            have hat5 := HA4.out.later h5 hg5 hl5
            obtain ⟨⟨k0, k1, k2, k3, k4⟩, t0, t1, t2, t3, t4⟩ := hat5.facts
            have hat6 := hat5.set 2 (.int .i64 v1) (op' := (ScrM.opOf (bl x) : Int)) (sv' := .slice As ns cs) (al' := al) (cut' := v1) (bytes' := 0) (noise' := 0) rfl hat5.row
            have hnum2 := number_any b w.heap.size t.tail 256 (by omega) _ (hat6.wok hw hb10) hb10 hat6.line (by rw [List.length_tail]; omega) (fun y hy => hxt y (List.mem_of_mem_tail hy))
            have HST2 := Lib.hid (fun v2 a4 => HST1.out _ v1 v2 rfl hv1 a4)
            generalize ScrM.hd 256 (t.tail.map bl) = hb at hnum2 HST2
            have HA6 := Lib.hid hat6
            clear hat5 hat6 hv1 hl5 hg5 hnum HST1
            go_wp2_with fail
            refine hnum2.mono ?_
            rintro e w7 ⟨v2, rfl, hv2, hl7, hg7⟩
            have hat7 := HA6.out.later h5 hg7 hl7
            have HSC := Lib.hid (HST2.out v2 hv2)
            clear k0 k1 k2 k3 k4 t0 t1 t2 t3 t4
            obtain ⟨⟨k0, k1, k2, k3, k4⟩, t0, t1, t2, t3, t4⟩ := hat7.facts
            have HA8 := Lib.hid (hat7.set 3 (.int .i64 v2) (op' := (ScrM.opOf (bl x) : Int)) (sv' := .slice As ns cs) (al' := al) (cut' := v1) (bytes' := v2) (noise' := 0) rfl hat7.row)
            clear hat7 hv2 hl7 hg7 hnum2 HST2
            go_upto_region 14 with fail
            go_cut [5] from 12 (fun okv w' => okv = .bool (okN x r k && ha.isSome && hb.isSome) ∧ CmdAt w b C t.tail.tail (ScrM.opOf (bl x) : Int) (.slice As ns cs) al v1 v2 0 w')
            case first =>
              cases hok : okN x r k <;> cases ha <;> cases hb
              all_goals
                go_wp2_with fail
                go_meet
                case rel => exact ⟨by rw [hok]; rfl, HA8.out⟩
            case rest =>
              obtain ⟨rfl, hatc⟩ := hcut
              generalize (okN x r k && ha.isSome && hb.isSome) = okc at HSC ⊢
              have HLR := Lib.hid (show t.tail.tail.length ≤ 99999 by rw [List.length_tail, List.length_tail]; omega)
              have HXR := Lib.hid (fun y (hy : y ∈ t.tail.tail) => hxt y (List.mem_of_mem_tail (List.mem_of_mem_tail hy)))
              have HATC := Lib.hid hatc
              generalize t.tail.tail = rest at HLR HXR HATC HSC
              generalize v1 = cut at HATC HSC
              generalize v2 = bytes at HATC HSC
              clear k0 k1 k2 k3 k4 t0 t1 t2 t3 t4 hatc
              by_cases hnz : rest.head? = some noiseB
              · obtain ⟨u, rfl⟩ : ∃ u, rest = noiseB :: u := head_cons hnz
                have HFY := Lib.hid (fun v hv => @fin_yes x r okc al cut bytes v u HSC.out hv)
                have hlu : u.length ≤ 99999 := by have := HLR.out; simp at this; omega
                have hxu : ∀ y ∈ u, y.size ≤ 100000 := fun y hy => HXR.out y (List.mem_cons_of_mem _ hy)
                clear hnz
                go_wp2_with fail
                refine (word_yes b w.heap.size u noiseB _ HATC.out.line (by omega)).mono ?_
                rintro e w5 ⟨rfl, ⟨vy, rfl⟩, hly⟩
                have haty := HATC.out.later h5 (grown_set (Below.refl _ _) vy (Below.refl _ _)) hly
                have hnumy := number_any b w.heap.size u 65535 (by omega) _ (haty.wok hw hb10) hb10 haty.line (by omega) hxu
                have HAY := Lib.hid haty
                generalize ScrM.hd 65535 (u.map bl) = hny at hnumy HFY
                clear haty hly hxu
                go_wp2_with fail
                refine hnumy.mono ?_
                rintro e w6 ⟨v, rfl, hv, hl6, hg6⟩
                have hat6 := HAY.out.later h5 hg6 hl6
                obtain ⟨⟨k0, k1, k2, k3, k4⟩, t0, t1, t2, t3, t4⟩ := hat6.facts
                have HF := Lib.hid (HFY.out v hv)
                have HA6 := Lib.hid (hat6.set 4 (.int .i64 v) (op' := (ScrM.opOf (bl x) : Int)) (sv' := .slice As ns cs) (al' := al) (cut' := cut) (bytes' := bytes) (noise' := v) rfl hat6.row)
                clear hat6 hl6 hg6 hv hnumy
                go_upto_region 17 with fail
                go_cut [5] from 12 (fun okv w' => okv = .bool (okc && hny.isSome && decide (0 < v)) ∧ CmdAt w b C u.tail (ScrM.opOf (bl x) : Int) (.slice As ns cs) al cut bytes v w')
                case first =>
                  cases okc <;> cases hny <;> cases hdv : decide (0 < v)
                  all_goals
                    go_wp2_with fail
                    go_meet
                    case rel => exact ⟨by rw [hdv]; rfl, HA6.out⟩
                case rest =>
                  obtain ⟨rfl, hat7⟩ := hcut
                  generalize (okc && hny.isSome && decide (0 < v)) = okf at HF ⊢
                  clear k0 k1 k2 k3 k4 t0 t1 t2 t3 t4
                  generalize u.tail = rest9 at HF hat7
                  go_wp2_with fail
                  obtain ⟨⟨k0, k1, k2, k3, k4⟩, t0, t1, t2, t3, t4⟩ := hat7.facts
                  obtain ⟨hK9, g9, o9, c9, z1, z2, z3, z4, z5, z6, z7⟩ := hat7.line
                  obtain ⟨⟨r0, r1, r2, r3, r4⟩, s0, s1, s2, s3, s4⟩ := zero_facts hat7.res
                  have hfin := Lib.hid (hat7.fin (.int .i64 (ScrM.opOf (bl x) : Int)) (.slice As ns cs) (.int .i64 cut) (.int .i64 bytes) (.int .i64 v))
                  have hCR : C ≠ w.heap.size := by have := hat7.base; omega
                  have hRb : w.heap.size ≠ b := by omega
                  clear z7 hat7
                  cases okf with
                  | false =>
                    go_region
                    go_wp2_with fail
                    (try simp only [Exit.inBlock, Exit.then])
                    refine bodyPost_ret (v := .tuple #[.agg #[.int .i64 (ScrM.opOf (bl x) : Int), .slice As ns cs, .int .i64 cut, .int .i64 bytes, .int .i64 v], .bool false]) ?_ rfl (cmd_post hfin.out HF.out.1 HF.out.2)
                    rw [results_cell_tmp rfl]
                    go_simp
                  | true =>
                    by_cases hq : rest9.length = 0
                    · have hq' : ((rest9.length : Int) == 0) = true := beq_iff_eq.2 (by omega)
                      have HF2 := Lib.hid (show (ScrM.command ((x :: r).map bl)).isSome = true by rw [HF.out.1, hq']; rfl)
                      have HQ := Lib.hid hq
                      clear hq
                      go_region
                      go_wp2_with fail
                      (try simp only [Exit.inBlock, Exit.then])
                      refine bodyPost_ret (v := .tuple #[.agg #[.int .i64 (ScrM.opOf (bl x) : Int), .slice As ns cs, .int .i64 cut, .int .i64 bytes, .int .i64 v], .bool true]) ?_ rfl (cmd_post hfin.out HF2.out HF.out.2)
                      rw [results_cell_tmp rfl]
                      go_simp
                    · have hq' : ((rest9.length : Int) == 0) = false := beq_eq_false_iff_ne.2 (by omega)
                      have HF2 := Lib.hid (show (ScrM.command ((x :: r).map bl)).isSome = false by rw [HF.out.1, hq']; rfl)
                      clear hq
                      go_region
                      go_wp2_with fail
                      (try simp only [Exit.inBlock, Exit.then])
                      refine bodyPost_ret (v := .tuple #[.agg #[.int .i64 (ScrM.opOf (bl x) : Int), .slice As ns cs, .int .i64 cut, .int .i64 bytes, .int .i64 v], .bool false]) ?_ rfl (cmd_post hfin.out HF2.out HF.out.2)
                      rw [results_cell_tmp rfl]
                      go_simp
              · have HF := Lib.hid (fin_no HSC.out hnz)
                have hw9 := word_no b w.heap.size rest noiseB _ HATC.out.line (by have := HLR.out; omega) hnz
                clear hnz
                go_wp2_with fail
                refine hw9.mono ?_
                rintro e w5 ⟨rfl, rfl⟩
                have hat7 := HATC.out
                generalize rest = rest9 at HF hat7
                generalize okc = okf at HF ⊢
                go_wp2_with fail
                obtain ⟨⟨k0, k1, k2, k3, k4⟩, t0, t1, t2, t3, t4⟩ := hat7.facts
                obtain ⟨hK9, g9, o9, c9, z1, z2, z3, z4, z5, z6, z7⟩ := hat7.line
                obtain ⟨⟨r0, r1, r2, r3, r4⟩, s0, s1, s2, s3, s4⟩ := zero_facts hat7.res
                have hfin := Lib.hid (hat7.fin (.int .i64 (ScrM.opOf (bl x) : Int)) (.slice As ns cs) (.int .i64 cut) (.int .i64 bytes) (.int .i64 0))
                have hCR : C ≠ w.heap.size := by have := hat7.base; omega
                have hRb : w.heap.size ≠ b := by omega
                clear z7 hat7
                cases okf with
                | false =>
                  go_region
                  go_wp2_with fail
                  (try simp only [Exit.inBlock, Exit.then])
                  refine bodyPost_ret (v := .tuple #[.agg #[.int .i64 (ScrM.opOf (bl x) : Int), .slice As ns cs, .int .i64 cut, .int .i64 bytes, .int .i64 0], .bool false]) ?_ rfl (cmd_post hfin.out HF.out.1 HF.out.2)
                  rw [results_cell_tmp rfl]
                  go_simp
                | true =>
                  by_cases hq : rest9.length = 0
                  · have hq' : ((rest9.length : Int) == 0) = true := beq_iff_eq.2 (by omega)
                    have HF2 := Lib.hid (show (ScrM.command ((x :: r).map bl)).isSome = true by rw [HF.out.1, hq']; rfl)
                    have HQ := Lib.hid hq
                    clear hq
                    go_region
                    go_wp2_with fail
                    (try simp only [Exit.inBlock, Exit.then])
                    refine bodyPost_ret (v := .tuple #[.agg #[.int .i64 (ScrM.opOf (bl x) : Int), .slice As ns cs, .int .i64 cut, .int .i64 bytes, .int .i64 0], .bool true]) ?_ rfl (cmd_post hfin.out HF2.out HF.out.2)
                    rw [results_cell_tmp rfl]
                    go_simp
                  · have hq' : ((rest9.length : Int) == 0) = false := beq_eq_false_iff_ne.2 (by omega)
                    have HF2 := Lib.hid (show (ScrM.command ((x :: r).map bl)).isSome = false by rw [HF.out.1, hq']; rfl)
                    clear hq
                    go_region
                    go_wp2_with fail
                    (try simp only [Exit.inBlock, Exit.then])
                    refine bodyPost_ret (v := .tuple #[.agg #[.int .i64 (ScrM.opOf (bl x) : Int), .slice As ns cs, .int .i64 cut, .int .i64 bytes, .int .i64 0], .bool false]) ?_ rfl (cmd_post hfin.out HF2.out HF.out.2)
                    rw [results_cell_tmp rfl]
                    go_simp
          · clear hst1
            have hw8 := word_no b w.heap.size (r.drop k) cutB _ HAT2.out.line (by rw [List.length_drop]; omega) hc
            have HSC := Lib.hid (hst0 hals9 hc)
            have HLR := Lib.hid (show (r.drop k).length ≤ 99999 by rw [List.length_drop]; omega)
            have HXR := Lib.hid (fun y (hy : y ∈ r.drop k) => HX.out y (List.mem_cons_of_mem _ (List.mem_of_mem_drop hy)))
            have HATC := Lib.hid HAT2.out
            obtain ⟨cut, hce⟩ : ∃ cut : Int, cut = -1 := ⟨_, rfl⟩
            obtain ⟨bytes, hbe⟩ : ∃ bytes : Int, bytes = 0 := ⟨_, rfl⟩
            have HSC := Lib.hid (show StageC x r (okN x r k) al cut bytes (r.drop k) by rw [hce, hbe]; exact HSC.out)
            have HATC := Lib.hid (show CmdAt w b C (r.drop k) _ _ al cut bytes 0 wr by rw [hce, hbe]; exact HATC.out)
            clear hce hbe
            generalize okN x r k = okc at HSC ⊢
            generalize r.drop k = rest at HLR HXR HATC HSC hw8
            go_wp2_with fail
            refine hw8.mono ?_
            rintro e w4 ⟨rfl, rfl⟩
            by_cases hnz : rest.head? = some noiseB
            · obtain ⟨u, rfl⟩ : ∃ u, rest = noiseB :: u := head_cons hnz
              have HFY := Lib.hid (fun v hv => @fin_yes x r okc al cut bytes v u HSC.out hv)
              have hlu : u.length ≤ 99999 := by have := HLR.out; simp at this; omega
              have hxu : ∀ y ∈ u, y.size ≤ 100000 := fun y hy => HXR.out y (List.mem_cons_of_mem _ hy)
              clear hnz
              go_wp2_with fail
              refine (word_yes b w.heap.size u noiseB _ HATC.out.line (by omega)).mono ?_
              rintro e w5 ⟨rfl, ⟨vy, rfl⟩, hly⟩
              have haty := HATC.out.later h5 (grown_set (Below.refl _ _) vy (Below.refl _ _)) hly
              have hnumy := number_any b w.heap.size u 65535 (by omega) _ (haty.wok hw hb10) hb10 haty.line (by omega) hxu
              have HAY := Lib.hid haty
              generalize ScrM.hd 65535 (u.map bl) = hny at hnumy HFY
              clear haty hly hxu
              go_wp2_with fail
              refine hnumy.mono ?_
              rintro e w6 ⟨v, rfl, hv, hl6, hg6⟩
              have hat6 := HAY.out.later h5 hg6 hl6
              obtain ⟨⟨k0, k1, k2, k3, k4⟩, t0, t1, t2, t3, t4⟩ := hat6.facts
              have HF := Lib.hid (HFY.out v hv)
              have HA6 := Lib.hid (hat6.set 4 (.int .i64 v) (op' := (ScrM.opOf (bl x) : Int)) (sv' := .slice As ns cs) (al' := al) (cut' := cut) (bytes' := bytes) (noise' := v) rfl hat6.row)
              clear hat6 hl6 hg6 hv hnumy
              go_upto_region 17 with fail
              go_cut [5] from 12 (fun okv w' => okv = .bool (okc && hny.isSome && decide (0 < v)) ∧ CmdAt w b C u.tail (ScrM.opOf (bl x) : Int) (.slice As ns cs) al cut bytes v w')
              case first =>
                cases okc <;> cases hny <;> cases hdv : decide (0 < v)
                all_goals
                  go_wp2_with fail
                  go_meet
                  case rel => exact ⟨by rw [hdv]; rfl, HA6.out⟩
              case rest =>
                obtain ⟨rfl, hat7⟩ := hcut
                generalize (okc && hny.isSome && decide (0 < v)) = okf at HF ⊢
                clear k0 k1 k2 k3 k4 t0 t1 t2 t3 t4
                generalize u.tail = rest9 at HF hat7
                go_wp2_with fail
                obtain ⟨⟨k0, k1, k2, k3, k4⟩, t0, t1, t2, t3, t4⟩ := hat7.facts
                obtain ⟨hK9, g9, o9, c9, z1, z2, z3, z4, z5, z6, z7⟩ := hat7.line
                obtain ⟨⟨r0, r1, r2, r3, r4⟩, s0, s1, s2, s3, s4⟩ := zero_facts hat7.res
                have hfin := Lib.hid (hat7.fin (.int .i64 (ScrM.opOf (bl x) : Int)) (.slice As ns cs) (.int .i64 cut) (.int .i64 bytes) (.int .i64 v))
                have hCR : C ≠ w.heap.size := by have := hat7.base; omega
                have hRb : w.heap.size ≠ b := by omega
                clear z7 hat7
                cases okf with
                | false =>
                  go_region
                  go_wp2_with fail
                  (try simp only [Exit.inBlock, Exit.then])
                  refine bodyPost_ret (v := .tuple #[.agg #[.int .i64 (ScrM.opOf (bl x) : Int), .slice As ns cs, .int .i64 cut, .int .i64 bytes, .int .i64 v], .bool false]) ?_ rfl (cmd_post hfin.out HF.out.1 HF.out.2)
                  rw [results_cell_tmp rfl]
                  go_simp
                | true =>
                  by_cases hq : rest9.length = 0
                  · have hq' : ((rest9.length : Int) == 0) = true := beq_iff_eq.2 (by omega)
                    have HF2 := Lib.hid (show (ScrM.command ((x :: r).map bl)).isSome = true by rw [HF.out.1, hq']; rfl)
                    have HQ := Lib.hid hq
                    clear hq
                    go_region
                    go_wp2_with fail
                    (try simp only [Exit.inBlock, Exit.then])
                    refine bodyPost_ret (v := .tuple #[.agg #[.int .i64 (ScrM.opOf (bl x) : Int), .slice As ns cs, .int .i64 cut, .int .i64 bytes, .int .i64 v], .bool true]) ?_ rfl (cmd_post hfin.out HF2.out HF.out.2)
                    rw [results_cell_tmp rfl]
                    go_simp
                  · have hq' : ((rest9.length : Int) == 0) = false := beq_eq_false_iff_ne.2 (by omega)
                    have HF2 := Lib.hid (show (ScrM.command ((x :: r).map bl)).isSome = false by rw [HF.out.1, hq']; rfl)
                    clear hq
                    go_region
                    go_wp2_with fail
                    (try simp only [Exit.inBlock, Exit.then])
                    refine bodyPost_ret (v := .tuple #[.agg #[.int .i64 (ScrM.opOf (bl x) : Int), .slice As ns cs, .int .i64 cut, .int .i64 bytes, .int .i64 v], .bool false]) ?_ rfl (cmd_post hfin.out HF2.out HF.out.2)
                    rw [results_cell_tmp rfl]
                    go_simp
            · have HF := Lib.hid (fin_no HSC.out hnz)
              have hw9 := word_no b w.heap.size rest noiseB _ HATC.out.line (by have := HLR.out; omega) hnz
              clear hnz
              go_wp2_with fail
              refine hw9.mono ?_
              rintro e w5 ⟨rfl, rfl⟩
              have hat7 := HATC.out
              generalize rest = rest9 at HF hat7
              generalize okc = okf at HF ⊢
              go_wp2_with fail
              obtain ⟨⟨k0, k1, k2, k3, k4⟩, t0, t1, t2, t3, t4⟩ := hat7.facts
              obtain ⟨hK9, g9, o9, c9, z1, z2, z3, z4, z5, z6, z7⟩ := hat7.line
              obtain ⟨⟨r0, r1, r2, r3, r4⟩, s0, s1, s2, s3, s4⟩ := zero_facts hat7.res
              have hfin := Lib.hid (hat7.fin (.int .i64 (ScrM.opOf (bl x) : Int)) (.slice As ns cs) (.int .i64 cut) (.int .i64 bytes) (.int .i64 0))
              have hCR : C ≠ w.heap.size := by have := hat7.base; omega
              have hRb : w.heap.size ≠ b := by omega
              clear z7 hat7
              cases okf with
              | false =>
                go_region
                go_wp2_with fail
                (try simp only [Exit.inBlock, Exit.then])
                refine bodyPost_ret (v := .tuple #[.agg #[.int .i64 (ScrM.opOf (bl x) : Int), .slice As ns cs, .int .i64 cut, .int .i64 bytes, .int .i64 0], .bool false]) ?_ rfl (cmd_post hfin.out HF.out.1 HF.out.2)
                rw [results_cell_tmp rfl]
                go_simp
              | true =>
                by_cases hq : rest9.length = 0
                · have hq' : ((rest9.length : Int) == 0) = true := beq_iff_eq.2 (by omega)
                  have HF2 := Lib.hid (show (ScrM.command ((x :: r).map bl)).isSome = true by rw [HF.out.1, hq']; rfl)
                  have HQ := Lib.hid hq
                  clear hq
                  go_region
                  go_wp2_with fail
                  (try simp only [Exit.inBlock, Exit.then])
                  refine bodyPost_ret (v := .tuple #[.agg #[.int .i64 (ScrM.opOf (bl x) : Int), .slice As ns cs, .int .i64 cut, .int .i64 bytes, .int .i64 0], .bool true]) ?_ rfl (cmd_post hfin.out HF2.out HF.out.2)
                  rw [results_cell_tmp rfl]
                  go_simp
                · have hq' : ((rest9.length : Int) == 0) = false := beq_eq_false_iff_ne.2 (by omega)
                  have HF2 := Lib.hid (show (ScrM.command ((x :: r).map bl)).isSome = false by rw [HF.out.1, hq']; rfl)
                  clear hq
                  go_region
                  go_wp2_with fail
                  (try simp only [Exit.inBlock, Exit.then])
                  refine bodyPost_ret (v := .tuple #[.agg #[.int .i64 (ScrM.opOf (bl x) : Int), .slice As ns cs, .int .i64 cut, .int .i64 bytes, .int .i64 0], .bool false]) ?_ rfl (cmd_post hfin.out HF2.out HF.out.2)
                  rw [results_cell_tmp rfl]
                  go_simp

end Go.Proofs.YtnanhebepjdlcabDoor
