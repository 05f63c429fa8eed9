/- Text: the walk. -/
import Derived.Test.YtnanhebepjdlcabDoorWalkN
import Derived.Test.YtnanhebepjdlcabDoorTextM
namespace Go.Proofs.YtnanhebepjdlcabDoor
open Go.RowKit

theorem decB_bl {n : Int} (h : 0 ≤ n) : bl (decB n) = ScrM.dec n := by
  show Lib.itoa n = Lib.decDigits n.toNat
  have e : Lib.itoa n = Lib.itoa ((n.toNat : Nat) : Int) := by congr 1; omega
  rw [e, ScrM.itoa_nat]

/-- The words that Text lays. -/
def wordsOB (cm : ScrM.Cm) : List ByteArray :=
  strOf (ScrM.nameOf cm.op.toNat) :: cm.args.map decB ++ ((if 0 ≤ cm.cut then [cutB, decB cm.cut, decB cm.bytes] else []) ++ (if 1 ≤ cm.noise then [noiseB, decB cm.noise] else []))

theorem wordsOB_bl {cm : ScrM.Cm} (h : ScrM.valid cm = true) : (wordsOB cm).map bl = ScrM.wordsOf cm := by
  obtain ⟨h1, h2, h3, h4, h5, h6, h7, h8, h9, h10, h11⟩ := ScrM.valid_iff h
  have hm : (cm.args.map decB).map bl = cm.args.map ScrM.dec := by
    rw [List.map_map]
    exact List.map_congr_left fun n hn => decB_bl (h4 n hn).1
  simp only [wordsOB, ScrM.wordsOf, List.map_append, List.map_cons, List.cons_append, hm]
  have e0 : bl (strOf (ScrM.nameOf cm.op.toNat)) = ScrM.nameOf cm.op.toNat := rfl
  rw [e0]
  congr 2
  congr 1
  · split
    · simp only [List.map_cons, List.map_nil, decB_bl (show 0 ≤ cm.cut by assumption), decB_bl h9]
      rfl
    · rfl
  · split
    · simp only [List.map_cons, List.map_nil, decB_bl (show 0 ≤ cm.noise by omega)]
      rfl
    · rfl

theorem wordsOB_len {cm : ScrM.Cm} (h : ScrM.valid cm = true) : (wordsOB cm).length ≤ 9 := by
  have := (ScrM.words_small h).1
  rw [← wordsOB_bl h, List.length_map] at this
  exact this

/-- A line of Text. -/
def lineB (cm : ScrM.Cm) : ByteArray := strOf (ScrM.lineOf cm)

theorem lineB_size {cm : ScrM.Cm} (h : ScrM.valid cm = true) : (lineB cm).size ≤ 80 := ScrM.line_len h

theorem join_line {cm : ScrM.Cm} (hv : ScrM.valid cm = true) (wr w : World) (A : Option Addr) (n c : Nat) (hr : w.ownsRow wr.heap.size 9 1 (.slice A n c) (wordsOB cm).length (strsV (wordsOB cm))) :
    Calls Tryd.prog 34 #[.slice A n c, .string ⟨#[32]⟩] w fun e w' => e = .returned (.string (lineB cm)) ∧ Below w.heap.size w w' := by
  have hl := wordsOB_len hv
  rcases hr.2 with ⟨_, h2⟩ | ⟨g, cap, cur, h1, h2, h3, h4, h5, _⟩
  · simp [wordsOB] at h2
  · injection h1 with h1 hn hc
    subst h1 hn hc
    have hj : Lib.join ((wordsOB cm).map (·.data.toList)) [32] = ScrM.lineOf cm := by
      rw [ScrM.join_sp]
      show ScrM.joinSp ((wordsOB cm).map bl) = _
      rw [wordsOB_bl hv]
      rfl
    have hcall := Tryd.strings_Join g 0 c (wordsOB cm) ⟨#[32]⟩ w (fun j x hx => by
      have := hr.cells rfl j (.string x) (by simp [strsV, hx])
      rw [Addr.add_mid] at this
      exact this) (blk_lt h3) (by omega) h4 (by
      show (Lib.join ((wordsOB cm).map (·.data.toList)) [32]).length ≤ _
      rw [hj]
      have := ScrM.line_len hv
      omega)
    refine hcall.mono ?_
    rintro e w' ⟨rfl, hb⟩
    refine ⟨?_, hb⟩
    show Ending.returned (.string ⟨(Lib.join ((wordsOB cm).map (·.data.toList)) [32]).toArray⟩) = _
    rw [hj]
    rfl

theorem IsB.below {T e : TypeId} {B b : Nat} {bs : List Value} {w w' : World} (h : Lib.IsBuilder T e B b bs w) (hb : Below w.heap.size w w') : Lib.IsBuilder T e B b bs w' := by
  have one : ∀ {p : Value}, Lib.BuilderAt T e B b p bs w → Lib.BuilderAt T e B b p bs w' := by
    intro p ⟨h1, v, h2, h3, h4⟩
    exact ⟨h1, v, (hb.block b (blk_lt h2)).trans h2, own_below h3 hb, h4⟩
  rcases h with h | h
  · exact .inl (one h)
  · exact .inr (one h)

theorem tx_start (wr : World) (cs : Array Value) (x : ByteArray) (o : Obj) (ho : o = .cells cs 31) :
    TxAt wr wr.heap.size (wr.heap.size + 1 + 1) cs [x] (((wr.alloc o).alloc (.cells #[.string x] 9)).alloc (.cells #[.slice (some ⟨wr.heap.size + 1, 0, none⟩) 1 1] 45)) := by
  subst ho
  have s1 : (wr.alloc (.cells cs 31)).heap.size = wr.heap.size + 1 := by simp
  have s2 : ((wr.alloc (.cells cs 31)).alloc (.cells #[.string x] 9)).heap.size = wr.heap.size + 1 + 1 := by simp
  have hR := heap_alloc_new (wr.alloc (.cells cs 31)) (.cells #[.string x] 9)
  rw [s1] at hR
  have hT := heap_alloc_new ((wr.alloc (.cells cs 31)).alloc (.cells #[.string x] 9)) (.cells #[.slice (some ⟨wr.heap.size + 1, 0, none⟩) 1 1] 45)
  rw [s2] at hT
  refine ⟨(((Below.refl _ _).alloc (Nat.le_refl _) _).alloc (by rw [s1]; omega) _).alloc (by rw [s2]; omega) _, Nat.le_refl _, by omega, ?_, some ⟨wr.heap.size + 1, 0, none⟩, 1, 1, hT, rfl, .inr ⟨wr.heap.size + 1, 1, #[.string x], rfl, by omega, ?_, Nat.le_refl _, by unfold maxLen; omega, rfl, rfl⟩⟩
  · rw [Below.heap_alloc _ _ _ (by rw [s2]; omega), Below.heap_alloc _ _ _ (by rw [s1]; omega)]
    exact heap_alloc_new wr _
  · rw [Below.heap_alloc _ _ _ (by rw [s2]; omega)]
    exact hR

theorem TxAt.wok {wr w' : World} {C T : Nat} {cs : Array Value} {ws : List ByteArray} (h : TxAt wr C T cs ws w') (hw : WOk wr) : WOk w' := hw.later h.below

theorem text_next {L : List ScrM.Cm} {k : Nat} (hk : k < L.length) : ScrM.textL (L.take (k + 1)) = ScrM.textL (L.take k) ++ (ScrM.lineOf L[k] ++ [10]) := by
  rw [List.take_succ_eq_append_getElem hk, ScrM.textL_append, ScrM.textL_one]

theorem str_cells (l m : List UInt8) : Lib.byteCells l ++ Lib.strCells (strOf m) = Lib.byteCells (l ++ m) := by
  show Lib.byteCells l ++ Lib.byteCells m = _
  simp [Lib.byteCells]

theorem bl_append (a b : ByteArray) : bl (a ++ b) = bl a ++ bl b := by
  unfold bl
  simp

theorem line_nl (cm : ScrM.Cm) : lineB cm ++ ⟨#[10]⟩ = strOf (ScrM.lineOf cm ++ [10]) := bl_inj (by rw [bl_append]; rfl)

theorem size_nl (y : ByteArray) : (y ++ (⟨#[10]⟩ : ByteArray)).size = y.size + 1 := by
  rw [ByteArray.size_append]
  rfl

theorem byteCells_len (l : List UInt8) : (Lib.byteCells l).length = l.length := by simp [Lib.byteCells]

set_option maxHeartbeats 4000000 in
set_option maxRecDepth 100000 in
theorem text_any (A : Option Addr) (c : Nat) (L : List ScrM.Cm) (w : World) (hw : WOk w) (h : CmReads w w.heap.size A L) (hv : ∀ cm ∈ L, ScrM.valid cm = true) (hn : L.length ≤ 1000) :
    Calls Tryd.prog 17 #[.slice A L.length c] w fun e w' => e = .returned (.string (strOf (ScrM.textL L))) ∧ Below w.heap.size w w' := by
  have HR := Lib.hid h
  have HV := Lib.hid hv
  have HW := Lib.hid hw
  obtain ⟨i0, hi0, hz0, hz1, hz2⟩ := info_parts strInfo
  clear h hv hw
  go_enter Tryd.func17, Tryd.ntmps17
  go_wp2_with fail
  go_loopw [12] (fun i w' => ∃ k : Nat, k ≤ L.length ∧ i = .int .i64 k ∧ Lib.IsBuilder 64 5 w.heap.size w.heap.size (Lib.byteCells (ScrM.textL (L.take k))) w' ∧ Below w.heap.size w w') (fun i _ => L.length - (intOf i).toNat)
  case atStart => exact ⟨0, by omega, rfl, Lib.fresh_isBuilder _ _ _, (Below.refl _ _).alloc (Nat.le_refl _) _⟩
  case round =>
    obtain ⟨k, hk, rfl, hbd, hb⟩ := hrel
    have HBD := Lib.hid hbd
    have HB := Lib.hid hb
    have hsz := hb.size
    clear hbd hb
    by_cases hlt : k < L.length
    · have hk63 : (k : Int) < (L.length : Int) := by omega
      have HVK := Lib.hid (HV.out L[k] (List.getElem_mem hlt))
      have HTN := Lib.hid (text_next hlt)
      have HTL := Lib.hid (ScrM.textL_len (L.take k) (fun x hx => HV.out x (List.mem_of_mem_take hx)))
      obtain ⟨g, o, rfl, hg, Aa, ca, ha, d0, d1, d2, d3, d4⟩ := (HR.out.below HB.out).at_ hlt
      have HAA := Lib.hid ha
      generalize L[k] = cm at HVK HTN HAA d0 d1 d2 d3 d4 ha
      obtain ⟨op, al, cut, bytes, noise⟩ := cm
      simp only [] at d0 d1 d2 d3 d4
      obtain ⟨v1, v2, v3, v4, v5, v6, v7, v8, v9, v10, v11⟩ := ScrM.valid_iff HVK.out
      simp only [] at v1 v2 v3 v4 v5 v6 v7 v8 v9 v10 v11
      have HV4 := Lib.hid v4
      have hal3 : al.length ≤ 3 := by rw [v3]; exact ScrM.arity_le _ (by omega)
      clear v3 v4 ha
      obtain ⟨q, rfl⟩ : ∃ q : Nat, op = (q : Int) := ⟨op.toNat, by omega⟩
      have hbw : Below w.heap.size w wr := HB.out
      have hwk := HW.out.later hbw
      have hwkA := fun (oo : Obj) => hwk.later ((Below.refl _ _).alloc (Nat.le_refl _) oo)
      have hname := fun (oo : Obj) => ((hwkA oo).ops q (by omega)).1
      have harn : decide (ScrM.arity (q : Int) < 0) = false := decide_eq_false (by rw [ScrM.arity, if_pos (by omega)]; omega)
      have hq0 : (0 : Int) ≤ (q : Int) := by omega
      have hq21 : (q : Int) < 21 := by omega
      have hq21' : q < 21 := by omega
      go_wp2_with fail
      refine (arity_any (q : Int) _ (hwkA _)).mono ?_
      rintro e w2 ⟨rfl, rfl⟩
      obtain ⟨wo, hwo⟩ : ∃ wo, wo = wr := ⟨_, rfl⟩
      subst hwo
      have HTX := Lib.hid (tx_start wo (cmCells ⟨(q : Int), al, cut, bytes, noise⟩ Aa ca).toArray (strOf (ScrM.nameOf q)) _ rfl)
      go_wp2_with fail
      go_loopw [30] (fun i w' => ∃ j : Nat, j ≤ al.length ∧ i = .int .i64 j ∧ TxAt wo wo.heap.size (wo.heap.size + 1 + 1) (cmCells ⟨(q : Int), al, cut, bytes, noise⟩ Aa ca).toArray (strOf (ScrM.nameOf q) :: (al.take j).map decB) w') (fun i _ => al.length - (intOf i).toNat)
      case atStart => exact ⟨0, by omega, rfl, HTX.out⟩
      case round =>
        obtain ⟨j, hj, rfl, htx⟩ := hrel
        by_cases hjl : j < al.length
        · obtain ⟨ga, oa, rfl, hga, hac⟩ := HAA.out.2 (by intro e; rw [e] at hjl; simp at hjl)
          have hcj := (htx.below.cell (p := ⟨ga, oa + j, none⟩) (by show ga < wo.heap.size; omega)).trans (hac j hjl)
          have hnj := HV4.out al[j] (List.getElem_mem hjl)
          have hj63 : (j : Int) < (al.length : Int) := by omega
          have HX := Lib.hid htx
          clear hac htx
          go_wp2_with fail
          refine (clo_any wo _ _ _ _ al[j] (by omega) (by omega) (by simp; omega) _ (HX.out.wok hwk) HX.out).mono ?_
          rintro e w3 ⟨rfl, htx3⟩
          have HX3 := Lib.hid htx3
          clear htx3
          go_wp2_with fail
          go_roundw
          case rel => exact ⟨j + 1, by omega, by go_num, by rw [List.take_succ_eq_append_getElem hjl, List.map_append]; exact HX3.out⟩
          case measure => simp [intOf]; omega
        · obtain rfl : j = al.length := by omega
          rw [List.take_length] at htx
          obtain ⟨ws0, hws0⟩ : ∃ ws0, ws0 = strOf (ScrM.nameOf q) :: al.map decB := ⟨_, rfl⟩
          rw [← hws0] at htx
          have hl0 : ws0.length ≤ 4 := by rw [hws0]; simp; omega
          have HWS0 := Lib.hid hws0
          clear hws0
          have cN2 : World.cell? _ ⟨wo.heap.size, 2, none⟩ = some (.int .i64 cut) := cells_of_blk htx.blk 2
          by_cases hc : 0 ≤ cut
          · have hcn : (cut != -1) = true := by rw [bne_iff_ne]; omega
            obtain ⟨A1, n1, c1, hT1, hr1⟩ := htx.var
            have cT1 : World.cell? _ ⟨wo.heap.size + 1 + 1, 0, none⟩ = some (.slice A1 n1 c1) := cells_of_blk hT1 0
            have HTA := Lib.hid htx
            have HT1 := Lib.hid hT1
            have HR1 := Lib.hid hr1
            have hbz := htx.below.size
            clear hT1 hr1 htx
            go_wp2_with (at_builtin; refine wpList_append_own _ rfl _ _ 45 rfl wo.heap.size 9 i0 (.string ⟨#[]⟩) 1 16 Tryd.underlying45 hi0 hz0 hz1 hz2 rfl (by omega) _ _ _ rfl (HR1.out.alloc _) _ 1 1 [.string cutB] rfl rfl ?c1 ?c2 ?c3 ?c4 ?c5 ?_)
            case c1 => first | exact World.news_of_block (heap_alloc_new _ _) | exact fun _ _ h => h
            case c2 => simp [Value.oneCell']
            case c3 => unfold maxLen; omega
            case c4 => omega
            case c5 => first | omega | (simp; omega)
            intro v' w4 hown4 hgrow4 _
            obtain ⟨A', n', c', rfl⟩ := own_slice hown4
            obtain ⟨⟨cT2, fT2⟩, htx2⟩ := HTA.out.app HT1.out HR1.out _ hgrow4 cutB A' n' c' hown4
            obtain ⟨ws1, hnw⟩ : ∃ zz, zz = ws0 ++ [cutB] := ⟨_, rfl⟩
            rw [← hnw] at htx2
            have hlws1 : ws1.length ≤ 5 := by rw [hnw]; simp; omega
            have Hws1 := Lib.hid hnw
            clear hnw hown4 hgrow4 hbz
            have cN2 : World.cell? _ ⟨wo.heap.size, 2, none⟩ = some (.int .i64 cut) := cells_of_blk htx2.blk 2
            have HX1 := Lib.hid htx2
            clear htx2
            go_wp2_with fail
            refine (clo_any wo _ _ _ _ cut (by omega) (by omega) (by omega) _ (HX1.out.wok hwk) HX1.out).mono ?_
            rintro e w5 ⟨rfl, htx5⟩
            obtain ⟨ws2, hnw⟩ : ∃ zz, zz = ws1 ++ [decB cut] := ⟨_, rfl⟩
            rw [← hnw] at htx5
            have hlws2 : ws2.length ≤ 6 := by rw [hnw]; simp; omega
            have Hws2 := Lib.hid hnw
            clear hnw
            have cN3 : World.cell? _ ⟨wo.heap.size, 3, none⟩ = some (.int .i64 bytes) := cells_of_blk htx5.blk 3
            have HX5 := Lib.hid htx5
            clear htx5
            go_wp2_with fail
            refine (clo_any wo _ _ _ _ bytes (by omega) (by omega) (by omega) _ (HX5.out.wok hwk) HX5.out).mono ?_
            rintro e w6 ⟨rfl, htx6⟩
            obtain ⟨ws3, hnw⟩ : ∃ zz, zz = ws2 ++ [decB bytes] := ⟨_, rfl⟩
            rw [← hnw] at htx6
            have hlws3 : ws3.length ≤ 7 := by rw [hnw]; simp; omega
            have Hws3 := Lib.hid hnw
            clear hnw
            have cN4 : World.cell? _ ⟨wo.heap.size, 4, none⟩ = some (.int .i64 noise) := cells_of_blk htx6.blk 4
            by_cases hz : 1 ≤ noise
            · have hzn : (noise != 0) = true := by rw [bne_iff_ne]; omega
              obtain ⟨A1, n1, c1, hT1, hr1⟩ := htx6.var
              have cT1 : World.cell? _ ⟨wo.heap.size + 1 + 1, 0, none⟩ = some (.slice A1 n1 c1) := cells_of_blk hT1 0
              have HTA := Lib.hid htx6
              have HT1 := Lib.hid hT1
              have HR1 := Lib.hid hr1
              have hbz := htx6.below.size
              clear hT1 hr1 htx6
              go_wp2_with (at_builtin; refine wpList_append_own _ rfl _ _ 45 rfl wo.heap.size 9 i0 (.string ⟨#[]⟩) 1 16 Tryd.underlying45 hi0 hz0 hz1 hz2 rfl (by omega) _ _ _ rfl (HR1.out.alloc _) _ 1 1 [.string noiseB] rfl rfl ?c1 ?c2 ?c3 ?c4 ?c5 ?_)
              case c1 => first | exact World.news_of_block (heap_alloc_new _ _) | exact fun _ _ h => h
              case c2 => simp [Value.oneCell']
              case c3 => unfold maxLen; omega
              case c4 => omega
              case c5 => first | omega | (simp; omega)
              intro v' w4 hown4 hgrow4 _
              obtain ⟨A', n', c', rfl⟩ := own_slice hown4
              obtain ⟨⟨cT2, fT2⟩, htx2⟩ := HTA.out.app HT1.out HR1.out _ hgrow4 noiseB A' n' c' hown4
              obtain ⟨wsa, hnw⟩ : ∃ zz, zz = ws3 ++ [noiseB] := ⟨_, rfl⟩
              rw [← hnw] at htx2
              have hlwsa : wsa.length ≤ 100 := by rw [hnw]; simp; omega
              have Hwsa := Lib.hid hnw
              clear hnw hown4 hgrow4 hbz
              have cN5 : World.cell? _ ⟨wo.heap.size, 4, none⟩ = some (.int .i64 noise) := cells_of_blk htx2.blk 4
              have HX2 := Lib.hid htx2
              clear htx2
              go_wp2_with fail
              refine (clo_any wo _ _ _ _ noise (by omega) (by omega) (by omega) _ (HX2.out.wok hwk) HX2.out).mono ?_
              rintro e w8 ⟨rfl, htx8⟩
              obtain ⟨wsb, hnw⟩ : ∃ zz, zz = wsa ++ [decB noise] := ⟨_, rfl⟩
              rw [← hnw] at htx8
              have Hwsb := Lib.hid hnw
              clear hnw
              have hw9 := Lib.hid (show wsb = wordsOB ⟨(q : Int), al, cut, bytes, noise⟩ by simp [Hwsb.out, Hwsa.out, Hws3.out, Hws2.out, Hws1.out, HWS0.out, wordsOB, hc, hz])
              obtain ⟨A9, n9, c9, hT9, hr9⟩ := htx8.var
              have cT9 : World.cell? _ ⟨wo.heap.size + 1 + 1, 0, none⟩ = some (.slice A9 n9 c9) := cells_of_blk hT9 0
              rw [hw9.out] at hr9
              have HR9 := Lib.hid hr9
              have HTX9 := Lib.hid htx8
              clear hT9 hr9 htx8
              go_wp2_with fail
              refine (join_line HVK.out wo _ A9 n9 c9 HR9.out).mono ?_
              rintro e w10 ⟨rfl, hb10⟩
              have hls := lineB_size HVK.out
              have HLB := Lib.hid (line_nl ⟨(q : Int), al, cut, bytes, noise⟩)
              have HLS := Lib.hid hls
              have HB10 := Lib.hid (HTX9.out.below.trans (hb10.mono HTX9.out.below.size))
              generalize lineB ⟨(q : Int), al, cut, bytes, noise⟩ = y at hls HLB HLS
              clear hb10
              go_wp2_with fail
              have HBX := Lib.hid (IsB.below HBD.out HB10.out)
              have hlx : (Lib.byteCells (ScrM.textL (L.take k))).length + (y ++ (⟨#[10]⟩ : ByteArray)).size ≤ 140737488355328 := by
                have h1 := HTL.out
                simp only [List.length_take] at h1
                rw [size_nl, byteCells_len]
                omega
              have hwx : w.heap.size ≤ w10.heap.size := by have := HB10.out.size; omega
              have hwr := write_any w.heap.size w.heap.size (Lib.byteCells (ScrM.textL (L.take k))) (y ++ ⟨#[10]⟩) w10 HBX.out hlx hwx
              clear hlx hwx
              refine hwr.mono ?_
              rintro e w11 ⟨rfl, hbd, hb11⟩
              have HBD2 := Lib.hid hbd
              clear hbd
              go_wp2_with fail
              go_roundw
              case rel =>
                refine ⟨k + 1, by omega, by go_num, ?_, (HB.out.trans (HB10.out.mono hsz)).trans hb11⟩
                have := HBD2.out
                rw [HLB.out, str_cells] at this
                rw [HTN.out]
                exact .inr this
              case measure => simp [intOf]; omega
            · have hzn : (noise != 0) = false := by rw [bne_eq_false_iff_eq]; omega
              have hw9 := Lib.hid (show ws3 = wordsOB ⟨(q : Int), al, cut, bytes, noise⟩ by simp [Hws3.out, Hws2.out, Hws1.out, HWS0.out, wordsOB, hc, hz])
              obtain ⟨A9, n9, c9, hT9, hr9⟩ := htx6.var
              have cT9 : World.cell? _ ⟨wo.heap.size + 1 + 1, 0, none⟩ = some (.slice A9 n9 c9) := cells_of_blk hT9 0
              rw [hw9.out] at hr9
              have HR9 := Lib.hid hr9
              have HTX9 := Lib.hid htx6
              clear hT9 hr9 htx6
              go_wp2_with fail
              refine (join_line HVK.out wo _ A9 n9 c9 HR9.out).mono ?_
              rintro e w10 ⟨rfl, hb10⟩
              have hls := lineB_size HVK.out
              have HLB := Lib.hid (line_nl ⟨(q : Int), al, cut, bytes, noise⟩)
              have HLS := Lib.hid hls
              have HB10 := Lib.hid (HTX9.out.below.trans (hb10.mono HTX9.out.below.size))
              generalize lineB ⟨(q : Int), al, cut, bytes, noise⟩ = y at hls HLB HLS
              clear hb10
              go_wp2_with fail
              have HBX := Lib.hid (IsB.below HBD.out HB10.out)
              have hlx : (Lib.byteCells (ScrM.textL (L.take k))).length + (y ++ (⟨#[10]⟩ : ByteArray)).size ≤ 140737488355328 := by
                have h1 := HTL.out
                simp only [List.length_take] at h1
                rw [size_nl, byteCells_len]
                omega
              have hwx : w.heap.size ≤ w10.heap.size := by have := HB10.out.size; omega
              have hwr := write_any w.heap.size w.heap.size (Lib.byteCells (ScrM.textL (L.take k))) (y ++ ⟨#[10]⟩) w10 HBX.out hlx hwx
              clear hlx hwx
              refine hwr.mono ?_
              rintro e w11 ⟨rfl, hbd, hb11⟩
              have HBD2 := Lib.hid hbd
              clear hbd
              go_wp2_with fail
              go_roundw
              case rel =>
                refine ⟨k + 1, by omega, by go_num, ?_, (HB.out.trans (HB10.out.mono hsz)).trans hb11⟩
                have := HBD2.out
                rw [HLB.out, str_cells] at this
                rw [HTN.out]
                exact .inr this
              case measure => simp [intOf]; omega
          · have hcn : (cut != -1) = false := by rw [bne_eq_false_iff_eq]; omega
            have cN4 : World.cell? _ ⟨wo.heap.size, 4, none⟩ = some (.int .i64 noise) := cells_of_blk htx.blk 4
            by_cases hz : 1 ≤ noise
            · have hzn : (noise != 0) = true := by rw [bne_iff_ne]; omega
              obtain ⟨A1, n1, c1, hT1, hr1⟩ := htx.var
              have cT1 : World.cell? _ ⟨wo.heap.size + 1 + 1, 0, none⟩ = some (.slice A1 n1 c1) := cells_of_blk hT1 0
              have HTA := Lib.hid htx
              have HT1 := Lib.hid hT1
              have HR1 := Lib.hid hr1
              have hbz := htx.below.size
              clear hT1 hr1 htx
              go_wp2_with (at_builtin; refine wpList_append_own _ rfl _ _ 45 rfl wo.heap.size 9 i0 (.string ⟨#[]⟩) 1 16 Tryd.underlying45 hi0 hz0 hz1 hz2 rfl (by omega) _ _ _ rfl (HR1.out.alloc _) _ 1 1 [.string noiseB] rfl rfl ?c1 ?c2 ?c3 ?c4 ?c5 ?_)
              case c1 => first | exact World.news_of_block (heap_alloc_new _ _) | exact fun _ _ h => h
              case c2 => simp [Value.oneCell']
              case c3 => unfold maxLen; omega
              case c4 => omega
              case c5 => first | omega | (simp; omega)
              intro v' w4 hown4 hgrow4 _
              obtain ⟨A', n', c', rfl⟩ := own_slice hown4
              obtain ⟨⟨cT2, fT2⟩, htx2⟩ := HTA.out.app HT1.out HR1.out _ hgrow4 noiseB A' n' c' hown4
              obtain ⟨wsa, hnw⟩ : ∃ zz, zz = ws0 ++ [noiseB] := ⟨_, rfl⟩
              rw [← hnw] at htx2
              have hlwsa : wsa.length ≤ 100 := by rw [hnw]; simp; omega
              have Hwsa := Lib.hid hnw
              clear hnw hown4 hgrow4 hbz
              have cN5 : World.cell? _ ⟨wo.heap.size, 4, none⟩ = some (.int .i64 noise) := cells_of_blk htx2.blk 4
              have HX2 := Lib.hid htx2
              clear htx2
              go_wp2_with fail
              refine (clo_any wo _ _ _ _ noise (by omega) (by omega) (by omega) _ (HX2.out.wok hwk) HX2.out).mono ?_
              rintro e w8 ⟨rfl, htx8⟩
              obtain ⟨wsb, hnw⟩ : ∃ zz, zz = wsa ++ [decB noise] := ⟨_, rfl⟩
              rw [← hnw] at htx8
              have Hwsb := Lib.hid hnw
              clear hnw
              have hw9 := Lib.hid (show wsb = wordsOB ⟨(q : Int), al, cut, bytes, noise⟩ by simp [Hwsb.out, Hwsa.out, HWS0.out, wordsOB, hc, hz])
              obtain ⟨A9, n9, c9, hT9, hr9⟩ := htx8.var
              have cT9 : World.cell? _ ⟨wo.heap.size + 1 + 1, 0, none⟩ = some (.slice A9 n9 c9) := cells_of_blk hT9 0
              rw [hw9.out] at hr9
              have HR9 := Lib.hid hr9
              have HTX9 := Lib.hid htx8
              clear hT9 hr9 htx8
              go_wp2_with fail
              refine (join_line HVK.out wo _ A9 n9 c9 HR9.out).mono ?_
              rintro e w10 ⟨rfl, hb10⟩
              have hls := lineB_size HVK.out
              have HLB := Lib.hid (line_nl ⟨(q : Int), al, cut, bytes, noise⟩)
              have HLS := Lib.hid hls
              have HB10 := Lib.hid (HTX9.out.below.trans (hb10.mono HTX9.out.below.size))
              generalize lineB ⟨(q : Int), al, cut, bytes, noise⟩ = y at hls HLB HLS
              clear hb10
              go_wp2_with fail
              have HBX := Lib.hid (IsB.below HBD.out HB10.out)
              have hlx : (Lib.byteCells (ScrM.textL (L.take k))).length + (y ++ (⟨#[10]⟩ : ByteArray)).size ≤ 140737488355328 := by
                have h1 := HTL.out
                simp only [List.length_take] at h1
                rw [size_nl, byteCells_len]
                omega
              have hwx : w.heap.size ≤ w10.heap.size := by have := HB10.out.size; omega
              have hwr := write_any w.heap.size w.heap.size (Lib.byteCells (ScrM.textL (L.take k))) (y ++ ⟨#[10]⟩) w10 HBX.out hlx hwx
              clear hlx hwx
              refine hwr.mono ?_
              rintro e w11 ⟨rfl, hbd, hb11⟩
              have HBD2 := Lib.hid hbd
              clear hbd
              go_wp2_with fail
              go_roundw
              case rel =>
                refine ⟨k + 1, by omega, by go_num, ?_, (HB.out.trans (HB10.out.mono hsz)).trans hb11⟩
                have := HBD2.out
                rw [HLB.out, str_cells] at this
                rw [HTN.out]
                exact .inr this
              case measure => simp [intOf]; omega
            · have hzn : (noise != 0) = false := by rw [bne_eq_false_iff_eq]; omega
              have hw9 := Lib.hid (show ws0 = wordsOB ⟨(q : Int), al, cut, bytes, noise⟩ by simp [HWS0.out, wordsOB, hc, hz])
              obtain ⟨A9, n9, c9, hT9, hr9⟩ := htx.var
              have cT9 : World.cell? _ ⟨wo.heap.size + 1 + 1, 0, none⟩ = some (.slice A9 n9 c9) := cells_of_blk hT9 0
              rw [hw9.out] at hr9
              have HR9 := Lib.hid hr9
              have HTX9 := Lib.hid htx
              clear hT9 hr9 htx
              go_wp2_with fail
              refine (join_line HVK.out wo _ A9 n9 c9 HR9.out).mono ?_
              rintro e w10 ⟨rfl, hb10⟩
              have hls := lineB_size HVK.out
              have HLB := Lib.hid (line_nl ⟨(q : Int), al, cut, bytes, noise⟩)
              have HLS := Lib.hid hls
              have HB10 := Lib.hid (HTX9.out.below.trans (hb10.mono HTX9.out.below.size))
              generalize lineB ⟨(q : Int), al, cut, bytes, noise⟩ = y at hls HLB HLS
              clear hb10
              go_wp2_with fail
              have HBX := Lib.hid (IsB.below HBD.out HB10.out)
              have hlx : (Lib.byteCells (ScrM.textL (L.take k))).length + (y ++ (⟨#[10]⟩ : ByteArray)).size ≤ 140737488355328 := by
                have h1 := HTL.out
                simp only [List.length_take] at h1
                rw [size_nl, byteCells_len]
                omega
              have hwx : w.heap.size ≤ w10.heap.size := by have := HB10.out.size; omega
              have hwr := write_any w.heap.size w.heap.size (Lib.byteCells (ScrM.textL (L.take k))) (y ++ ⟨#[10]⟩) w10 HBX.out hlx hwx
              clear hlx hwx
              refine hwr.mono ?_
              rintro e w11 ⟨rfl, hbd, hb11⟩
              have HBD2 := Lib.hid hbd
              clear hbd
              go_wp2_with fail
              go_roundw
              case rel =>
                refine ⟨k + 1, by omega, by go_num, ?_, (HB.out.trans (HB10.out.mono hsz)).trans hb11⟩
                have := HBD2.out
                rw [HLB.out, str_cells] at this
                rw [HTN.out]
                exact .inr this
              case measure => simp [intOf]; omega
    · obtain rfl : k = L.length := by omega
      have HE := Lib.hid (Tryd.Builder_String_any w.heap.size w.heap.size (ScrM.textL L) wr (by have := HBD.out; rwa [List.take_length] at this) hsz)
      go_wp2_with fail
      refine HE.out.mono ?_
      rintro e w3 ⟨rfl, hb3⟩
      go_wp2_with fail
      go_ret
      exact ⟨rfl, HB.out.trans hb3⟩

end Go.Proofs.YtnanhebepjdlcabDoor
