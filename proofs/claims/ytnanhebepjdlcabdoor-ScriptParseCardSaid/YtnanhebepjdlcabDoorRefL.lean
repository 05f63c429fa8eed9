/- The reference's Parse: the walk. -/
import Derived.Test.YtnanhebepjdlcabDoorRefK
namespace Go.Proofs.YtnanhebepjdlcabDoor
open Go.RowKit

/-- Where the reference's Parse stands at place k: the commands so far, the line begun. -/
structure PrAt (s : ByteArray) (w : World) (k : Nat) (v : Value) (M : List CmA) (y : ByteArray) (w' : World) : Prop where
  say : ∃ D, ScrM.lines (bl s) = D ++ ScrM.linesAt (bl s) k (bl y) ∧ ScrM.cmds D = some (M.map Prod.fst)
  own : OwnCmds w' w.heap.size v M
  low : Below w.heap.size w w'
  len : M.length ≤ k
  cur : y.size ≤ k
  nl : ∀ c ∈ bl y, c ≠ 10

theorem PrAt.fin {s : ByteArray} {w w' : World} {k : Nat} {v : Value} {M : List CmA} {y : ByteArray} (h : PrAt s w k v M y w') (hk : s.size < k) : ScrM.parseL (bl s) = some (M.map Prod.fst) := by
  obtain ⟨D, h1, h2⟩ := h.say
  rw [ScrM.linesAt_past (by rw [bl_size]; exact hk), List.append_nil] at h1
  rw [ScrM.parseL, h1, h2]

/-- A byte of the line. -/
theorem PrAt.more {s : ByteArray} {w w' : World} {k : Nat} {v : Value} {M : List CmA} {y : ByteArray} (h : PrAt s w k v M y w') (hk : k < s.size) (hc : s[k] ≠ 10) : PrAt s w (k + 1) v M (y ++ s.extract k (k + 1)) w' := by
  obtain ⟨D, h1, h2⟩ := h.say
  refine ⟨⟨D, ?_, h2⟩, h.own, h.low, Nat.le_succ_of_le h.len, ?_, fun c hx => ?_⟩
  · rw [h1, ScrM.linesAt_more (bl_at s k hk), bl_append, ext_one s k hk]
  · rw [ByteArray.size_append, ext_size s k hk]
    exact Nat.succ_le_succ h.cur
  · rw [bl_append, ext_one s k hk] at hx
    rcases List.mem_append.1 hx with hx | hx
    · exact h.nl c hx
    · rw [List.mem_singleton.1 hx]; exact hc

/-- A newline, or the end. -/
def nlAt (s : ByteArray) (k : Nat) : Prop := k = s.size ∨ ∃ hk : k < s.size, s[k] = 10

/-- The line ends: what is to come. -/
theorem PrAt.line {s : ByteArray} {w w' : World} {k : Nat} {v : Value} {M : List CmA} {y : ByteArray} (h : PrAt s w k v M y w') (hk : nlAt s k) : ∃ D, ScrM.lines (bl s) = D ++ bl y :: ScrM.linesAt (bl s) (k + 1) [] ∧ ScrM.cmds D = some (M.map Prod.fst) := by
  obtain ⟨D, h1, h2⟩ := h.say
  refine ⟨D, ?_, h2⟩
  rw [h1]
  rcases hk with rfl | ⟨hk, hc⟩
  · have := ScrM.linesAt_end (s := bl s) h.nl
    rw [bl_size] at this
    rw [this, ScrM.linesAt_past (by rw [bl_size]; omega)]
  · rw [ScrM.linesAt_nl (by rw [bl_at s k hk, hc]) h.nl]

theorem snoc_lines {s : ByteArray} {D : List (List UInt8)} {l : List UInt8} {k : Nat} (h : ScrM.lines (bl s) = D ++ l :: ScrM.linesAt (bl s) (k + 1) []) : ScrM.lines (bl s) = (D ++ [l]) ++ ScrM.linesAt (bl s) (k + 1) (bl ⟨#[]⟩) := by
  rw [h]
  simp [bl]

/-- A line without words. -/
theorem PrAt.blank {s : ByteArray} {w w' W : World} {k : Nat} {v : Value} {M : List CmA} {y : ByteArray} (h : PrAt s w k v M y w') (hk : nlAt s k) (hw : ScrM.words (bl y) = []) (hb : Below w'.heap.size w' W) : PrAt s w (k + 1) v M ⟨#[]⟩ W := by
  obtain ⟨D, h1, h2⟩ := h.line hk
  refine ⟨⟨D ++ [bl y], snoc_lines h1, ?_⟩, h.own.below hb, h.low.trans (hb.mono h.low.size), Nat.le_succ_of_le h.len, Nat.zero_le _, fun c hc => nomatch hc⟩
  rw [ScrM.cmds_snoc h2, if_pos hw]

theorem PrAt.bad {s : ByteArray} {w w' : World} {k : Nat} {v : Value} {M : List CmA} {y : ByteArray} (h : PrAt s w k v M y w') (hk : nlAt s k) (hw : ScrM.words (bl y) ≠ []) (hc : ScrM.command (ScrM.words (bl y)) = none) : ScrM.parse (bl s) = ([], 3) := by
  obtain ⟨D, h1, h2⟩ := h.line hk
  have e : ScrM.parseL (bl s) = none := by
    rw [ScrM.parseL, h1]
    exact ScrM.cmds_stop hw hc
  rw [ScrM.parse, e]

/-- A line with a command: it is put behind the others. -/
theorem PrAt.cmd {s : ByteArray} {w w' W : World} {k : Nat} {v v' : Value} {M : List CmA} {y : ByteArray} (h : PrAt s w k v M y w') (hk : nlAt s k) (hw : ScrM.words (bl y) ≠ []) {p : CmA} (hc : ScrM.command (ScrM.words (bl y)) = some p.1)
    (ho : OwnCmds W w.heap.size v' (M ++ [p])) (hb : Below w.heap.size w W) : PrAt s w (k + 1) v' (M ++ [p]) ⟨#[]⟩ W := by
  obtain ⟨D, h1, h2⟩ := h.line hk
  refine ⟨⟨D ++ [bl y], snoc_lines h1, ?_⟩, ho, hb, by rw [List.length_append]; exact Nat.succ_le_succ h.len, Nat.zero_le _, fun c hc => nomatch hc⟩
  rw [ScrM.cmds_snoc h2, if_neg hw, hc]
  simp

/-- The words, used. -/
theorem rwords_use (y : ByteArray) (hy : y.size ≤ 100000) (w : World) :
    Calls Tryd.prog 27 #[.string y] w fun e w' => ∃ (A : Option Addr) (c : Nat) (L : List ByteArray), e = .returned (.slice A L.length c) ∧ L.map bl = ScrM.words (bl y) ∧ (L ≠ [] → WdsAt w' w'.heap.size (.slice A L.length c) L) ∧ L.length ≤ y.size ∧ (∀ z ∈ L, z.size ≤ y.size) ∧ Below w.heap.size w w' := by
  refine (rwords_any y hy w).mono ?_
  rintro e w' ⟨v, L, rfl, hL, ho, hb⟩
  obtain ⟨A, n, c, rfl⟩ := own_slice ho
  have hn := own_len ho
  subst hn
  refine ⟨A, c, L, rfl, hL, fun hne => WdsAt.of_own ho hne, ?_, fun z hz => ?_, hb⟩
  · have h := ScrM.wordsA_len (bl y) []
    rw [← List.length_map (f := bl), hL, ← bl_len]
    show (ScrM.wordsA [] (bl y)).length ≤ _
    simpa using h
  · have h := ScrM.wordsA_mem (bl y) [] (bl z) (by
      show bl z ∈ ScrM.words (bl y)
      rw [← hL]
      exact List.mem_map_of_mem hz)
    rw [← bl_len, ← bl_len]
    simpa using h

set_option maxHeartbeats 4000000 in
set_option maxRecDepth 100000 in
theorem rparse_any (s : ByteArray) (w : World) (hs : s.size ≤ 90000) :
    Calls Tryd.prog 11 #[.string s] w (ParsePost s w) := by
  obtain ⟨i0, hi0, hz0, hz1, hz2⟩ := info_parts cmInfo
  go_enter Tryd.func11, Tryd.ntmps11
  go_wp2_with fail
  go_loopw [4, 5, 6] (fun out u i w' => ∃ (k : Nat) (M : List CmA) (y : ByteArray), k ≤ s.size + 1 ∧ i = .int .i64 k ∧ u = .string y ∧ PrAt s w k out M y w') (fun _ _ i _ => s.size + 1 - (intOf i).toNat)
  case atStart => exact ⟨0, [], ⟨#[]⟩, by omega, rfl, rfl, ⟨[], (ScrM.linesAt_start (bl s)).symm, rfl⟩, OwnCmds.nil _ _, Below.refl _ _, Nat.le_refl _, Nat.le_refl _, fun c hc => nomatch hc⟩
  case round =>
    obtain ⟨k, M, y, hk, rfl, rfl, hat⟩ := hrel
    have HA := Lib.hid hat
    have hyk := hat.cur
    have hMk := hat.len
    obtain ⟨A0, n0, c0, hv0⟩ := own_slice hat.own.1
    have hn0 := hat.own.1
    rw [hv0] at hn0
    have hn1 := own_len hn0
    subst hn1
    subst hv0
    clear hat hn0
    by_cases hlt : k ≤ s.size
    · have hle : decide ((k : Int) ≤ (s.size : Int)) = true := decide_eq_true (by omega)
      have hk0 : (0 : Int) ≤ (k : Int) := by omega
      by_cases hsp : nlAt s k
      · have HSP := Lib.hid hsp
        go_upto_region 6 with fail
        go_cut [29] from 10 to 52 (fun b w' => b = .bool false ∧ w' = wr)
        case first =>
          rcases hsp with hsq | ⟨hks, hc⟩
          · have hq : ¬ k < s.size := by omega
            clear hsq
            go_wp2_with fail
            go_meet
            case rel => exact ⟨rfl, rfl⟩
          · have hq : decide ((k : Int) < (s.size : Int)) = true := decide_eq_true (by omega)
            have hmin : min (k : Int) ((s.size : Int) - 1) = (k : Int) := by omega
            have hk1 : (k : Int) < (s.size : Int) := by omega
            have h10 : ((s[k].toNat : Int) != 10) = false := by rw [hc]; rfl
            clear hc
            go_wp2_with fail
            go_meet
            case rel => exact ⟨rfl, rfl⟩
        case rest =>
          obtain ⟨rfl, rfl⟩ := hcut
          go_wp2_with fail
          refine (rwords_use y (by omega) _).mono ?_
          rintro e w2 ⟨A, c, L, rfl, hL, hwd, hLl, hLs, hb2⟩
          have HL := Lib.hid hL
          have HWD := Lib.hid hwd
          have HLS := Lib.hid hLs
          have hs2 := hb2.size
          have HB2 := Lib.hid hb2
          clear hL hwd hLs hb2
          cases L with
          | nil =>
            have HN := Lib.hid (HA.out.blank HSP.out HL.out.symm HB2.out)
            go_wp2_with fail
            go_roundw
            case rel => exact ⟨k + 1, M, ⟨#[]⟩, by omega, by go_num, rfl, HN.out⟩
            case measure => simp [intOf]; omega
          | cons x r =>
            have hcall := rcommand_any (.slice A (x :: r).length c) x r w2 (HWD.out (by simp)) (by simp at hLl; omega) (fun z hz => by have := HLS.out z hz; omega)
            have hl0 : ((r.length : Int) + 1 == 0) = false := beq_eq_false_iff_ne.2 (by omega)
            simp only [List.length_cons] at hcall hLl
            go_wp2_with fail
            refine hcall.mono ?_
            rintro e w4 ⟨op, cut, bytes, noise, Ac, mc, cc, rfl, hcm4, hb4⟩
            have HO4 := Lib.hid ((HA.out.own.below HB2.out).below hb4)
            have hlow2 := HA.out.low.trans (HB2.out.mono HA.out.low.size)
            have hsz := hlow2.size
            have hs4 := hb4.size
            have HB4 := Lib.hid (hlow2.trans (hb4.mono hsz))
            have HNE := Lib.hid (show ScrM.words (bl y) ≠ [] by rw [← HL.out]; simp)
            clear hcall hb4 hlow2
            rw [HL.out] at hcm4 ⊢
            unfold cmArr
            cases hcmd : ScrM.command (ScrM.words (bl y)) with
            | none =>
              have HP := Lib.hid (HA.out.bad HSP.out HNE.out hcmd)
              clear hcm4 hcmd
              go_wp2_with fail
              go_ret2
              refine ⟨.slice none 0 0, [], by rw [HP.out]; rfl, by rw [HP.out]; rfl, OwnCmds.nil _ _, ?_⟩
              exact HB4.out.alloc (by omega) _
            | some cm =>
              obtain ⟨rfl, rfl, rfl, rfl, hown4⟩ := hcm4 cm hcmd
              have HN4 := Lib.hid (own_less (B' := w.heap.size) hown4 hsz)
              have HCD := Lib.hid hcmd
              clear hown4 hcm4 hcmd
              obtain ⟨op, al, cut, bytes, noise⟩ := cm
              have hmc : mc = al.length := own_len HN4.out
              subst hmc
              go_wp2_with (at_builtin; refine wpList_append_own _ rfl _ _ 23 rfl w.heap.size 31 i0 (.agg zeroCm) 5 56 Tryd.underlying23 hi0 hz0 hz1 hz2 rfl (by omega) _ _ _ rfl ((HO4.out.1.alloc _).alloc _) _ 1 1 (cmCells ⟨op, al, cut, bytes, noise⟩ Ac cc) rfl rfl ?c1 ?c2 ?c3 ?c4 ?c5 ?_)
              case c1 => exact World.news_of_block (heap_new2 _ _ _)
              case c2 => simp [Value.oneCell', cmCells]
              case c3 => unfold maxLen; omega
              case c4 => omega
              case c5 => simp; omega
              intro v' w6 hown6 hgrow6 _
              obtain ⟨A', n', c', rfl⟩ := own_slice hown6
              have hb6 := ((HB4.out.alloc (by omega) (.cells #[.int .i64 op, .slice Ac al.length cc, .int .i64 cut, .int .i64 bytes, .int .i64 noise] 31)).alloc (by simp; omega) (.cells #[.int .i64 op, .slice Ac al.length cc, .int .i64 cut, .int .i64 bytes, .int .i64 noise] 31)).grown hgrow6 (by simp; omega) (fun q hq => (HO4.out.1.lt q hq).1)
              have HN6 := Lib.hid (HA.out.cmd (p := (⟨op, al, cut, bytes, noise⟩, Ac, cc)) HSP.out HNE.out HCD.out ((HO4.out.below ((Below.refl _ _).alloc (Nat.le_refl _) _)).app _ hgrow6 (⟨op, al, cut, bytes, noise⟩, Ac, cc) (HN4.out.alloc _) hown6) hb6)
              clear hgrow6 hown6 hb6
              go_wp2_with fail
              go_roundw
              case rel => exact ⟨k + 1, M ++ [(⟨op, al, cut, bytes, noise⟩, Ac, cc)], ⟨#[]⟩, by omega, by go_num, rfl, HN6.out⟩
              case measure => simp [intOf]; omega
      · have hks : k < s.size := by
          rcases Nat.lt_or_ge k s.size with h | h
          · exact h
          · exact absurd (.inl (by omega)) hsp
        have hc : s[k] ≠ 10 := fun e => hsp (.inr ⟨hks, e⟩)
        have HN := Lib.hid (HA.out.more hks hc)
        have h10 : ((s[k].toNat : Int) != 10) = true := by
          rw [bne_iff_ne]
          intro e
          refine hc (UInt8.toNat_inj.1 ?_)
          show s[k].toNat = 10
          omega
        clear hsp hc
        have hq : decide ((k : Int) < (s.size : Int)) = true := decide_eq_true (by omega)
        have hmin : min (k : Int) ((s.size : Int) - 1) = (k : Int) := by omega
        have hk1 : (k : Int) < (s.size : Int) := by omega
        have hes := ext_size s k hks
        go_wp2_with fail
        go_roundw
        case rel => exact ⟨k + 1, M, _, by omega, by go_num, rfl, HN.out⟩
        case measure => simp [intOf]; omega
    · have hle : decide ((k : Int) ≤ (s.size : Int)) = false := decide_eq_false (by omega)
      have HCA := Lib.hid (HA.out.fin (by omega))
      by_cases h4 : 400 < M.length
      · have HP := Lib.hid (show ScrM.parse (bl s) = ([], 2) by rw [ScrM.parse, HCA.out]; simp only []; rw [if_pos (by simpa using h4)])
        go_wp2_with fail
        go_ret2
        exact ⟨.slice none 0 0, [], by rw [HP.out]; rfl, by rw [HP.out]; rfl, OwnCmds.nil _ _, HA.out.low⟩
      · have HP := Lib.hid (show ScrM.parse (bl s) = (M.map Prod.fst, 0) by rw [ScrM.parse, HCA.out]; simp only []; rw [if_neg (by simpa using h4)])
        go_wp2_with fail
        go_ret2
        exact ⟨.slice A0 M.length c0, M, by rw [HP.out]; rfl, by rw [HP.out], HA.out.own, HA.out.low⟩

end Go.Proofs.YtnanhebepjdlcabDoor
