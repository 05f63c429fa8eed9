/- Parse: the walk. -/
import Derived.Test.YtnanhebepjdlcabDoorWalkI
import Derived.Test.YtnanhebepjdlcabDoorWalkJ
namespace Go.Proofs.YtnanhebepjdlcabDoor
open Go.RowKit

theorem cmInfo : (Tryd.prog.info? 31).map (fun i => (i.zero, i.size, i.bytes)) = some (some (.agg zeroCm), 5, 56) := by kernel_rfl

def pieces (s : ByteArray) : List ByteArray := Lib.splitB ScrM.nlB 0 (Lib.countB s ScrM.nlB) s

theorem pieces_bl (s : ByteArray) : (pieces s).map bl = ScrM.lines (bl s) := ScrM.splitB_lines s
theorem pieces_len (s : ByteArray) : (pieces s).length = Lib.countB s ScrM.nlB + 1 := Lib.splitB_all ScrM.nlB (by decide) 0 _ s rfl
theorem bl_len (s : ByteArray) : (bl s).length = s.size := (Lib.size_eq s).symm

theorem split_any (s : ByteArray) (w : World) (hw : WOk w) (hs : s.size ≤ 90000) :
    Calls Tryd.prog 23 #[.string s, .string ⟨#[10]⟩] w fun e w' => e = .returned (.slice (some ⟨w.heap.size, 0, none⟩) (pieces s).length (pieces s).length) ∧ w' = w.alloc (.cells ((pieces s).map Value.string).toArray 9) := by
  obtain ⟨m, hm⟩ := hw.max
  refine (Tryd.strings_Split s ScrM.nlB m w (by omega) hm (by decide)).mono ?_
  rintro e w' ⟨rfl, rfl⟩
  rw [pieces_len]
  exact ⟨rfl, rfl⟩

/-- The words of a piece. -/
def wordsB (y : ByteArray) : List ByteArray := Lib.goFieldsP ScrM.sepR y

theorem wordsB_bl (y : ByteArray) : (wordsB y).map bl = ScrM.words (bl y) := ScrM.fields_words y

theorem wordsB_len (y : ByteArray) : (wordsB y).length ≤ y.size := by
  have h := ScrM.wordsA_len (bl y) []
  rw [← List.length_map (f := bl), wordsB_bl, ← bl_len]
  show (ScrM.wordsA [] (bl y)).length ≤ _
  simpa using h

theorem wordsB_mem (y : ByteArray) : ∀ z ∈ wordsB y, z.size ≤ y.size := by
  intro z hz
  have h := ScrM.wordsA_mem (bl y) [] (bl z) (by
    show bl z ∈ ScrM.words (bl y)
    rw [← wordsB_bl]
    exact List.mem_map_of_mem hz)
  rw [← bl_len, ← bl_len]
  simpa using h

theorem pieces_count (s : ByteArray) : (pieces s).length ≤ s.size + 1 := by
  have h := ScrM.lines_len (bl s)
  rw [← pieces_bl, List.length_map, bl_len] at h
  exact h

theorem pieces_mem (s : ByteArray) : ∀ y ∈ pieces s, y.size ≤ s.size := by
  intro y hy
  have h := ScrM.lines_mem (bl s) (bl y) (by rw [← pieces_bl]; exact List.mem_map_of_mem hy)
  rw [bl_len, bl_len] at h
  exact h

/-- What Parse answers. -/
def ParsePost (s : ByteArray) (w : World) (e : Ending) (w' : World) : Prop :=
  ∃ (v : Value) (M : List CmA), e = .returned (.tuple #[v, .int .i64 (ScrM.parse (bl s)).2]) ∧ M.map Prod.fst = (ScrM.parse (bl s)).1 ∧ OwnCmds w' w.heap.size v M ∧ Below w.heap.size w w'

theorem piece_cell {s : ByteArray} {w W : World} (hb : Below (w.alloc (.cells ((pieces s).map Value.string).toArray 9)).heap.size (w.alloc (.cells ((pieces s).map Value.string).toArray 9)) W) {k : Nat} (hk : k < (pieces s).length) :
    W.cell? ⟨w.heap.size, k, none⟩ = some (.string (pieces s)[k]) := by
  rw [hb.cell (p := ⟨w.heap.size, k, none⟩) (by simp), World.cell?_alloc_at _ _ _ _ rfl]
  simp [hk]

/-- The line's block as FieldsFunc's words make it. -/
theorem line_made {w0 w2 : World} {A : Nat} {y : ByteArray} {K0 : Nat} (h : w2.ownsRow K0 9 1 (.slice (some ⟨A, 0, none⟩) (wordsB y).length (wordsB y).length) (wordsB y).length ((wordsB y).map Value.string)) (_hb : Below w0.heap.size w0 w2) :
    LineAt (w2.alloc (.cells #[.slice (some ⟨A, 0, none⟩) (wordsB y).length (wordsB y).length] 51)) w2.heap.size (w2.heap.size + 1) (wordsB y) := by
  have hA := (h.lt A rfl).2
  refine ⟨by simp, A, 0, (wordsB y).length, ?_, ?_, by omega, by omega, by omega, Nat.le_refl _, fun i x hx => ?_⟩
  · rw [World.cell?_alloc_at _ _ _ _ rfl]; rfl
  · exact World.frozen?_alloc_at _ _ _ _ rfl
  · have := h.cells rfl i (.string x) (by simp [hx])
    rw [World.cell?_alloc_lt _ _ _ hA]
    have e : (⟨A, 0, none⟩ : Addr).add i = ⟨A, 0 + i, none⟩ := Addr.add_mid A 0 i
    rw [e] at this
    exact this

theorem fields_w (y : ByteArray) (hy : y.size ≤ 1000000) (w : World) :
    Calls Tryd.prog 24 #[.string y, .func (.func 25) #[] #[]] w fun e w' => ∃ A, e = .returned (.slice (some ⟨A, 0, none⟩) (wordsB y).length (wordsB y).length) ∧ w.heap.size ≤ A ∧
      w'.ownsRow w.heap.size 9 1 (.slice (some ⟨A, 0, none⟩) (wordsB y).length (wordsB y).length) (wordsB y).length ((wordsB y).map Value.string) ∧ Below w.heap.size w w' := fields_any y hy w

theorem heap_new2 (w : World) (o o' : Obj) : ((w.alloc o).alloc o').heap[w.heap.size + 1]? = some o' := by
  have h := heap_alloc_new (w.alloc o) o'
  have e : (w.alloc o).heap.size = w.heap.size + 1 := by simp
  rw [e] at h
  exact h

theorem drop_some {α : Type} {l : List α} {k : Nat} {x : α} (h : l[k]? = some x) : l.drop k = x :: l.drop (k + 1) := by
  obtain ⟨hk, e⟩ := List.getElem?_eq_some_iff.1 h
  rw [List.drop_eq_getElem_cons hk, e]

theorem parse_none {s : ByteArray} {k : Nat} {l : List UInt8} (hl : (ScrM.lines (bl s))[k]? = some l) (hw : ScrM.words l ≠ []) (hc : ScrM.command (ScrM.words l) = none) : ScrM.parse (bl s) = ([], 3) := by
  have e : ScrM.lines (bl s) = (ScrM.lines (bl s)).take k ++ l :: (ScrM.lines (bl s)).drop (k + 1) := by
    conv => lhs; rw [← List.take_append_drop k (ScrM.lines (bl s)), drop_some hl]
  have h : ScrM.parseL (bl s) = none := by
    rw [ScrM.parseL, e]
    exact ScrM.cmds_stop hw hc
  rw [ScrM.parse, h]

theorem take_next {s : ByteArray} {k : Nat} {l : List UInt8} (hl : (ScrM.lines (bl s))[k]? = some l) : (ScrM.lines (bl s)).take (k + 1) = (ScrM.lines (bl s)).take k ++ [l] := by
  rw [List.take_add_one, hl]
  rfl

theorem own_len {w : World} {B n k m c : Nat} {e : TypeId} {A : Option Addr} {xs : List Value} (h : w.ownsRow B e k (.slice A m c) n xs) : m = n := by
  rcases h.2 with ⟨h1, h2⟩ | ⟨g, cap, cur, h1, _⟩
  · injection h1 with _ h1 _
    omega
  · injection h1

theorem grown_w {w1 w3 w4 : World} {b : Nat} (hb : Below w1.heap.size w1 w3) (hg : w3.grownBy w4 (some b)) (hk : w1.heap.size ≤ b) : Below w1.heap.size w1 w4 :=
  hb.grown hg hb.size (fun k hk' => by injection hk' with hk'; omega)

theorem OwnCmds.grown {w w' : World} {B b : Nat} {v : Value} {M : List CmA} (h : OwnCmds w B v M) (hg : w.grownBy w' (some b)) (hbl : w.heap[b]? = none ∨ ∃ cs, w.heap[b]? = some (.cells cs 51 (0, 0))) : OwnCmds w' B v M := by
  have apart : ∀ {e : TypeId} {k n : Nat} {u : Value} {xs : List Value}, e ≠ 51 → w.ownsRow B e k u n xs → w'.ownsRow B e k u n xs := by
    intro e k n u xs hne ho
    refine ho.kept hg ?_
    rcases ho.2 with ⟨rfl, _⟩ | ⟨g, cap, cur, rfl, _, h3, _⟩
    · exact .inl rfl
    · refine .inr fun e0 => ?_
      have e1 : g = b := by injection e0
      subst e1
      rcases hbl with hn | ⟨cs, hc⟩
      · rw [hn] at h3; cases h3
      · rw [hc] at h3
        injection h3 with h3
        injection h3 with _ h3 _
        exact hne h3.symm
  exact ⟨apart (by decide) h.1, fun p hp => apart (by decide) (h.2 p hp)⟩

set_option maxHeartbeats 2000000 in
set_option maxRecDepth 100000 in
theorem parse_any (s : ByteArray) (w : World) (hw : WOk w) (hs : s.size ≤ 90000) :
    Calls Tryd.prog 10 #[.string s] w (ParsePost s w) := by
  have hpc := pieces_count s
  have HPM := Lib.hid (pieces_mem s)
  have HPB := Lib.hid (pieces_bl s)
  obtain ⟨i0, hi0, hz0, hz1, hz2⟩ := info_parts cmInfo
  go_enter Tryd.func10, Tryd.ntmps10
  go_wp2_with fail
  refine (split_any s w hw hs).mono ?_
  rintro e w1 ⟨rfl, hw1⟩
  have hbw1 : Below w.heap.size w w1 := by rw [hw1]; exact (Below.refl _ _).alloc (Nat.le_refl _) _
  have HW1 := Lib.hid (hw.later hbw1)
  have HPC := Lib.hid (fun W (hb : Below w1.heap.size w1 W) k hk => @piece_cell s w W (by rw [← hw1]; exact hb) k hk)
  have hz1s : w.heap.size + 1 ≤ w1.heap.size := by rw [hw1]; simp
  have HWE := Lib.hid hw1
  clear hw1
  go_wp2_with fail
  go_loopw [4, 13] (fun out i w' => ∃ (k : Nat) (M : List CmA), k ≤ (pieces s).length ∧ i = .int .i64 k ∧ ScrM.cmds ((ScrM.lines (bl s)).take k) = some (M.map Prod.fst) ∧ M.length ≤ k ∧ OwnCmds w' w1.heap.size out M ∧ Below w1.heap.size w1 w') (fun _ i _ => (pieces s).length - (intOf i).toNat)
  case atStart => exact ⟨0, [], by omega, rfl, rfl, by simp, OwnCmds.nil _ _, Below.refl _ _⟩
  case round =>
    obtain ⟨k, M, hk, rfl, hcm, hML, ho, hb⟩ := hrel
    have HO := Lib.hid ho
    have HB := Lib.hid hb
    have HCM := Lib.hid hcm
    have hsz := hb.size
    clear ho hb hcm
    by_cases hlt : k < (pieces s).length
    · have hk63 : (k : Int) < ((pieces s).length : Int) := by omega
      have hcell := HPC.out wr HB.out k hlt
      have hys := HPM.out (pieces s)[k] (List.getElem_mem hlt)
      have hline : (ScrM.lines (bl s))[k]? = some (bl (pieces s)[k]) := by
        rw [← HPB.out, List.getElem?_map, List.getElem?_eq_getElem hlt]
        rfl
      generalize hy : (pieces s)[k] = y at hcell hys hline
      have HY := Lib.hid hy
      clear hy
      have HLN := Lib.hid hline
      clear hline
      go_wp2_with fail
      refine (fields_w y (by omega) wr).mono ?_
      rintro e w2 ⟨A, rfl, hA, hown, hb2⟩
      have hwl := wordsB_len y
      have hwm := wordsB_mem y
      have hwb := wordsB_bl y
      have hLINE := line_made hown hb2
      generalize wordsB y = ws at hwl hwm hwb hown hLINE ⊢
      have HW2 := Lib.hid (HW1.out.later (HB.out.trans (hb2.mono hsz)))
      have HB2 := Lib.hid (HB.out.trans (hb2.mono hsz))
      have HO2 := Lib.hid (HO.out.below hb2)
      have hs2 := hb2.size
      cases ws with
      | nil =>
        have HSN := Lib.hid (ScrM.cmds_snoc HCM.out (bl y))
        have HWB := Lib.hid hwb.symm
        clear hwm hwb hLINE hown hb2 hwl
        go_wp2_with fail
        go_roundw
        case rel => exact ⟨k + 1, M, by omega, by go_num, by rw [take_next HLN.out, HSN.out, if_pos (by rw [HWB.out]; rfl)], by omega, HO2.out.below ((Below.refl _ _).alloc (Nat.le_refl _) _), HB2.out.alloc (by omega) _⟩
        case measure => simp [intOf]; omega
      | cons x r =>
        have hcall := command_any w2.heap.size x r (w2.alloc (.cells #[.slice (some ⟨A, 0, none⟩) (x :: r).length (x :: r).length] 51)) (HW2.out.later ((Below.refl _ _).alloc (Nat.le_refl _) _)) (by have := HW1.out.big; omega) (by rw [show (w2.alloc (.cells #[.slice (some ⟨A, 0, none⟩) (x :: r).length (x :: r).length] 51)).heap.size = w2.heap.size + 1 by simp]; exact hLINE) (by simp at hwl; omega) (fun z hz => by have := hwm z hz; omega)
        have HWB := Lib.hid hwb
        have hl0 : ((r.length : Int) + 1 == 0) = false := beq_eq_false_iff_ne.2 (by omega)
        have hl1 : (((r.length + 1 : Nat) : Int) == 0) = false := beq_eq_false_iff_ne.2 (by omega)
        clear hwm hwb hLINE hown hb2 hwl
        simp only [List.length_cons] at hcall
        go_wp2_with fail
        refine hcall.mono ?_
        rintro e w4 ⟨op, cut, bytes, noise, Ac, mc, cc, rfl, hcm4, hg4⟩
        have hbl : w2.heap.size < (w2.alloc (.cells #[.slice (some ⟨A, 0, none⟩) (r.length + 1) (r.length + 1)] 51)).heap.size := by simp
        have HO4 := Lib.hid ((HO2.out.below ((Below.refl _ _).alloc (Nat.le_refl _) _)).grown hg4 (.inr ⟨_, heap_alloc_new w2 _⟩))
        have HB4 := Lib.hid (grown_w (HB2.out.alloc (by omega) _) hg4 (by omega))
        have hs4 : w2.heap.size + 1 ≤ w4.heap.size := by have := hg4.size; simpa using this
        clear hg4 hcall
        rw [HWB.out] at hcm4 ⊢
        unfold cmArr
        cases hcmd : ScrM.command (ScrM.words (bl y)) with
        | none =>
          have HPN := Lib.hid (parse_none HLN.out (by rw [← HWB.out]; simp) hcmd)
          clear hcm4 hcmd
          go_wp2_with fail
          go_ret2
          refine ⟨.slice none 0 0, [], by rw [HPN.out]; rfl, by rw [HPN.out]; rfl, OwnCmds.nil _ _, ?_⟩
          exact hbw1.trans ((HB4.out.alloc (by omega) _).mono (by omega))
        | some cm =>
          obtain ⟨rfl, rfl, rfl, rfl, hown4⟩ := hcm4 cm hcmd
          have HN4 := Lib.hid (own_less (B' := w1.heap.size) hown4 (by simp; omega))
          have HSN := Lib.hid (ScrM.cmds_snoc HCM.out (bl y))
          have HNE := Lib.hid (show ScrM.words (bl y) ≠ [] by rw [← HWB.out]; simp)
          have HCD := Lib.hid hcmd
          clear hown4 hcm4 hcmd
          obtain ⟨op, al, cut, bytes, noise⟩ := cm
          have hmc : mc = al.length := own_len HN4.out
          subst hmc
          go_wp2_with (at_builtin; refine wpList_append_own _ rfl _ _ 23 rfl w1.heap.size 31 i0 (.agg zeroCm) 5 56 Tryd.underlying23 hi0 hz0 hz1 hz2 rfl (by omega) _ _ _ rfl ((HO4.out.1.alloc _).alloc _) _ 1 1 (cmCells ⟨op, al, cut, bytes, noise⟩ Ac cc) rfl rfl ?c1 ?c2 ?c3 ?c4 ?c5 ?_)
          case c1 => exact World.news_of_block (heap_new2 _ _ _)
          case c2 => simp [Value.oneCell', cmCells]
          case c3 => unfold maxLen; omega
          case c4 => omega
          case c5 => simp; omega
          intro v' w6 hown6 hgrow6 _
          obtain ⟨A', n', c', rfl⟩ := own_slice hown6
          have hb6 := ((HB4.out.alloc (by omega) (.cells #[.int .i64 op, .slice Ac al.length cc, .int .i64 cut, .int .i64 bytes, .int .i64 noise] 31)).alloc (by simp; omega) (.cells #[.int .i64 op, .slice Ac al.length cc, .int .i64 cut, .int .i64 bytes, .int .i64 noise] 31)).grown hgrow6 (by simp; omega) (fun q hq => (HO4.out.1.lt q hq).1)
          have HB6 := Lib.hid hb6
          have HO6 := Lib.hid ((HO4.out.below ((Below.refl _ _).alloc (Nat.le_refl _) _)).app _ hgrow6 (⟨op, al, cut, bytes, noise⟩, Ac, cc) (HN4.out.alloc _) hown6)
          clear hgrow6 hown6 hb6
          go_wp2_with fail
          go_roundw
          case rel =>
            refine ⟨k + 1, M ++ [(⟨op, al, cut, bytes, noise⟩, Ac, cc)], by omega, by go_num, ?_, by simp; omega, HO6.out, HB6.out⟩
            rw [take_next HLN.out, HSN.out, if_neg HNE.out, HCD.out]
            simp
          case measure => simp [intOf]; omega
    · obtain rfl : k = (pieces s).length := by omega
      have HCA := Lib.hid (show ScrM.parseL (bl s) = some (M.map Prod.fst) by
        have := HCM.out
        rw [← HPB.out, List.take_of_length_le (by simp), HPB.out] at this
        exact this)
      obtain ⟨A', n', c', rfl⟩ := own_slice HO.out.1
      have hn' := own_len HO.out.1
      subst hn'
      by_cases h4 : 400 < M.length
      · have HP := Lib.hid (show ScrM.parse (bl s) = ([], 2) by rw [ScrM.parse, HCA.out]; simp only []; rw [if_pos (by simpa using h4)])
        go_wp2_with fail
        go_ret2
        exact ⟨.slice none 0 0, [], by rw [HP.out]; rfl, by rw [HP.out]; rfl, OwnCmds.nil _ _, hbw1.trans (HB.out.mono (by omega))⟩
      · have HP := Lib.hid (show ScrM.parse (bl s) = (M.map Prod.fst, 0) by rw [ScrM.parse, HCA.out]; simp only []; rw [if_neg (by simpa using h4)])
        go_wp2_with fail
        go_ret2
        exact ⟨.slice A' M.length c', M, by rw [HP.out]; rfl, by rw [HP.out], ⟨own_less HO.out.1 (by omega), fun p hp => own_less (HO.out.2 p hp) (by omega)⟩, hbw1.trans (HB.out.mono (by omega))⟩

end Go.Proofs.YtnanhebepjdlcabDoor
