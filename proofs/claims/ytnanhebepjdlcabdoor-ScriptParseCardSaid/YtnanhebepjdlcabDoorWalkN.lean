/- Text's closure: a number is appended to the words. -/
import Derived.Test.YtnanhebepjdlcabDoorReads
import Derived.Deep.AppendLies
import Derived.Deep.RegionLaw
namespace Go.Proofs.YtnanhebepjdlcabDoor
open Go.RowKit

theorem strInfo : (Tryd.prog.info? 9).map (fun i => (i.zero, i.size, i.bytes)) = some (some (.string ⟨#[]⟩), 1, 16) := by kernel_rfl

def strsV (ws : List ByteArray) : List Value := ws.map Value.string

/-- The builder's writing, as the shelf's contract for Join bears it. -/
theorem write_any (B b : Nat) (bs : List Value) (s : ByteArray) (w : World) (h : Lib.IsBuilder 64 5 B b bs w) (hlen : bs.length + s.size ≤ 140737488355328) (hBw : B ≤ w.heap.size) :
    Calls Tryd.prog 33 #[.pointer (some ⟨b, 0, none⟩), .string s] w fun e w' => e = .returned (.tuple #[.int .i64 s.size, .nilIface]) ∧ (Lib.BuilderAt 64 5 B b (.pointer (some ⟨b, 0, none⟩)) (bs ++ Lib.strCells s) w' ∧ Below B w w') :=
  Any.Builder_WriteString { Tryd.lays156 with } Tryd.Builder_Extra_156 B b bs s w h hlen hBw

/-- Where Text stands in a round: the command's block C, the words' variable T. -/
structure TxAt (wr : World) (C T : Nat) (cs : Array Value) (ws : List ByteArray) (w' : World) : Prop where
  below : Below wr.heap.size wr w'
  baseC : wr.heap.size ≤ C
  baseT : wr.heap.size ≤ T
  blk : w'.heap[C]? = some (.cells cs 31 (0, 0))
  var : ∃ A n c, w'.heap[T]? = some (.cells #[.slice A n c] 45 (0, 0)) ∧ w'.ownsRow wr.heap.size 9 1 (.slice A n c) ws.length (strsV ws)

/-- An append to the words, stored back. -/
theorem TxAt.app {wr w' w3 : World} {C T n : Nat} {A : Option Addr} {c : Nat} {cs : Array Value} {ws : List ByteArray} (h : TxAt wr C T cs ws w') (hT : w'.heap[T]? = some (.cells #[.slice A n c] 45 (0, 0))) (hr : w'.ownsRow wr.heap.size 9 1 (.slice A n c) ws.length (strsV ws))
    (o : Obj) (hg : (w'.alloc o).grownBy w3 (Value.slice A n c).ownBlock) (x : ByteArray) (A' : Option Addr) (n' c' : Nat) (hr' : w3.ownsRow wr.heap.size 9 1 (.slice A' n' c') (ws.length + 1) (strsV ws ++ [.string x])) :
    (w3.cell? ⟨T, 0, none⟩ = some (.slice A n c) ∧ w3.frozen? ⟨T, 0, none⟩ = false) ∧ TxAt wr C T cs (ws ++ [x]) (w3.setCell ⟨T, 0, none⟩ (.slice A' n' c')) := by
  have hsz := h.below.size
  have far : ∀ {q : Nat} {cc : Array Value} {t : TypeId}, t ≠ 9 → w'.heap[q]? = some (.cells cc t (0, 0)) → w3.heap[q]? = some (.cells cc t (0, 0)) := by
    intro q cc t ht hq
    have hne : some q ≠ (Value.slice A n c).ownBlock := fun e => by
      rcases hr.2 with ⟨h1, _⟩ | ⟨g, cap, cur, h1, _, h3, _⟩
      · rw [h1] at e; cases e
      · rw [h1] at e
        have e1 : q = g := by injection e
        rw [e1, h3] at hq
        injection hq with hq
        injection hq with _ hq _
        exact ht hq.symm
    exact (hg.block q (by simp; have := blk_lt hq; omega) hne).trans ((Below.heap_alloc _ _ _ (blk_lt hq)).trans hq)
  have hT3 := far (by decide) hT
  have hC3 := far (by decide) h.blk
  have hb3 : Below wr.heap.size wr w3 := (h.below.alloc hsz o).grown hg (by simp; omega) (fun k hk => (hr.lt k hk).1)
  have hb4 : Below wr.heap.size wr (w3.setCell ⟨T, 0, none⟩ (.slice A' n' c')) := hb3.setCell (p := ⟨T, 0, none⟩) h.baseT _
  refine ⟨⟨cells_of_blk hT3 0, thaw_of_blk hT3 0⟩, hb4, h.baseC, h.baseT, ?_, A', n', c', ?_, ?_⟩
  · have hne : C ≠ T := fun e => by
      rw [e, hT3] at hC3
      injection hC3 with hC3
      injection hC3 with _ hC3 _
      exact absurd hC3 (by decide)
    rw [heap_setCell_other w3 ⟨T, 0, none⟩ C _ hne]
    exact hC3
  · rw [heap_setCell_same w3 T 0 _ _ _ hT3]; rfl
  · have e1 : (ws ++ [x]).length = ws.length + 1 := by simp
    have e2 : strsV (ws ++ [x]) = strsV ws ++ [.string x] := by simp [strsV]
    rw [e1, e2]
    refine ⟨hr'.1, ?_⟩
    rcases hr'.2 with hn | ⟨g, cap, cur, h1, h2, h3, h4⟩
    · exact .inl hn
    · refine .inr ⟨g, cap, cur, h1, h2, ?_, h4⟩
      have hne : g ≠ T := fun e => by
        rw [e, hT3] at h3
        injection h3 with h3
        injection h3 with _ h3 _
        exact absurd h3 (by decide)
      rw [heap_setCell_other w3 ⟨T, 0, none⟩ g _ hne]
      exact h3

theorem TxAt.later {wr w' W : World} {C T : Nat} {cs : Array Value} {ws : List ByteArray} (h : TxAt wr C T cs ws w') (hb : Below w'.heap.size w' W) : TxAt wr C T cs ws W := by
  obtain ⟨A, n, c, h1, h2⟩ := h.var
  exact ⟨h.below.trans (hb.mono h.below.size), h.baseC, h.baseT, (hb.block C (blk_lt h.blk)).trans h.blk, A, n, c, (hb.block T (blk_lt h1)).trans h1, own_below h2 hb⟩

def decB (n : Int) : ByteArray := strOf (Lib.itoa n)

set_option maxHeartbeats 2000000 in
set_option maxRecDepth 100000 in
theorem clo_any (wr : World) (C T : Nat) (cs : Array Value) (ws : List ByteArray) (n : Int) (h0 : -9223372036854775808 ≤ n) (h1 : n ≤ 9223372036854775807) (hl : ws.length ≤ 100000) (w : World) (hw : WOk w) (h : TxAt wr C T cs ws w) :
    Calls Tryd.prog 31 #[.int .i64 n, .pointer (some ⟨T, 0, none⟩)] w fun e w' => e = .returned (.tuple #[]) ∧ TxAt wr C T cs (ws ++ [decB n]) w' := by
  obtain ⟨i0, hi0, hz0, hz1, hz2⟩ := info_parts strInfo
  obtain ⟨A, m, c, hT, hr⟩ := h.var
  have cT : w.cell? ⟨T, 0, none⟩ = some (.slice A m c) := cells_of_blk hT 0
  have HA := Lib.hid h
  have HT := Lib.hid hT
  have HR := Lib.hid hr
  have hsz := h.below.size
  clear h hT hr
  go_enter Tryd.func31, Tryd.ntmps31
  go_region_law (first
      | (refine step_append_lies _ (by rfl) _ _ _ (by rfl) wr.heap.size 9 i0 _ 1 16 Tryd.underlying45 hi0 hz0 hz1 hz2 rfl (by omega) (.slice A m c) ws.length (strsV ws) (by rfl) (hR2.alloc _)
          ⟨W.heap.size, 0, none⟩ 1 1 [.string (decB n)] (by rfl) (by rfl) (World.news_of_block (heap_alloc_new W _)) (by simp [Value.oneCell']) (by omega) (by unfold maxLen; omega) (by omega) (by have := hA2.below.size; simp; omega) (W.heap.size + 1) (by simp) ?_
         intro gg cap w1 hown1 hgrow hat hlt
         obtain ⟨⟨cT3, fT3⟩, hA3⟩ := hA2.app hT2 hR2 _ hgrow (decB n) _ _ _ hown1)
      | (go_simp
         go_at_call 32
         refine Calls.mono (itoa_any n h0 h1 _ (hw.later (Below.refl _ _).drew)) ?_
         rintro e W ⟨rfl, hbI⟩
         have hbW : Below w.heap.size w W := Below.trans (Below.refl _ _).drew hbI
         have hA2 := HA.out.later hbW
         have hT2 := (hbW.block T (blk_lt HT.out)).trans HT.out
         have hR2 := own_below HR.out hbW
         have cT2 : W.cell? ⟨T, 0, none⟩ = some (.slice A m c) := cells_of_blk hT2 0
         have cT2a := fun o' => (World.cell?_alloc_lt (w := W) (a := ⟨T, 0, none⟩) (o := o') (blk_lt hT2)).trans cT2))
  all_goals
    go_end0
    exact ⟨rfl, hA3⟩

end Go.Proofs.YtnanhebepjdlcabDoor
