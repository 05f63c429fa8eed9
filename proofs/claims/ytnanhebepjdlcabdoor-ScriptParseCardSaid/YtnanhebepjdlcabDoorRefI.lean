/- The reference's words. -/
import Derived.Test.YtnanhebepjdlcabDoorRefH
import Derived.Test.YtnanhebepjdlcabDoorWalkK
import Derived.Test.YtnanhebepjdlcabDoorWalkO
namespace Go.Proofs.YtnanhebepjdlcabDoor
open Go.RowKit



theorem ext_one (x : ByteArray) (k : Nat) (hk : k < x.size) : bl (x.extract k (k + 1)) = [x[k]] := by
  show (x.extract k (k + 1)).data.toList = _
  rw [Lib.extract_data, show k + 1 - k = 1 by omega]
  show ((bl x).drop k).take 1 = _
  rw [List.drop_eq_getElem_cons (by rw [bl_size]; exact hk)]
  rfl

theorem ext_size (x : ByteArray) (k : Nat) (hk : k < x.size) : (x.extract k (k + 1)).size = 1 := by
  rw [← bl_size, ext_one x k hk]
  rfl

/-- The row so far, the word begun: what is left of the line adds its words. -/
structure WdAt (s : ByteArray) (w : World) (k : Nat) (v : Value) (L : List ByteArray) (y : ByteArray) (w' : World) : Prop where
  say : ScrM.words (bl s) = L.map bl ++ ScrM.wordsAt (bl s) k (bl y)
  own : w'.ownsRow w.heap.size 9 1 v L.length (L.map Value.string)
  low : Below w.heap.size w w'
  len : L.length ≤ k
  cur : y.size ≤ k

/-- What the reference's words answers. -/
def WordsPost (s : ByteArray) (w : World) (e : Ending) (w' : World) : Prop :=
  ∃ (v : Value) (L : List ByteArray), e = .returned v ∧ L.map bl = ScrM.words (bl s) ∧ w'.ownsRow w.heap.size 9 1 v L.length (L.map Value.string) ∧ Below w.heap.size w w'

theorem WdAt.fin {s : ByteArray} {w w' : World} {k : Nat} {v : Value} {L : List ByteArray} {y : ByteArray} (h : WdAt s w k v L y w') (hk : s.size < k) : WordsPost s w (.returned v) w' := by
  have hs := h.say
  rw [ScrM.wordsAt_past (by rw [bl_size]; exact hk), List.append_nil] at hs
  exact ⟨v, L, rfl, hs.symm, h.own, h.low⟩

/-- A byte that parts words, or the end; no word begun. -/
theorem WdAt.none {s : ByteArray} {w w' : World} {k : Nat} {v : Value} {L : List ByteArray} {y : ByteArray} (h : WdAt s w k v L y w') (hk : k = s.size ∨ ∃ hk : k < s.size, ScrM.isSep s[k] = true) (hy : y.size = 0) : WdAt s w (k + 1) v L ⟨#[]⟩ w' := by
  have hy0 : bl y = [] := List.eq_nil_of_length_eq_zero (by rw [bl_size]; exact hy)
  refine ⟨?_, h.own, h.low, Nat.le_succ_of_le h.len, Nat.zero_le _⟩
  have hs := h.say
  rw [hy0] at hs
  rcases hk with rfl | ⟨hk, hc⟩
  · have := ScrM.wordsAt_end (bl s) []
    rw [bl_size] at this
    rw [hs, this]
    rfl
  · rw [hs, ScrM.wordsAt_sep (bl_at s k hk) hc]
    rfl

/-- A byte that parts words, or the end; behind a word. -/
theorem WdAt.word {s : ByteArray} {w w' w3 : World} {k : Nat} {v v' : Value} {L : List ByteArray} {y : ByteArray} (h : WdAt s w k v L y w') (hk : k = s.size ∨ ∃ hk : k < s.size, ScrM.isSep s[k] = true) (hy : 0 < y.size) (o : Obj)
    (hr : w3.ownsRow w.heap.size 9 1 v' (L.length + 1) (L.map Value.string ++ [.string y])) (hg : (w'.alloc o).grownBy w3 v.ownBlock) : WdAt s w (k + 1) v' (L ++ [y]) ⟨#[]⟩ w3 := by
  have hy0 : (bl y).isEmpty = false := by
    cases e : bl y with
    | nil => rw [← bl_size, e] at hy; exact absurd hy (by simp)
    | cons a t => rfl
  refine ⟨?_, ?_, (h.low.alloc h.low.size o).grown hg (by simp; have := h.low.size; omega) (fun q hq => (h.own.lt q hq).1), by simp; exact h.len, Nat.zero_le _⟩
  · rw [h.say, List.map_append, List.append_assoc]
    congr 1
    rcases hk with rfl | ⟨hk, hc⟩
    · have := ScrM.wordsAt_end (bl s) (bl y)
      rw [bl_size] at this
      rw [this, hy0]
      rfl
    · rw [ScrM.wordsAt_sep (bl_at s k hk) hc, hy0]
      rfl
  · rw [List.map_append, List.length_append]
    exact hr

theorem WdAt.more {s : ByteArray} {w w' : World} {k : Nat} {v : Value} {L : List ByteArray} {y : ByteArray} (h : WdAt s w k v L y w') (hk : k < s.size) (hc : ScrM.isSep s[k] = false) : WdAt s w (k + 1) v L (y ++ s.extract k (k + 1)) w' := by
  refine ⟨?_, h.own, h.low, Nat.le_succ_of_le h.len, ?_⟩
  · rw [h.say, ScrM.wordsAt_more (bl_at s k hk) hc, bl_append, ext_one s k hk]
  · rw [ByteArray.size_append, ext_size s k hk]
    exact Nat.succ_le_succ h.cur

theorem sep_of (c : UInt8) : ScrM.isSep c = (((c.toNat : Int) == 32) || ((c.toNat : Int) == 9)) := by
  have e1 : ((c.toNat : Int) == 32) = (c == 32) := by
    rw [Bool.eq_iff_iff, beq_iff_eq, beq_iff_eq, ← UInt8.toNat_inj]
    show (c.toNat : Int) = 32 ↔ c.toNat = 32
    omega
  have e2 : ((c.toNat : Int) == 9) = (c == 9) := by
    rw [Bool.eq_iff_iff, beq_iff_eq, beq_iff_eq, ← UInt8.toNat_inj]
    show (c.toNat : Int) = 9 ↔ c.toNat = 9
    omega
  rw [e1, e2]
  rfl

theorem own_start (w : World) : w.ownsRow w.heap.size 9 1 (.slice none 0 0) ([] : List ByteArray).length (([] : List ByteArray).map Value.string) := World.ownsRow_nil _ _ _ _

set_option maxHeartbeats 4000000 in
set_option maxRecDepth 100000 in
theorem rwords_any (s : ByteArray) (hs : s.size ≤ 100000) (w : World) :
    Calls Tryd.prog 27 #[.string s] w (WordsPost s w) := by
  obtain ⟨i0, hi0, hz0, hz1, hz2⟩ := info_parts strInfo
  go_enter Tryd.func27, Tryd.ntmps27
  go_wp2_with fail
  go_loopw [3, 4, 5] (fun out u i w' => ∃ (k : Nat) (L : List ByteArray) (y : ByteArray), k ≤ s.size + 1 ∧ i = .int .i64 k ∧ u = .string y ∧ WdAt s w k out L y w') (fun _ _ i _ => s.size + 1 - (intOf i).toNat)
  case atStart => exact ⟨0, [], ⟨#[]⟩, by omega, rfl, rfl, (ScrM.wordsAt_start (bl s)).symm, own_start w, Below.refl _ _, Nat.le_refl _, Nat.le_refl _⟩
  case round =>
    obtain ⟨k, L, y, hk, rfl, rfl, hat⟩ := hrel
    have HA := Lib.hid hat
    have hyk := hat.cur
    have hLk := hat.len
    obtain ⟨A0, n0, c0, hv0⟩ := own_slice hat.own
    have hn0 := hat.own
    rw [hv0] at hn0
    have hn1 := own_len hn0
    subst hn1
    subst hv0
    clear hat hn0
    by_cases hlt : k ≤ s.size
    · have hle : decide ((k : Int) ≤ (s.size : Int)) = true := decide_eq_true (by omega)
      have hk0 : (0 : Int) ≤ (k : Int) := by omega
      by_cases hsp : k = s.size ∨ ∃ hk : k < s.size, ScrM.isSep s[k] = true
      · have HSP := Lib.hid hsp
        have hsq : k = s.size ∨ (∃ hk : k < s.size, ((s[k].toNat : Int) == 32) = true) ∨ (∃ hk : k < s.size, ((s[k].toNat : Int) == 32) = false ∧ ((s[k].toNat : Int) == 9) = true) := by
          rcases hsp with h | ⟨h, hc⟩
          · exact .inl h
          · rw [sep_of] at hc
            cases h1 : ((s[k].toNat : Int) == 32) with
            | true => exact .inr (.inl ⟨h, h1⟩)
            | false => rw [h1] at hc; exact .inr (.inr ⟨h, h1, hc⟩)
        clear hsp
        by_cases hy : y.size = 0
        · have HN := Lib.hid (HA.out.none HSP.out hy)
          have hy1 : y.toList = [] := by rw [Lib.toList_data]; exact List.eq_nil_of_length_eq_zero (by rw [← Lib.size_eq]; exact hy)
          clear hy HSP
          rcases hsq with hsq | ⟨hks, q1⟩ | ⟨hks, q1, q2⟩
          · have hq : ((k : Int) == (s.size : Int)) = true := by rw [hsq]; simp
            clear hsq
            go_wp2_with fail
            go_roundw
            case rel => exact ⟨k + 1, L, ⟨#[]⟩, by omega, by go_num, rfl, HN.out⟩
            case measure => simp [intOf]; omega
          · have hq : ((k : Int) == (s.size : Int)) = false := beq_eq_false_iff_ne.2 (by omega)
            have hmin : min (k : Int) ((s.size : Int) - 1) = (k : Int) := by omega
            have hk1 : (k : Int) < (s.size : Int) := by omega
            go_wp2_with fail
            go_roundw
            case rel => exact ⟨k + 1, L, ⟨#[]⟩, by omega, by go_num, rfl, HN.out⟩
            case measure => simp [intOf]; omega
          · have hq : ((k : Int) == (s.size : Int)) = false := beq_eq_false_iff_ne.2 (by omega)
            have hmin : min (k : Int) ((s.size : Int) - 1) = (k : Int) := by omega
            have hk1 : (k : Int) < (s.size : Int) := by omega
            go_wp2_with fail
            go_roundw
            case rel => exact ⟨k + 1, L, ⟨#[]⟩, by omega, by go_num, rfl, HN.out⟩
            case measure => simp [intOf]; omega
        · have HN := Lib.hid (fun w3 v' o hr hg => HA.out.word (w3 := w3) (v' := v') HSP.out (by omega) o hr hg)
          have hne : y.toList ≠ [] := by
            rw [Lib.toList_data]
            intro e
            exact hy (by rw [Lib.size_eq, e]; rfl)
          have hy1 : (y.toList == ([] : List UInt8)) = false := beq_eq_false_iff_ne.2 hne
          have hy2 : (!y.toList.isEmpty) = true := by
            cases e : y.toList with
            | nil => exact absurd e hne
            | cons a t => rfl
          clear hy HSP hne
          rcases hsq with hsq | ⟨hks, q1⟩ | ⟨hks, q1, q2⟩
          · have hq : ((k : Int) == (s.size : Int)) = true := by rw [hsq]; simp
            clear hsq
            go_wp2_with (at_builtin; refine wpList_append_own _ rfl _ _ 45 rfl w.heap.size 9 i0 (.string ⟨#[]⟩) 1 16 Tryd.underlying45 hi0 hz0 hz1 hz2 rfl (by omega) _ _ _ rfl (HA.out.own.alloc _) _ 1 1 [.string y] rfl rfl ?c1 ?c2 ?c3 ?c4 ?c5 ?_)
            case c1 => exact World.news_of_block (heap_alloc_new _ _)
            case c2 => simp [Value.oneCell']
            case c3 => unfold maxLen; omega
            case c4 => omega
            case c5 => have := HA.out.low.size; simp; omega
            intro v' w3 hown' hgrow _
            have HN3 := Lib.hid (HN.out w3 v' _ hown' hgrow)
            clear hown' hgrow
            go_wp2_with fail
            go_roundw
            case rel => exact ⟨k + 1, L ++ [y], ⟨#[]⟩, by omega, by go_num, rfl, HN3.out⟩
            case measure => simp [intOf]; omega
          · have hq : ((k : Int) == (s.size : Int)) = false := beq_eq_false_iff_ne.2 (by omega)
            have hmin : min (k : Int) ((s.size : Int) - 1) = (k : Int) := by omega
            have hk1 : (k : Int) < (s.size : Int) := by omega
            go_wp2_with (at_builtin; refine wpList_append_own _ rfl _ _ 45 rfl w.heap.size 9 i0 (.string ⟨#[]⟩) 1 16 Tryd.underlying45 hi0 hz0 hz1 hz2 rfl (by omega) _ _ _ rfl (HA.out.own.alloc _) _ 1 1 [.string y] rfl rfl ?c1 ?c2 ?c3 ?c4 ?c5 ?_)
            case c1 => exact World.news_of_block (heap_alloc_new _ _)
            case c2 => simp [Value.oneCell']
            case c3 => unfold maxLen; omega
            case c4 => omega
            case c5 => have := HA.out.low.size; simp; omega
            intro v' w3 hown' hgrow _
            have HN3 := Lib.hid (HN.out w3 v' _ hown' hgrow)
            clear hown' hgrow
            go_wp2_with fail
            go_roundw
            case rel => exact ⟨k + 1, L ++ [y], ⟨#[]⟩, by omega, by go_num, rfl, HN3.out⟩
            case measure => simp [intOf]; omega
          · have hq : ((k : Int) == (s.size : Int)) = false := beq_eq_false_iff_ne.2 (by omega)
            have hmin : min (k : Int) ((s.size : Int) - 1) = (k : Int) := by omega
            have hk1 : (k : Int) < (s.size : Int) := by omega
            go_wp2_with (at_builtin; refine wpList_append_own _ rfl _ _ 45 rfl w.heap.size 9 i0 (.string ⟨#[]⟩) 1 16 Tryd.underlying45 hi0 hz0 hz1 hz2 rfl (by omega) _ _ _ rfl (HA.out.own.alloc _) _ 1 1 [.string y] rfl rfl ?c1 ?c2 ?c3 ?c4 ?c5 ?_)
            case c1 => exact World.news_of_block (heap_alloc_new _ _)
            case c2 => simp [Value.oneCell']
            case c3 => unfold maxLen; omega
            case c4 => omega
            case c5 => have := HA.out.low.size; simp; omega
            intro v' w3 hown' hgrow _
            have HN3 := Lib.hid (HN.out w3 v' _ hown' hgrow)
            clear hown' hgrow
            go_wp2_with fail
            go_roundw
            case rel => exact ⟨k + 1, L ++ [y], ⟨#[]⟩, by omega, by go_num, rfl, HN3.out⟩
            case measure => simp [intOf]; omega
      · have hcs : ∃ hk : k < s.size, ScrM.isSep s[k] = false := by
          have hks : k < s.size := by
            rcases Nat.lt_or_ge k s.size with h | h
            · exact h
            · exact absurd (.inl (by omega)) hsp
          refine ⟨hks, ?_⟩
          cases hb : ScrM.isSep s[k] with
          | false => rfl
          | true => exact absurd (.inr ⟨hks, hb⟩) hsp
        obtain ⟨hks, hc⟩ := hcs
        have HN := Lib.hid (HA.out.more hks hc)
        have hq12 : ((s[k].toNat : Int) == 32) = false ∧ ((s[k].toNat : Int) == 9) = false := by
          rw [sep_of, Bool.or_eq_false_iff] at hc
          exact hc
        obtain ⟨q1, q2⟩ := hq12
        clear hsp hc
        have hq : ((k : Int) == (s.size : Int)) = false := beq_eq_false_iff_ne.2 (by omega)
        have hmin : min (k : Int) ((s.size : Int) - 1) = (k : Int) := by omega
        have hk1 : (k : Int) < (s.size : Int) := by omega
        have hes := ext_size s k hks
        go_wp2_with fail
        go_roundw
        case rel => exact ⟨k + 1, L, _, by omega, by go_num, rfl, HN.out⟩
        case measure => simp [intOf]; omega
    · have hle : decide ((k : Int) ≤ (s.size : Int)) = false := decide_eq_false (by omega)
      have HF := Lib.hid (HA.out.fin (by omega))
      go_wp2_with fail
      go_ret
      exact HF.out

end Go.Proofs.YtnanhebepjdlcabDoor
