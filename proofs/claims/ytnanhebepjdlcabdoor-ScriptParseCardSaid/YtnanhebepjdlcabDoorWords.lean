/- Lines and words as the library cuts them: strings.Split at 10, strings.FieldsFunc at 32 and 9. No program in sight. -/
import Derived.Lib.FieldsP
import Derived.Lib.SpaceUEq
import Derived.Lib.SplitLaws
import Derived.Test.YtnanhebepjdlcabDoorModel
namespace ScrM
open Go Go.Lib

def sepR (r : Nat) : Bool := r == 32 || r == 9

theorem sepR_false {r : Nat} (h : 128 ≤ r) : sepR r = false := by
  have h1 : (r == 32) = false := beq_eq_false_iff_ne.2 (by omega)
  have h2 : (r == 9) = false := beq_eq_false_iff_ne.2 (by omega)
  rw [sepR, h1, h2]
  rfl

theorem isSep_false {c : UInt8} (h : 128 ≤ c.toNat) : isSep c = false := by
  have h1 : (c == 32) = false := beq_eq_false_iff_ne.2 (fun e => by rw [e] at h; revert h; decide)
  have h2 : (c == 9) = false := beq_eq_false_iff_ne.2 (fun e => by rw [e] at h; revert h; decide)
  rw [isSep, h1, h2]
  rfl

theorem dropAt {l : List UInt8} {k : Nat} {x : UInt8} (h : l[k]? = some x) : l.drop k = x :: l.drop (k + 1) := by
  obtain ⟨hk, e⟩ := List.getElem?_eq_some_iff.1 h
  rw [List.drop_eq_getElem_cons hk, e]

set_option maxRecDepth 100000 in
theorem sepR_byte : ∀ c : UInt8, sepR c.toNat = isSep c := by
  have h : ∀ i : Fin 256, sepR i.val = isSep (UInt8.ofNat i.val) := by decide
  intro c
  have := h ⟨c.toNat, c.toNat_lt⟩
  simpa using this

/-- What the decoder finds at a place: a separator of one byte, or bytes among which there is none. -/
theorem decode_sep (s : ByteArray) (pos : Nat) (h : pos < s.size) :
    (sepR (Utf8.decode s pos).1 = true ∧ (Utf8.decode s pos).2 = 1 ∧ ∃ c, s.data.toList.drop pos = c :: s.data.toList.drop (pos + 1) ∧ isSep c = true) ∨
    (sepR (Utf8.decode s pos).1 = false ∧ ∀ c ∈ (s.data.toList.drop pos).take (Utf8.decode s pos).2, isSep c = false) := by
  have hl : pos < s.data.toList.length := by rw [← size_eq]; exact h
  have hat : s.data.toList[pos]? = some (s.data.toList.getD pos 0) := by
    rw [List.getD_eq_getElem?_getD, List.getElem?_eq_getElem hl]
    rfl
  have hd := dropAt hat
  rw [decode_N]
  generalize hc : s.data.toList.getD pos 0 = c at hd ⊢
  generalize hb1 : s.data.toList.getD (pos + 1) 0 = c1
  generalize hb2 : s.data.toList.getD (pos + 2) 0 = c2
  generalize hb3 : s.data.toList.getD (pos + 3) 0 = c3
  generalize hn : s.data.toList.length - pos = n
  by_cases h0 : c.toNat < 128
  · have e : decodeN n c.toNat c1.toNat c2.toNat c3.toNat = (c.toNat, 1) := by rw [decodeN, if_pos h0]
    rw [e]
    have hb : sepR (c.toNat, 1).1 = isSep c := sepR_byte c
    rw [hb]
    cases hs : isSep c with
    | true => exact .inl ⟨rfl, rfl, c, hd, hs⟩
    | false =>
      refine .inr ⟨rfl, fun x hx => ?_⟩
      rw [hd] at hx
      simp at hx
      rw [hx]; exact hs
  · have hr : 128 ≤ (decodeN n c.toNat c1.toNat c2.toNat c3.toNat).1 := by
      rcases decodeN_cases n c.toNat c1.toNat c2.toNat c3.toNat with h1 | ⟨_, _, _, h2, h3⟩ | ⟨_, _, _, _, h2, h3⟩ | ⟨h2, _⟩ | h3
      · omega
      · rw [h3]; exact h2
      · rw [h3]; simp only; omega
      · omega
      · rw [h3]; simp only; omega
    obtain ⟨g1, g2, g3, g4⟩ := decodeN_conts n c.toNat c1.toNat c2.toNat c3.toNat
    refine .inr ⟨sepR_false hr, fun x hx => isSep_false ?_⟩
    obtain ⟨j, hj, hxj⟩ := List.mem_take_iff_getElem.1 hx
    rw [List.length_drop] at hj
    have hxj' : s.data.toList.getD (pos + j) 0 = x := by
      rw [← hxj, List.getElem_drop, List.getD_eq_getElem?_getD, List.getElem?_eq_getElem (show pos + j < s.data.toList.length by omega)]
      rfl
    have hjw : j < (decodeN n c.toNat c1.toNat c2.toNat c3.toNat).2 := by omega
    have hj4 : j = 0 ∨ j = 1 ∨ j = 2 ∨ j = 3 := by omega
    rcases hj4 with rfl | rfl | rfl | rfl
    · rw [Nat.add_zero, hc] at hxj'; subst hxj'; omega
    · rw [hb1] at hxj'; subst hxj'; have := (g1 (by omega)).1; omega
    · rw [hb2] at hxj'; subst hxj'; have := (g2 (by omega)).1; omega
    · rw [hb3] at hxj'; subst hxj'; have := (g3 (by omega)).1; omega

theorem wordsA_end (cur : List UInt8) : wordsA cur [] = if cur.isEmpty then [] else [cur] := rfl

/-- The pass over the runes gives the words. -/
theorem spans_words (s : ByteArray) : ∀ (f pos : Nat) (st : Option Nat) (acc : List (Nat × Nat)), s.size ≤ pos + f → pos ≤ s.size → (∀ a, st = some a → a < pos) →
    (closeSpans s (spansFromP sepR s f pos st acc)).map (fun p => pieceU s.data.toList p.1 p.2) = acc.map (fun p => pieceU s.data.toList p.1 p.2) ++ wordsA (openPiece s.data.toList st pos) (s.data.toList.drop pos) := by
  have hend : ∀ (st : Option Nat) (acc : List (Nat × Nat)), (∀ a, st = some a → a < s.size) → (closeSpans s (acc, st)).map (fun p => pieceU s.data.toList p.1 p.2) = acc.map (fun p => pieceU s.data.toList p.1 p.2) ++ wordsA (openPiece s.data.toList st s.size) (s.data.toList.drop s.size) := by
    intro st acc hst
    have hd : s.data.toList.drop s.size = [] := List.drop_eq_nil_of_le (by rw [← size_eq]; exact Nat.le_refl _)
    rw [hd, wordsA_end]
    cases st with
    | none => simp [closeSpans, openPiece]
    | some a =>
      have := pieceU_ne s.data.toList a s.size (hst a rfl) (by rw [← size_eq]; exact Nat.le_refl _)
      simp [closeSpans, openPiece, this]
  intro f
  induction f with
  | zero =>
    intro pos st acc h hp hst
    obtain rfl : pos = s.size := by omega
    exact hend st acc hst
  | succ f ih =>
    intro pos st acc h hp hst
    by_cases hlt : pos < s.size
    · have hw := width_pos s pos
      have hwn : pos + (Utf8.decode s pos).2 ≤ s.size := by
        have := decodeN_le_n' (s.size - pos) (s.get! pos).toNat (s.get! (pos + 1)).toNat (s.get! (pos + 2)).toNat (s.get! (pos + 3)).toNat (by omega)
        rw [← decode_at] at this
        omega
      have hstep : spansFromP sepR s (f + 1) pos st acc = if sepR (Utf8.decode s pos).1 then
          (match st with
           | some a => spansFromP sepR s f (pos + (Utf8.decode s pos).2) none (acc ++ [(a, pos)])
           | none => spansFromP sepR s f (pos + (Utf8.decode s pos).2) none acc)
         else
          (match st with
           | some a => spansFromP sepR s f (pos + (Utf8.decode s pos).2) (some a) acc
           | none => spansFromP sepR s f (pos + (Utf8.decode s pos).2) (some pos) acc) := by
        show (if pos < s.size then _ else _) = _
        rw [if_pos hlt]
        cases st <;> rfl
      rw [hstep]
      rcases decode_sep s pos hlt with ⟨h1, h2, c, h3, h4⟩ | ⟨h1, h2⟩
      · rw [if_pos h1, h3, wordsA, if_pos h4]
        rw [h2] at hwn ⊢
        cases st with
        | none =>
          simp only
          rw [ih (pos + 1) none acc (by omega) hwn (fun a h => by cases h)]
          simp [openPiece]
        | some a =>
          have hpn := pieceU_ne s.data.toList a pos (hst a rfl) (by rw [← size_eq]; omega)
          simp only
          rw [ih (pos + 1) none (acc ++ [(a, pos)]) (by omega) hwn (fun a h => by cases h)]
          simp [openPiece, hpn]
      · rw [if_neg (by rw [h1]; simp)]
        have hsplit : wordsA (openPiece s.data.toList st pos) (s.data.toList.drop pos) = wordsA (openPiece s.data.toList st pos ++ (s.data.toList.drop pos).take (Utf8.decode s pos).2) (s.data.toList.drop (pos + (Utf8.decode s pos).2)) := by
          rw [← List.drop_drop]
          conv => lhs; rw [← List.take_append_drop (Utf8.decode s pos).2 (s.data.toList.drop pos)]
          exact wordsA_run _ _ _ h2
        rw [hsplit]
        cases st with
        | none =>
          simp only
          rw [ih (pos + (Utf8.decode s pos).2) (some pos) acc (by omega) hwn (fun a h => by cases h; omega)]
          have e : ([] : List UInt8) ++ (s.data.toList.drop pos).take (Utf8.decode s pos).2 = pieceU s.data.toList pos (pos + (Utf8.decode s pos).2) := by
            unfold pieceU
            rw [List.nil_append, Nat.add_sub_cancel_left]
          simp only [openPiece]
          rw [e]
        | some a =>
          simp only
          rw [ih (pos + (Utf8.decode s pos).2) (some a) acc (by omega) hwn (fun b h => by cases h; have := hst a rfl; omega)]
          simp only [openPiece]
          rw [pieceU_grow _ _ _ _ (Nat.le_of_lt (hst a rfl))]
    · obtain rfl : pos = s.size := by omega
      rw [spansFromP_end sepR s _ _ _ _ hlt]
      exact hend st acc hst

/-- strings.FieldsFunc at 32 and 9 gives the words. -/
theorem fields_words (s : ByteArray) : (goFieldsP sepR s).map (·.data.toList) = words s.data.toList := by
  have h := spans_words s s.size 0 none [] (by omega) (Nat.zero_le _) (fun a h => by cases h)
  simp only [List.map_nil, List.nil_append, openPiece, List.drop_zero] at h
  unfold goFieldsP spansOfP words
  rw [← h, List.map_map]
  congr 1
  funext p
  simp [pieceU]

theorem lines_none : ∀ {l : List UInt8}, index l [10] = -1 → lines l = [l]
  | l, h => lines_one l fun c hc e => by
    subst e
    obtain ⟨i, hi⟩ := List.mem_iff_getElem?.1 hc
    rcases index_spec l [10] with ⟨_, hno⟩ | ⟨j, hj, _⟩
    · have hil : i < l.length := (List.getElem?_eq_some_iff.1 hi).1
      have := hno i (by omega)
      have hd : l.drop i = 10 :: l.drop (i + 1) := dropAt hi
      rw [occAt, hd] at this
      simp [List.isPrefixOf] at this
    · omega

theorem split_lines : ∀ (k : Nat) (l : List UInt8), count l [10] = k → splitK [10] 0 k l = lines l
  | 0, l, hk => by
    rcases index_spec l [10] with ⟨hm, _⟩ | ⟨j, hj, _⟩
    · rw [lines_none hm]; rfl
    · have := count_hit (s := l) (sub := [10]) (by simp) hj
      omega
  | k + 1, l, hk => by
    rcases index_spec l [10] with ⟨hm, _⟩ | ⟨j, hj, hjl, ho, hno⟩
    · rw [count_miss hm] at hk; omega
    · have hc := count_hit (s := l) (sub := [10]) (by simp) hj
      have ih := split_lines k (l.drop (j + 1)) (by simp only [List.length_cons, List.length_nil] at hc; simp only [Nat.zero_add] at hc; omega)
      rw [splitK, if_neg (by rw [hj]; simp), hj]
      have hjt : ((j : Nat) : Int).toNat = j := by simp
      rw [hjt, show [(10 : UInt8)].length = 1 from rfl, Nat.add_zero, ih]
      have hj10 : l[j]? = some 10 := by
        rw [occAt] at ho
        cases hd : l.drop j with
        | nil => rw [hd] at ho; simp [List.isPrefixOf] at ho
        | cons c t =>
          rw [hd] at ho
          have : (10 : UInt8) = c := by simpa [List.isPrefixOf] using ho
          subst this
          have := congrArg (·[0]?) hd
          simpa [List.getElem?_drop] using this
      have hsp : l = l.take j ++ 10 :: l.drop (j + 1) := by
        conv => lhs; rw [← List.take_append_drop j l, dropAt hj10]
      conv => rhs; rw [hsp]
      rw [lines_join, lines_one (l.take j)]
      · rfl
      · intro c hc e
        subst e
        obtain ⟨i, hi, hil⟩ := List.mem_take_iff_getElem.1 hc
        have := hno i (by omega)
        have hd : l.drop i = 10 :: l.drop (i + 1) := dropAt (by rw [List.getElem?_eq_getElem (by omega)]; rw [hil])
        rw [occAt, hd] at this
        simp [List.isPrefixOf] at this

def nlB : ByteArray := ⟨#[10]⟩

/-- strings.Split at a newline gives the lines. -/
theorem splitB_lines (s : ByteArray) : (splitB nlB 0 (countB s nlB) s).map (·.data.toList) = lines s.data.toList := by
  rw [splitB_data]
  exact split_lines _ _ rfl

end ScrM
