/- The plain laws of the scanner: offsets, joining, showing. -/
import Derived.Test.YtnanhebepjdlcaaDoorModel
namespace LexM

theorem span_append (p : UInt8 → Bool) (c : UInt8) (r : List UInt8) (hc : p c = false) : ∀ s : List UInt8, span p (s ++ c :: r) = span p s
  | [] => by simp [span, hc]
  | d :: s => by
    have := span_append p c r hc s
    simp only [List.cons_append, span, this]

theorem span_take_all (p : UInt8 → Bool) : ∀ s : List UInt8, ∀ x ∈ s.take (span p s), p x = true
  | [] => by simp
  | c :: s => by
    intro x hx
    unfold span at hx
    split at hx
    · rename_i h
      rw [List.take_succ_cons] at hx
      rcases List.mem_cons.1 hx with rfl | hx
      · exact h
      · exact span_take_all p s x hx
    · simp at hx

theorem span_all (p : UInt8 → Bool) : ∀ s : List UInt8, (∀ x ∈ s, p x = true) → span p s = s.length
  | [], _ => rfl
  | c :: s, h => by
    simp only [span, h c (by simp), if_true, List.length_cons]
    rw [span_all p s fun x hx => h x (by simp [hx])]

theorem span_lt_head (p : UInt8 → Bool) : ∀ s : List UInt8, headIs p (s.drop (span p s)) = false
  | [] => by simp [span, headIs]
  | c :: s => by
    unfold span
    split
    · rw [List.drop_succ_cons]; exact span_lt_head p s
    · rename_i h; simpa [headIs] using h

theorem span_take (p : UInt8 → Bool) : ∀ (s : List UInt8), span p (s.take (span p s)) = span p s
  | [] => by simp [span]
  | c :: s => by
    by_cases h : p c = true
    · simp [span, h, span_take p s]
    · simp [span, h]

theorem isBlank_iff (c : UInt8) : isBlank c = true ↔ c.toNat = 32 ∨ c.toNat = 9 ∨ c.toNat = 10 := by
  simp [isBlank, or_assoc]

theorem blank_not_within {c : UInt8} (h : isBlank c = true) : isWithin c = false := by
  rw [isBlank_iff] at h
  simp only [isWithin, isLetter, isDigit, Bool.or_eq_false_iff, Bool.and_eq_false_iff, decide_eq_false_iff_not, beq_eq_false_iff_ne]
  omega
theorem blank_not_letter {c : UInt8} (h : isBlank c = true) : isLetter c = false := by
  have := blank_not_within h
  simp only [isWithin, Bool.or_eq_false_iff] at this
  exact this.1.1
theorem blank_not_digit {c : UInt8} (h : isBlank c = true) : isDigit c = false := by
  have := blank_not_within h
  simp only [isWithin, Bool.or_eq_false_iff] at this
  exact this.1.2
theorem blank_not_one {c : UInt8} (h : isBlank c = true) : one c = false := by
  rw [isBlank_iff] at h
  simp only [one, Bool.or_eq_false_iff, beq_eq_false_iff_ne]
  omega
theorem blank_not_two {c d : UInt8} (h : isBlank d = true) : two c d = false := by
  rw [isBlank_iff] at h
  simp only [two, Bool.or_eq_false_iff, Bool.and_eq_false_iff, beq_eq_false_iff_ne]
  omega

theorem headIs_append (p : UInt8 → Bool) {s r : List UInt8} (hs : s ≠ []) : headIs p (s ++ r) = headIs p s := by
  cases s with
  | nil => exact absurd rfl hs
  | cons c s => rfl

theorem sign_append {s r : List UInt8} {c : UInt8} (hc : isBlank c = true) (hs : s ≠ []) : sign (s ++ c :: r) = sign s := by
  cases s with
  | nil => exact absurd rfl hs
  | cons a s =>
    cases s with
    | nil => simp [sign, blank_not_two hc]
    | cons b s => simp [sign]

theorem headIs_drop_append (p : UInt8 → Bool) {c : UInt8} (hc : p c = false) (s r : List UInt8) (k : Nat) (hk : k ≤ s.length) :
    headIs p ((s ++ c :: r).drop k) = headIs p (s.drop k) := by
  rw [List.drop_append_of_le_length hk]
  cases h : s.drop k with
  | nil => simp [headIs, hc]
  | cons d t => rfl

/-- What follows behind a blank does not change a token. -/
theorem tokAt_append {s r : List UInt8} {c : UInt8} (hc : isBlank c = true) (hs : s ≠ []) : tokAt (s ++ c :: r) = tokAt s := by
  unfold tokAt
  rw [headIs_append _ hs, headIs_append _ hs, span_append _ c r (blank_not_within hc), span_append _ c r (blank_not_digit hc), sign_append hc hs,
    List.take_append_of_le_length (span_le _ _)]
  have hw : ∀ w : List UInt8, numOk w ((s ++ c :: r).drop (span isDigit s)) = numOk w (s.drop (span isDigit s)) := fun w => by
    unfold numOk
    rw [headIs_drop_append _ (blank_not_within hc) s r _ (span_le _ _)]
  rw [hw]

theorem headIs_take {p : UInt8 → Bool} {s : List UInt8} {k : Nat} (hk : 0 < k) : headIs p (s.take k) = headIs p s := by
  cases k with
  | zero => omega
  | succ k => cases s <;> rfl

theorem sign_take {s : List UInt8} (h : sign s ≠ 0) : sign (s.take (sign s)) = sign s := by
  cases s with
  | nil => rfl
  | cons a s =>
    cases s with
    | nil =>
      simp only [sign] at h ⊢
      split <;> simp_all
    | cons b s =>
      simp only [sign] at h ⊢
      by_cases h2 : two a b = true
      · simp [h2]
      · simp only [h2] at h ⊢
        by_cases h1 : one a = true
        · simp [h1]
        · simp [h1] at h

/-- A token taken alone is that token. -/
theorem tokAt_take {s : List UInt8} {k : Nat} {kd n : Int} (h : tokAt s = some (k, kd, n)) : tokAt (s.take k) = some (k, kd, n) := by
  have hk := (tokAt_pos h).1
  unfold tokAt at h ⊢
  rw [headIs_take hk, headIs_take hk]
  split at h
  · rename_i hl
    split at h <;> simp at h
    obtain ⟨rfl, rfl, rfl⟩ := h
    rename_i h12
    rw [if_pos hl, span_take, if_pos h12]
  · rename_i hl
    rw [if_neg hl]
    split at h
    · rename_i hd
      split at h <;> simp at h
      obtain ⟨rfl, rfl, rfl⟩ := h
      rename_i hn
      rw [if_pos hd, span_take, List.take_take, Nat.min_self, if_pos]
      unfold numOk at hn ⊢
      rw [show (s.take (span isDigit s)).drop (span isDigit s) = [] by simp]
      simp only [Bool.and_eq_true] at hn ⊢
      exact ⟨hn.1, rfl⟩
    · rename_i hd
      rw [if_neg hd]
      split at h <;> simp at h
      obtain ⟨rfl, rfl, rfl⟩ := h
      rename_i h0
      rw [sign_take h0, if_neg h0]

theorem skip_of_head {s : List UInt8} (h : headIs isBlank s = false) : span isBlank s = 0 ∧ skip s = s := by
  have h0 : span isBlank s = 0 := by
    cases s with
    | nil => rfl
    | cons c s => simp only [headIs] at h; simp [span, h]
  exact ⟨h0, by simp [skip, h0]⟩

/-! ### Offsets -/

/-- l covers s, which lies at pos: each token at its place, blanks between. -/
def Covers : Nat → List UInt8 → List Tk → Prop
  | _, s, [] => ∀ x ∈ s, isBlank x = true
  | pos, s, t :: l => ∃ b, t.pos = pos + b ∧ (∀ x ∈ s.take b, isBlank x = true) ∧ 0 < t.text.length ∧ b + t.text.length ≤ s.length ∧
      t.text = (s.drop b).take t.text.length ∧ Covers (pos + b + t.text.length) (s.drop (b + t.text.length)) l

theorem scan_covers : ∀ (f pos : Nat) (s : List UInt8) (l : List Tk), s.length < f → scan f pos s = some l → Covers pos s l := by
  intro f
  induction f with
  | zero => intro pos s l h; omega
  | succ f ih =>
    intro pos s l hf h
    simp only [scan] at h
    split at h
    · rename_i h0
      simp at h
      subst h
      show ∀ x ∈ s, isBlank x = true
      intro x hx
      have := span_take_all isBlank s x
      have hl : s.length ≤ span isBlank s := by simpa [skip] using h0
      rw [List.take_of_length_le hl] at this
      exact this hx
    · cases ht : tokAt (skip s) with
      | none => simp [ht] at h
      | some x =>
        obtain ⟨k, kd, n⟩ := x
        simp only [ht] at h
        obtain ⟨hk0, hk1⟩ := tokAt_pos ht
        have hs := skip_length s
        have hsp := span_le isBlank s
        cases hr : scan f (pos + span isBlank s + k) ((skip s).drop k) with
        | none => simp [hr] at h
        | some m =>
          simp only [hr, Option.some.injEq] at h
          subst h
          have hlen : ((skip s).take k).length = k := by simp; omega
          refine ⟨span isBlank s, rfl, span_take_all _ _, by simp only [hlen]; exact hk0, by simp only [hlen]; omega, by simp only [hlen]; rfl, ?_⟩
          simp only [hlen]
          have := ih _ _ _ (by simp; omega) hr
          rw [skip, List.drop_drop] at this
          exact this

/-! ### Two texts joined by a blank -/

def shift (d : Nat) (l : List Tk) : List Tk := l.map fun t => { t with pos := t.pos + d }

theorem scan_shift (d : Nat) : ∀ (f pos : Nat) (s : List UInt8), scan f (pos + d) s = (scan f pos s).map (shift d) := by
  intro f
  induction f with
  | zero => intro pos s; rfl
  | succ f ih =>
    intro pos s
    simp only [scan]
    split
    · rfl
    · cases ht : tokAt (skip s) with
      | none => rfl
      | some x =>
        obtain ⟨k, kd, n⟩ := x
        simp only
        rw [show pos + d + span isBlank s + k = pos + span isBlank s + k + d by omega, ih]
        cases scan f (pos + span isBlank s + k) ((skip s).drop k) with
        | none => rfl
        | some m => simp [shift]; omega

def both (a b : Option (List Tk)) : Option (List Tk) :=
  match a with
  | none => none
  | some l => match b with
    | none => none
    | some m => some (l ++ m)

theorem skip_blank_append {c : UInt8} (hc : isBlank c = true) (r : List UInt8) : ∀ s : List UInt8, skip s = [] → span isBlank (s ++ c :: r) = s.length + 1 + span isBlank r
  | [], _ => by simp [span, hc]; omega
  | d :: s, h => by
    have hd : isBlank d = true := by
      cases hd : isBlank d with
      | true => rfl
      | false => simp [skip, span, hd] at h
    have hs : skip s = [] := by simpa [skip, span, hd] using h
    have := skip_blank_append hc r s hs
    simp only [List.cons_append, span, hd, if_true, this, List.length_cons]
    omega

theorem span_skip_append {c : UInt8} (r : List UInt8) : ∀ s : List UInt8, skip s ≠ [] → span isBlank (s ++ c :: r) = span isBlank s ∧ skip (s ++ c :: r) = skip s ++ c :: r
  | [], h => absurd rfl h
  | d :: s, h => by
    by_cases hd : isBlank d = true
    · have hs : skip s ≠ [] := by simpa [skip, span, hd] using h
      obtain ⟨h1, h2⟩ := span_skip_append (c := c) r s hs
      simp only [skip] at h2
      refine ⟨by simp [span, hd, h1], ?_⟩
      simp only [skip, List.cons_append, span, hd, if_true, List.drop_succ_cons]
      exact h2
    · simp [skip, span, hd]

theorem scan_joined {c : UInt8} (hc : isBlank c = true) (r : List UInt8) : ∀ (f g pos : Nat) (s : List UInt8), s.length < f → s.length + 1 + r.length < g →
    scan g pos (s ++ c :: r) = both (scan f pos s) (scan (r.length + 1) (pos + s.length + 1) r) := by
  intro f
  induction f with
  | zero => intro g pos s h; omega
  | succ f ih =>
    intro g pos s hf hg
    cases g with
    | zero => omega
    | succ g =>
      by_cases h0 : skip s = []
      · have h1 := skip_blank_append hc r s h0
        have h2 : skip (s ++ c :: r) = skip r := by
          simp only [skip, h1]
          rw [List.drop_append]
          have h3 : List.drop (s.length + 1 + span isBlank r) s = [] := by simp; omega
          rw [h3, show s.length + 1 + span isBlank r - s.length = span isBlank r + 1 by omega]
          simp
        have e1 : scan (f + 1) pos s = some [] := by simp [scan, h0]
        rw [e1]
        simp only [both]
        have hb : ∀ x : Option (List Tk), (match x with | none => none | some m => some ([] ++ m)) = x := fun x => by cases x <;> rfl
        rw [hb, scan_fuel (r.length + 1) (g + 1) (pos + s.length + 1) r (by omega) (by omega)]
        simp only [scan, h1, h2]
        rw [show pos + (s.length + 1 + span isBlank r) = pos + s.length + 1 + span isBlank r by omega]
      · obtain ⟨h1, h2⟩ := span_skip_append (c := c) r s h0
        have h3 : skip s ++ c :: r ≠ [] := by simp
        generalize hB : scan (r.length + 1) (pos + s.length + 1) r = B
        simp only [scan, h1, h2, if_neg h0, if_neg h3, tokAt_append hc h0]
        cases ht : tokAt (skip s) with
        | none => rfl
        | some x =>
          obtain ⟨k, kd, n⟩ := x
          obtain ⟨hk0, hk1⟩ := tokAt_pos ht
          have hsl := skip_length s
          have hsp := span_le isBlank s
          simp only
          rw [List.drop_append_of_le_length hk1, List.take_append_of_le_length hk1, ih g _ _ (by simp; omega) (by simp; omega)]
          rw [show pos + span isBlank s + k + ((skip s).drop k).length + 1 = pos + s.length + 1 by simp; omega, hB]
          cases scan f (pos + span isBlank s + k) ((skip s).drop k) with
          | none => rfl
          | some l =>
            simp only [both]
            cases B with
            | none => rfl
            | some m => rfl

theorem lex_joined {c : UInt8} (hc : isBlank c = true) (a b : List UInt8) : lex (a ++ c :: b) = both (lex a) ((lex b).map (shift (a.length + 1))) := by
  have := scan_joined hc b (a.length + 1) ((a ++ c :: b).length + 1) 0 a (by omega) (by simp; omega)
  rw [lex, this, lex, lex, ← scan_shift]
  rw [show 0 + a.length + 1 = 0 + (a.length + 1) by omega]

/-! ### Showing -/

theorem blank32 : isBlank 32 = true := by decide

/-- What a scan yields can be shown and scanned again. -/
inductive Fine : Tk → Prop
  | mk {s : List UInt8} {k : Nat} {kd n : Int} {pos : Nat} (h : tokAt s = some (k, kd, n)) (hh : headIs isBlank s = false) : Fine { kind := kd, text := s.take k, n := n, pos := pos }

theorem scan_fine : ∀ (f pos : Nat) (s : List UInt8) (l : List Tk), scan f pos s = some l → ∀ t ∈ l, Fine t := by
  intro f
  induction f with
  | zero => intro pos s l h; simp [scan] at h; subst h; simp
  | succ f ih =>
    intro pos s l h
    simp only [scan] at h
    split at h
    · simp at h; subst h; simp
    · cases ht : tokAt (skip s) with
      | none => simp [ht] at h
      | some x =>
        obtain ⟨k, kd, n⟩ := x
        simp only [ht] at h
        cases hr : scan f (pos + span isBlank s + k) ((skip s).drop k) with
        | none => simp [hr] at h
        | some m =>
          simp only [hr, Option.some.injEq] at h
          subst h
          intro t htm
          rcases List.mem_cons.1 htm with rfl | htm
          · exact .mk ht (span_lt_head _ _)
          · exact ih _ _ _ hr t htm

def Alike : List Tk → List Tk → Prop
  | [], [] => True
  | a :: l, b :: m => a.kind = b.kind ∧ a.text = b.text ∧ a.n = b.n ∧ Alike l m
  | _, _ => False

theorem fine_ne {t : Tk} (h : Fine t) : 0 < t.text.length := by
  cases h with
  | mk h hh =>
    have := tokAt_pos h
    simp
    omega

theorem fine_scan {t : Tk} (h : Fine t) (f pos : Nat) (hf : 1 < f) : ∃ q, scan f pos t.text = some [{ t with pos := q }] := by
  cases h with
  | @mk s k kd n p h hh =>
    obtain ⟨h0, h1⟩ := tokAt_pos h
    obtain ⟨e1, e2⟩ := skip_of_head (s := s.take k) (by rw [headIs_take h0]; exact hh)
    have hne : s.take k ≠ [] := by
      intro e
      have := congrArg List.length e
      simp only [List.length_take, List.length_nil] at this
      omega
    match f, hf with
    | f + 2, _ =>
      refine ⟨pos, ?_⟩
      simp only
      rw [scan, e2, if_neg hne, tokAt_take h]
      simp only
      have hd : (s.take k).drop k = [] := by simp
      rw [hd]
      simp [scan, skip, span, e1, List.take_take]

theorem show_scan : ∀ (l : List Tk), (∀ t ∈ l, Fine t) → ∃ m, lex (showT l) = some m ∧ Alike l m := by
  intro l
  induction l with
  | nil => intro _; exact ⟨[], by simp [showT, joinSp, lex, scan, skip, span], trivial⟩
  | cons t l ih =>
    intro h
    obtain ⟨m, hm, ha⟩ := ih fun x hx => h x (by simp [hx])
    have ht := h t (by simp)
    cases l with
    | nil =>
      have hlen : 1 < t.text.length + 1 := by
        have := fine_ne ht
        omega
      obtain ⟨q, hq⟩ := fine_scan ht (t.text.length + 1) 0 hlen
      exact ⟨[{ t with pos := q }], by simpa [showT, joinSp, lex] using hq, rfl, rfl, rfl, trivial⟩
    | cons u l =>
      have hlen : 1 < t.text.length + 1 := by
        have := fine_ne ht
        omega
      obtain ⟨q, hq⟩ := fine_scan ht (t.text.length + 1) 0 hlen
      have e : showT (t :: u :: l) = t.text ++ 32 :: showT (u :: l) := rfl
      rw [e, lex_joined blank32, hm]
      have hq' : lex t.text = some [{ t with pos := q }] := hq
      rw [hq']
      simp only [both, Option.map_some]
      refine ⟨_, rfl, rfl, rfl, rfl, ?_⟩
      have hs : ∀ (d : Nat) (a b : List Tk), Alike a b → Alike a (shift d b) := by
        intro d a
        induction a with
        | nil => intro b h; cases b with
          | nil => trivial
          | cons _ _ => exact h
        | cons x a iha => intro b h; cases b with
          | nil => exact h
          | cons y b => exact ⟨h.1, h.2.1, h.2.2.1, iha b h.2.2.2⟩
      exact hs _ _ _ ha

theorem alike_text : ∀ (l m : List Tk), Alike l m → l.map (·.text) = m.map (·.text)
  | [], [], _ => rfl
  | [], _ :: _, h => h.elim
  | _ :: _, [], h => h.elim
  | a :: l, b :: m, h => by simp [h.2.1, alike_text l m h.2.2.2]

theorem alike_show {l m : List Tk} (h : Alike l m) : showT l = showT m := by rw [showT, showT, alike_text l m h]

theorem alike_length : ∀ (l m : List Tk), Alike l m → l.length = m.length
  | [], [], _ => rfl
  | [], _ :: _, h => h.elim
  | _ :: _, [], h => h.elim
  | a :: l, b :: m, h => by simp [alike_length l m h.2.2.2]

/-- The tokens' spellings together are not longer than the text. -/
def total : List Tk → Nat
  | [] => 0
  | t :: l => t.text.length + total l

theorem covers_total : ∀ (l : List Tk) (pos : Nat) (s : List UInt8), Covers pos s l → total l ≤ s.length ∧ l.length ≤ total l
  | [], _, _, _ => by simp [total]
  | t :: l, pos, s, ⟨b, _, _, h0, h1, _, h⟩ => by
    have := covers_total l _ _ h
    simp only [total, List.length_cons, List.length_drop] at this ⊢
    omega

theorem showT_length : ∀ l : List Tk, (showT l).length ≤ total l + l.length
  | [] => by simp [showT, joinSp]
  | [t] => by simp [showT, joinSp, total]
  | t :: u :: l => by
    have := showT_length (u :: l)
    have e : showT (t :: u :: l) = t.text ++ 32 :: showT (u :: l) := rfl
    rw [e]
    simp only [List.length_append, List.length_cons, total] at this ⊢
    omega

end LexM
