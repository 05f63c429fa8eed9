/- lex.number: the number token at the start of a text that starts with a digit. -/
import Derived.Test.YtnanhebepjdlcaaDoorWalkC
namespace Go.Proofs.YtnanhebepjdlcaaDoor
open Go.RowKit

theorem digits_take (l : List UInt8) : LexM.Digits (l.take (LexM.span LexM.isDigit l)) := LexM.span_take_all _ _

theorem ext0 (s : ByteArray) (k : Nat) : bl (s.extract 0 k) = (bl s).take k := by
  show (s.extract 0 k).data.toList = _
  rw [Lib.extract_data]
  simp

theorem digit_pos {l : List UInt8} (h : LexM.headIs LexM.isDigit l = true) : 0 < LexM.span LexM.isDigit l := by
  cases l with
  | nil => simp [LexM.headIs] at h
  | cons c l =>
    simp only [LexM.headIs] at h
    simp [LexM.span, h]

/-- The answer of lex.number. -/
def numT (s : ByteArray) (v : Int) (ok : Bool) : Ending :=
  .returned (.tuple #[.agg #[.int .i64 2, .string (s.extract 0 (LexM.span LexM.isDigit (bl s))), .int .i64 v, .int .i64 0], .bool ok])

/-- The call's own block (its number: the heap's size before), and what stood before the call. -/
structure Own0 (w : World) (cs : Array Value) (w' : World) : Prop where
  cell : ∀ j, w'.cell? ⟨w.heap.size, j, none⟩ = cs[j]?
  thaw : ∀ j, w'.frozen? ⟨w.heap.size, j, none⟩ = false
  size : w.heap.size < w'.heap.size
  keep : Below w.heap.size w w'

theorem Own0.later {w w1 w2 : World} {cs : Array Value} (h : Own0 w cs w1) (hb : Below w1.heap.size w1 w2) : Own0 w cs w2 :=
  ⟨fun j => (hb.cell (p := ⟨w.heap.size, j, none⟩) h.size).trans (h.cell j), fun j => (hb.frozen (p := ⟨w.heap.size, j, none⟩) h.size).trans (h.thaw j),
    Nat.lt_of_lt_of_le h.size hb.size, h.keep.trans (hb.mono (Nat.le_of_lt h.size))⟩

theorem Own0.start (w : World) (cs : Array Value) (t : TypeId) : Own0 w cs (w.alloc (.cells cs t)) :=
  ⟨fun j => by rw [World.cell?_alloc_at _ _ _ _ rfl], fun j => World.frozen?_alloc_at _ _ _ _ rfl, by simp, (Below.refl _ _).alloc (Nat.le_refl _) _⟩

theorem Own0.iter {w w1 : World} {cs : Array Value} (h : Own0 w cs w1) (s : ByteArray) (pos : Nat) : Own0 w cs (w1.iter s pos) :=
  h.later ((Below.refl _ _).alloc (Nat.le_refl _) _)

theorem wrap32_byte (c : UInt8) : wrap32 (c.toNat : Int) = (c.toNat : Int) := by
  have := toNat_lt c
  unfold wrap32
  omega

def tok0 : Array Value := #[.int .i64 0, .string ⟨#[]⟩, .int .i64 0, .int .i64 0]

theorem Own0.facts {w w1 : World} (h : Own0 w tok0 w1) :
    (w1.cell? ⟨w.heap.size, 0, none⟩ = some (.int .i64 0) ∧ w1.cell? ⟨w.heap.size, 1, none⟩ = some (.string ⟨#[]⟩) ∧ w1.cell? ⟨w.heap.size, 2, none⟩ = some (.int .i64 0) ∧ w1.cell? ⟨w.heap.size, 3, none⟩ = some (.int .i64 0)) ∧
    (w1.frozen? ⟨w.heap.size, 0, none⟩ = false ∧ w1.frozen? ⟨w.heap.size, 1, none⟩ = false ∧ w1.frozen? ⟨w.heap.size, 2, none⟩ = false ∧ w1.frozen? ⟨w.heap.size, 3, none⟩ = false) :=
  ⟨⟨h.cell 0, h.cell 1, h.cell 2, h.cell 3⟩, h.thaw 0, h.thaw 1, h.thaw 2, h.thaw 3⟩

theorem keep4 {w w1 : World} (h : Below w.heap.size w w1) (a b c d : Value) :
    Below w.heap.size w ((((w1.setCell ⟨w.heap.size, 0, none⟩ a).setCell ⟨w.heap.size, 1, none⟩ b).setCell ⟨w.heap.size, 2, none⟩ c).setCell ⟨w.heap.size, 3, none⟩ d) :=
  (((h.setCell (p := ⟨w.heap.size, 0, none⟩) (Nat.le_refl _) _).setCell (p := ⟨w.heap.size, 1, none⟩) (Nat.le_refl _) _).setCell (p := ⟨w.heap.size, 2, none⟩) (Nat.le_refl _) _).setCell (p := ⟨w.heap.size, 3, none⟩) (Nat.le_refl _) _

set_option maxHeartbeats 1000000 in
/-- The digits go on beyond five: no number, whatever Atoi says. -/
theorem number_long_ok (s : ByteArray) (w : World) (v : Int) (hs : s.size ≤ 1500) (k : Nat) (hk : k = LexM.span LexM.isDigit (bl s)) (hk5 : 5 < k)
    (hv : Lib.atoiAll (bl (s.extract 0 k)) = .ok v) :
    Calls Tryd.prog 24 #[.string s] w fun e w' => e = numT s v false ∧ Below w.heap.size w w' := by
  have hks : k ≤ s.size := by rw [hk]; have := LexM.span_le LexM.isDigit (bl s); simpa using this
  have HK := Lib.hid hk
  have HP := prefix_digit s
  rw [← hk] at HP
  have HA : ∀ W, _ := fun W => atoi_ok (s.extract 0 k) v hv (by simp; omega) W
  clear hk hv
  have hd5 : decide ((k : Int) ≤ 5) = false := by simp; omega
  by_cases hks' : k < s.size
  all_goals
    go_enter Tryd.func24, Tryd.ntmps24
    go_wp2_with fail
    refine (HP _ (by unfold maxLen; omega)).mono ?_
    rintro e w1 ⟨rfl, pos, rfl⟩
    go_wp2_with fail
    refine (HA _).mono ?_
    rintro e w2 ⟨rfl, hb2⟩
    have ho := (((Own0.start w tok0 30).iter s pos).later hb2)
    clear hb2
    obtain ⟨⟨c0, c1, c2, c3⟩, f0, f1, f2, f3⟩ := ho.facts
    have hz := ho.size
    have HB := Lib.hid ho.keep
    clear ho
    go_wp2_with (go_at_call 22; refine (within_any _ _).mono ?_; rintro e w' ⟨rfl, rfl⟩)
    refine bodyPost_ret (v := .tuple #[.agg #[.int .i64 2, .string (s.extract 0 k), .int .i64 v, .int .i64 0], .bool false]) (by simp [results, Tryd.results24, go_sem, c0, c1, c2, c3]) rfl ⟨?_, keep4 HB.out _ _ _ _⟩
    rw [numT, ← HK.out]

set_option maxHeartbeats 1000000 in
/-- The digits spell a number out of range. -/
theorem number_range (s : ByteArray) (w : World) (hw : WOk w) (hs : s.size ≤ 1500) (k : Nat) (hk : k = LexM.span LexM.isDigit (bl s))
    (hv : Lib.atoiAll (bl (s.extract 0 k)) = .range) :
    Calls Tryd.prog 24 #[.string s] w fun e w' => (∃ v, e = numT s v false) ∧ Below w.heap.size w w' := by
  have hks : k ≤ s.size := by rw [hk]; have := LexM.span_le LexM.isDigit (bl s); simpa using this
  have HK := Lib.hid hk
  have HP := prefix_digit s
  rw [← hk] at HP
  have HA : ∀ W, WOk W → _ := fun W hW => atoi_range (s.extract 0 k) hv (by simp; omega) W hW
  have HW := Lib.hid hw
  clear hk hv hw
  by_cases hks' : k < s.size
  all_goals
    go_enter Tryd.func24, Tryd.ntmps24
    go_wp2_with fail
    refine (HP _ (by unfold maxLen; omega)).mono ?_
    rintro e w1 ⟨rfl, pos, rfl⟩
    go_wp2_with fail
    have ho0 := (Own0.start w tok0 30).iter s pos
    refine (HA _ (HW.out.later ho0.keep)).mono ?_
    rintro e w2 ⟨N, rfl, hb2⟩
    have ho := ho0.later hb2
    clear hb2 ho0
    obtain ⟨⟨c0, c1, c2, c3⟩, f0, f1, f2, f3⟩ := ho.facts
    have hz := ho.size
    have HB := Lib.hid ho.keep
    clear ho
    go_wp2_with (go_at_call 22; refine (within_any _ _).mono ?_; rintro e w' ⟨rfl, rfl⟩)
    refine bodyPost_ret (v := .tuple #[.agg #[.int .i64 2, .string (s.extract 0 k), .int .i64 (Lib.atoiSat (bl (s.extract 0 k))), .int .i64 0], .bool false]) (by simp [results, Tryd.results24, go_sem, c0, c1, c2, c3]) rfl ⟨⟨Lib.atoiSat (bl (s.extract 0 k)), ?_⟩, keep4 HB.out _ _ _ _⟩
    rw [numT, ← HK.out]

/-- What number answers where at most five digits stand. -/
def okB (s : ByteArray) (v : Int) (k : Nat) : Bool := decide (v < 65536) && (Lib.itoa v == bl (s.extract 0 k)) && !LexM.headIs LexM.isWithin ((bl s).drop k)

theorem okB_big {s : ByteArray} {v : Int} {k : Nat} (h : ¬ v < 65536) : okB s v k = false := by simp [okB, h]
theorem okB_ne {s : ByteArray} {v : Int} {k : Nat} (h : ¬ Lib.itoa v = (s.extract 0 k).toList) : okB s v k = false := by
  rw [Lib.toList_data] at h
  have hf : (Lib.itoa v == (s.extract 0 k).data.toList) = false := beq_eq_false_iff_ne.2 h
  simp only [okB, bl, hf, Bool.and_false, Bool.false_and]
theorem okB_eq {s : ByteArray} {v : Int} {k : Nat} (h6 : v < 65536) (h : Lib.itoa v = (s.extract 0 k).toList) (hk : k < s.size) : okB s v k = !witB (wrap32 (s[k].toNat : Int)) := by
  rw [Lib.toList_data] at h
  rw [wrap32_byte, wit_byte]
  simp only [okB, bl, h6, h, decide_true, beq_self_eq_true, Bool.true_and]
  have := bl_drop s k hk
  simp only [bl] at this
  rw [this]
  rfl
theorem okB_end {s : ByteArray} {v : Int} {k : Nat} (h6 : v < 65536) (h : Lib.itoa v = (s.extract 0 k).toList) (hk : ¬ k < s.size) : okB s v k = true := by
  rw [Lib.toList_data] at h
  simp only [okB, bl, h6, h, decide_true, beq_self_eq_true, Bool.true_and]
  rw [List.drop_eq_nil_of_le (by simp; omega)]
  rfl

set_option maxHeartbeats 1000000 in
theorem number_short (s : ByteArray) (w : World) (v : Int) (hw : WOk w) (hs : s.size ≤ 1500) (k : Nat) (hk : k = LexM.span LexM.isDigit (bl s)) (hk5 : k ≤ 5)
    (hv : Lib.atoiAll (bl (s.extract 0 k)) = .ok v) (hv0 : 0 ≤ v) (hv1 : v ≤ 1000000) :
    Calls Tryd.prog 24 #[.string s] w fun e w' => e = numT s v (okB s v k) ∧ Below w.heap.size w w' := by
  have hks : k ≤ s.size := by rw [hk]; have := LexM.span_le LexM.isDigit (bl s); simpa using this
  have HK := Lib.hid hk
  have HP := prefix_digit s
  rw [← hk] at HP
  have HA : ∀ W, _ := fun W => atoi_ok (s.extract 0 k) v hv (by simp; omega) W
  have HI : ∀ W, WOk W → _ := fun W hW => itoa_any v (by omega) (by omega) W hW
  have HW := Lib.hid hw
  clear hk hv hw
  have hd5 : decide ((k : Int) ≤ 5) = true := by simp; omega
  by_cases hks' : k < s.size
  all_goals
    go_enter Tryd.func24, Tryd.ntmps24
    go_wp2_with fail
    refine (HP _ (by unfold maxLen; omega)).mono ?_
    rintro e w1 ⟨rfl, pos, rfl⟩
    go_wp2_with fail
    refine (HA _).mono ?_
    rintro e w2 ⟨rfl, hb2⟩
    have ho := (((Own0.start w tok0 30).iter s pos).later hb2)
    clear hb2
    obtain ⟨⟨c0, c1, c2, c3⟩, f0, f1, f2, f3⟩ := ho.facts
    have hz := ho.size
    have HO := Lib.hid ho
    clear ho
    by_cases hv6 : v < 65536
    · go_wp2_with (go_at_call 22; refine (within_any _ _).mono ?_; rintro e w' ⟨rfl, rfl⟩)
      refine (HI _ (HW.out.later HO.out.keep)).mono ?_
      rintro e w3 ⟨rfl, hb3⟩
      clear c0 c1 c2 c3 f0 f1 f2 f3 hz
      have ho := HO.out.later hb3
      clear hb3
      obtain ⟨⟨c0, c1, c2, c3⟩, f0, f1, f2, f3⟩ := ho.facts
      have hz := ho.size
      have HB := Lib.hid ho.keep
      clear ho
      go_wp2_with fail
      all_goals
        rename_i hq
        first
          | rw [okB_ne hq]
          | rw [okB_eq hv6 hq hks']
          | rw [okB_end hv6 hq hks']
        refine bodyPost_ret (by simp [results, Tryd.results24, go_sem, c0, c1, c2, c3]; rfl) rfl ⟨?_, keep4 HB.out _ _ _ _⟩
        rw [numT, ← HK.out]
    · have HB := Lib.hid HO.out.keep
      go_wp2_with (go_at_call 22; refine (within_any _ _).mono ?_; rintro e w' ⟨rfl, rfl⟩)
      rw [okB_big (by omega)]
      refine bodyPost_ret (v := .tuple #[.agg #[.int .i64 2, .string (s.extract 0 k), .int .i64 v, .int .i64 0], .bool false]) (by simp [results, Tryd.results24, go_sem, c0, c1, c2, c3]) rfl ⟨?_, keep4 HB.out _ _ _ _⟩
      rw [numT, ← HK.out]

theorem itoa_nat (n : Nat) : Lib.itoa (n : Int) = Lib.decDigits n := by
  unfold Lib.itoa
  rw [if_neg (by omega)]
  rfl

/-- THE CONTRACT: well formed or not, as the model has it; the value where it is well formed. -/
theorem number_any (s : ByteArray) (w : World) (hw : WOk w) (hs : s.size ≤ 1500) (hd : LexM.headIs LexM.isDigit (bl s) = true) :
    Calls Tryd.prog 24 #[.string s] w fun e w' => (∃ v : Int, e = numT s v (LexM.numOk ((bl s).take (LexM.span LexM.isDigit (bl s))) ((bl s).drop (LexM.span LexM.isDigit (bl s)))) ∧
      (LexM.numOk ((bl s).take (LexM.span LexM.isDigit (bl s))) ((bl s).drop (LexM.span LexM.isDigit (bl s))) = true → v = (LexM.numVal ((bl s).take (LexM.span LexM.isDigit (bl s))) : Int))) ∧ Below w.heap.size w w' := by
  obtain ⟨k, hk⟩ : ∃ k, k = LexM.span LexM.isDigit (bl s) := ⟨_, rfl⟩
  have hpos := digit_pos hd
  have hle := LexM.span_le LexM.isDigit (bl s)
  have hdg := digits_take (bl s)
  rw [← hk] at hpos hle hdg ⊢
  have hlen : ((bl s).take k).length = k := by rw [List.length_take]; omega
  have hne : (bl s).take k ≠ [] := by
    intro e
    rw [e] at hlen
    simp at hlen
    omega
  by_cases h5 : k ≤ 5
  · have hat := LexM.atoi_small hdg hne (by omega)
    have hlt := LexM.numVal_lt hdg
    have hp : 10 ^ ((bl s).take k).length ≤ 10 ^ 5 := Nat.pow_le_pow_right (by omega) (by omega)
    have hok : okB s (LexM.numVal ((bl s).take k) : Int) k = LexM.numOk ((bl s).take k) ((bl s).drop k) := by
      unfold okB LexM.numOk
      rw [ext0, itoa_nat, LexM.dec_eq_iff hdg hne, hlen]
      have e1 : decide ((LexM.numVal ((bl s).take k) : Int) < 65536) = decide (LexM.numVal ((bl s).take k) < 65536) := by
        rw [Bool.eq_iff_iff]
        simp
        omega
      rw [e1]
      simp only [h5, decide_true, Bool.true_and]
      generalize decide (LexM.numVal ((bl s).take k) < 65536) = A
      generalize (!(LexM.headIs (fun c => c.toNat == 48) ((bl s).take k) && decide (1 < k))) = B
      cases A <;> cases B <;> rfl
    rw [← hok]
    refine (number_short s w (LexM.numVal ((bl s).take k) : Int) hw hs k hk h5 (by rw [ext0]; exact hat) (by omega) (by omega)).mono ?_
    rintro e w' ⟨he, hb⟩
    exact ⟨⟨_, he, fun _ => rfl⟩, hb⟩
  · have hno : LexM.numOk ((bl s).take k) ((bl s).drop k) = false := by
      unfold LexM.numOk
      rw [hlen]
      simp [h5]
    rw [hno]
    rcases LexM.atoi_digits hdg hne with h | h
    · refine (number_range s w hw hs k hk (by rw [ext0]; exact h)).mono ?_
      rintro e w' ⟨⟨v, he⟩, hb⟩
      exact ⟨⟨v, he, fun h => by cases h⟩, hb⟩
    · refine (number_long_ok s w _ hs k hk (by omega) (by rw [ext0]; exact h)).mono ?_
      rintro e w' ⟨he, hb⟩
      exact ⟨⟨_, he, fun h => by cases h⟩, hb⟩

end Go.Proofs.YtnanhebepjdlcaaDoor
