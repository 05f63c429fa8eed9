/- The reference's Tokens, byte by byte. -/
import Derived.Test.YtnanhebepjdlcaaDoorWalkI
namespace Go.Proofs.YtnanhebepjdlcaaDoor
open Go.RowKit

/-- A counter between two numbers. -/
def InQ (p q : Nat) (j : Value) : Prop := ∃ t : Nat, p ≤ t ∧ t ≤ q ∧ j = .int .i64 t

/-- What the reference's loop carries. -/
def RTInv (s : ByteArray) (w : World) (v : Value) (p : Nat) (wr : World) : Prop :=
  ∃ L, LexM.RInv (bl s) L p ∧ wr.ownsRow w.heap.size 30 4 v L.length (tkAll L) ∧ Below w.heap.size w wr

theorem cls_blank {c : UInt8} (h : LexM.isBlank c = true) : clsI (c.toNat : Int) = 4 := by
  rw [LexM.isBlank_iff] at h
  unfold clsI
  rw [if_neg (by omega), if_neg (by omega), if_neg (by omega), if_pos (by omega)]
theorem cls_letter {c : UInt8} (h : LexM.isLetter c = true) : clsI (c.toNat : Int) = 1 := by
  simp [LexM.isLetter] at h
  unfold clsI
  rw [if_pos (by omega)]
theorem cls_digit {c : UInt8} (h : LexM.isDigit c = true) : clsI (c.toNat : Int) = 2 := by
  simp [LexM.isDigit] at h
  unfold clsI
  rw [if_neg (by omega), if_pos (by omega)]
theorem cls_under {c : UInt8} (h : c.toNat = 95) : clsI (c.toNat : Int) = 3 := by
  unfold clsI
  rw [if_neg (by omega), if_neg (by omega), if_pos (by omega)]
theorem cls_other {c : UInt8} (h1 : LexM.isBlank c = false) (h2 : LexM.isLetter c = false) (h3 : LexM.isDigit c = false) (h4 : c.toNat ≠ 95) : clsI (c.toNat : Int) = 0 := by
  simp [LexM.isLetter] at h2
  simp [LexM.isDigit] at h3
  simp [LexM.isBlank] at h1
  unfold clsI
  rw [if_neg (by omega), if_neg (by omega), if_neg (by omega), if_neg (by omega)]

theorem class_is (c : UInt8) (v : Int) (h : clsI (c.toNat : Int) = v) (w : World) : Calls Tryd.prog 27 #[.int .u8 (c.toNat : Int)] w fun e w' => e = .returned (.int .i64 v) ∧ w = w' := by
  have hc := class_any (c.toNat : Int) w
  rw [h] at hc
  exact hc

theorem span_in (p : UInt8 → Bool) : ∀ (l : List UInt8) (j : Nat), j < LexM.span p l → ∃ c, l[j]? = some c ∧ p c = true
  | [], j, h => by simp [LexM.span] at h
  | c :: l, 0, h => by
    unfold LexM.span at h
    split at h
    · rename_i hp; exact ⟨c, rfl, hp⟩
    · omega
  | c :: l, j + 1, h => by
    unfold LexM.span at h
    split at h
    · simpa using span_in p l j (by omega)
    · omega

theorem span_here {p : UInt8 → Bool} {s : ByteArray} {a t : Nat} (h1 : a ≤ t) (h2 : t < a + LexM.span p ((bl s).drop a)) (ht : t < s.size) : p s[t] = true := by
  obtain ⟨c, hc, hp⟩ := span_in p ((bl s).drop a) (t - a) (by omega)
  rw [List.getElem?_drop, show a + (t - a) = t by omega] at hc
  have : (bl s)[t]? = some s[t] := by rw [List.getElem?_eq_getElem (by rw [bl_len]; exact ht)]; rfl
  rw [this] at hc
  injection hc with hc
  rw [hc]
  exact hp

theorem span_past {p : UInt8 → Bool} {s : ByteArray} {a : Nat} (ht : a + LexM.span p ((bl s).drop a) < s.size) : p s[a + LexM.span p ((bl s).drop a)] = false := by
  have h := LexM.span_lt_head p ((bl s).drop a)
  rw [List.drop_drop, bl_drop s _ ht] at h
  exact h

theorem within_cases {c : UInt8} (h : LexM.isWithin c = true) : clsI (c.toNat : Int) = 1 ∨ clsI (c.toNat : Int) = 2 ∨ clsI (c.toNat : Int) = 3 := by
  simp only [LexM.isWithin, Bool.or_eq_true, beq_iff_eq] at h
  rcases h with (h | h) | h
  · exact .inl (cls_letter h)
  · exact .inr (.inl (cls_digit h))
  · exact .inr (.inr (cls_under h))

theorem not_within_cases {c : UInt8} (h : LexM.isWithin c = false) : clsI (c.toNat : Int) = 0 ∨ clsI (c.toNat : Int) = 4 := by
  simp only [LexM.isWithin, Bool.or_eq_false_iff, beq_eq_false_iff_ne, ne_eq] at h
  by_cases hb : LexM.isBlank c = true
  · exact .inr (cls_blank hb)
  · exact .inl (cls_other (by simpa using hb) h.1.1 h.1.2 h.2)

theorem not_digit_cls {c : UInt8} (h : LexM.isDigit c = false) : clsI (c.toNat : Int) ≠ 2 := by
  simp [LexM.isDigit] at h
  unfold clsI
  split
  · omega
  · split
    · omega
    · split
      · omega
      · split <;> omega

theorem rt_done {s : ByteArray} {w w' : World} {v : Value} {L : List LexM.Tk} {p : Nat} (hs : s.size ≤ 1500) (hi : LexM.RInv (bl s) L p) (hp : ¬ p < s.size)
    (ho : w'.ownsRow w.heap.size 30 4 v L.length (tkAll L)) (hb : Below w.heap.size w w') : TokPost s w (.returned (.tuple #[v, .int .i64 0])) w' := by
  have ht := tokens_of_lex (by rw [bl_len]; exact hs) (hi.done (by rw [bl_len]; exact hp))
  unfold TokPost
  rw [ht]
  exact ⟨v, rfl, ho, hb⟩

theorem rt_step {s x : ByteArray} {w w' : World} {v' : Value} {L : List LexM.Tk} {p k : Nat} {kd n : Int} (hi : LexM.RInv (bl s) L p) (hp : p < s.size) (hb0 : LexM.isBlank s[p] = false)
    (ht : LexM.tokAt ((bl s).drop p) = some (k, kd, n)) (hx : bl x = ((bl s).drop p).take k)
    (ho : w'.ownsRow w.heap.size 30 4 v' (L.length + 1) (tkAll L ++ [.int .i64 kd, .string x, .int .i64 n, .int .i64 (p : Int)])) (hb : Below w.heap.size w w') :
    RTInv s w v' (p + k) w' := by
  refine ⟨_, hi.step (bl_drop s p hp) hb0 ht, ?_, hb⟩
  rw [tkAll_append, List.length_append]
  have e : tkAll [{ kind := kd, text := ((bl s).drop p).take k, n := n, pos := p : LexM.Tk }] = [.int .i64 kd, .string x, .int .i64 n, .int .i64 (p : Int)] := by
    show [Value.int .i64 kd, .string ⟨(((bl s).drop p).take k).toArray⟩, .int .i64 n, .int .i64 (p : Int)] = _
    rw [← bl_mk hx]
  rw [e]
  exact ho

theorem ext_sub (s : ByteArray) (p k : Nat) : bl (s.extract p (p + k)) = ((bl s).drop p).take k := by
  show (s.extract p (p + k)).data.toList = _
  rw [Lib.extract_data, show p + k - p = k by omega]

theorem drop_head {s : ByteArray} {p : Nat} (hp : p < s.size) (f : UInt8 → Bool) : LexM.headIs f ((bl s).drop p) = f s[p] := by
  rw [bl_drop s p hp]
  rfl

set_option maxHeartbeats 2000000 in
set_option maxRecDepth 100000 in
theorem reftokens_short (s : ByteArray) (w : World) (hs : s.size ≤ 1500) : Calls Tryd.prog 11 #[.string s] w (TokPost s w) := by
  have h15 : decide ((1500 : Int) < s.size) = false := by simp; omega
  obtain ⟨i0, hi0, hz0, hz1', hz2'⟩ := info_parts tokInfo
  go_enter Tryd.func11, Tryd.ntmps11
  go_wp2_with fail
  go_loopw [4, 5] (fun v a w' => ∃ p : Nat, a = .int .i64 p ∧ p ≤ s.size ∧ RTInv s w v p w') (fun _ a _ => s.size - (intOf a).toNat)
  case atStart => exact ⟨0, rfl, by omega, [], LexM.RInv.start _, World.ownsRow_nil _ _ _ _, Below.refl _ _⟩
  case round =>
    obtain ⟨p, rfl, hps, L, hi, ho, hb⟩ := hrel
    have HI := Lib.hid hi
    have HO := Lib.hid ho
    have HB := Lib.hid hb
    have hz2 := hb.size
    have hLn : L.length ≤ 1500 := by have := hi.cnt; omega
    clear hi ho hb
    by_cases hp : p < s.size
    · have hp0 : (0 : Int) ≤ (p : Int) := by omega
      have hp1 : (p : Int) < (s.size : Int) := by omega
      by_cases hbl : LexM.isBlank s[p] = true
      · have HC := fun W => class_is s[p] 4 (cls_blank hbl) W
        go_wp2_with fail
        refine (HC _).mono ?_
        rintro e W ⟨rfl, rfl⟩
        go_wp2_with fail
        go_roundw
        case rel => exact ⟨p + 1, by go_num, by omega, L, HI.out.blank (bl_drop s p hp) hbl (by rw [bl_len]; exact hp), HO.out, HB.out⟩
        case measure => simp [intOf]; omega
      · have hblf : LexM.isBlank s[p] = false := by simpa using hbl
        by_cases hle : LexM.isLetter s[p] = true
        · have HC := fun W => class_is s[p] 1 (cls_letter hle) W
          have HT := Lib.hid (LexM.tok_letter (s := (bl s).drop p) (by rw [drop_head hp]; exact hle))
          obtain ⟨q, hq⟩ : ∃ q, q = p + LexM.span LexM.isWithin ((bl s).drop p) := ⟨_, rfl⟩
          have hspl := LexM.span_le LexM.isWithin ((bl s).drop p)
          have hsp1 : 0 < LexM.span LexM.isWithin ((bl s).drop p) := by
            rw [bl_drop s p hp]
            simp [LexM.span, LexM.isWithin, hle]
          rw [List.length_drop, bl_len] at hspl
          have hq1 : p + 1 ≤ q := by omega
          have hq2 : q ≤ s.size := by omega
          have hq3 : (p : Int) ≤ (q : Int) := by omega
          have hq4 : (q : Int) ≤ (s.size : Int) := by omega
          have HIN : Hid (∀ (t : Nat) (ht : t < s.size), p ≤ t → t < q → LexM.isWithin s[t] = true) := fun t ht h1 h2 => span_here h1 (by omega) ht
          have HOUT : Hid (∀ h : q < s.size, LexM.isWithin s[q] = false) := by
            intro h
            subst hq
            exact span_past h
          have HQ := Lib.hid hq
          clear hq hspl hsp1 hbl hle
          by_cases h12 : 12 < q - p
          · have h12' : decide ((12 : Int) < (q : Int) - (p : Int)) = true := by simp; omega
            go_wp2_with fail
            refine (HC _).mono ?_
            rintro e W ⟨rfl, rfl⟩
            go_wp2_with fail
            go_loop [8] (fun n => InQ (p + 1) q n) (fun n => q - (intOf n).toNat)
            case atStart => exact ⟨p + 1, by omega, by omega, by go_num⟩
            case round =>
              obtain ⟨t, ht1, ht2, rfl⟩ := hrel
              by_cases htq : t < q
              · have hts : t < s.size := by omega
                rcases within_cases (HIN.out t hts (by omega) htq) with hc | hc | hc
                all_goals
                  have HC2 := fun W => class_is s[t] _ hc W
                  clear hc
                  go_wp2_with fail
                  refine (HC2 _).mono ?_
                  rintro e W ⟨rfl, rfl⟩
                  go_wp2_with fail
                  go_round
                  case rel => exact ⟨t + 1, by omega, by omega, by go_num⟩
                  case measure => simp [intOf]; omega
              · obtain rfl : t = q := by omega
                have hfin : ∀ W, Below w.heap.size w W → TokPost s w (.returned (.tuple #[.slice none 0 0, .int .i64 3])) W := fun W hW => by
                  refine tok_fail hs (HI.out.fail (bl_drop s p hp) hblf ?_) hW
                  rw [HT.out, if_neg (by have := HQ.out; omega)]
                by_cases hqs : t < s.size
                · rcases not_within_cases (HOUT.out hqs) with hc | hc
                  all_goals
                    have HC2 := fun W => class_is s[t] _ hc W
                    clear hc
                    go_wp2_with fail
                    refine (HC2 _).mono ?_
                    rintro e W ⟨rfl, rfl⟩
                    go_wp2_with fail
                    go_ret2
                    exact hfin _ (HB.out.trans ((Below.refl _ _).alloc hz2 _))
                · go_wp2_with fail
                  go_ret2
                  exact hfin _ (HB.out.trans ((Below.refl _ _).alloc hz2 _))
          · have h12' : decide ((12 : Int) < (q : Int) - (p : Int)) = false := by simp; omega
            go_wp2_with fail
            refine (HC _).mono ?_
            rintro e W ⟨rfl, rfl⟩
            go_wp2_with fail
            go_loop [8] (fun n => InQ (p + 1) q n) (fun n => q - (intOf n).toNat)
            case atStart => exact ⟨p + 1, by omega, by omega, by go_num⟩
            case round =>
              obtain ⟨t, ht1, ht2, rfl⟩ := hrel
              by_cases htq : t < q
              · have hts : t < s.size := by omega
                rcases within_cases (HIN.out t hts (by omega) htq) with hc | hc | hc
                all_goals
                  have HC2 := fun W => class_is s[t] _ hc W
                  clear hc
                  go_wp2_with fail
                  refine (HC2 _).mono ?_
                  rintro e W ⟨rfl, rfl⟩
                  go_wp2_with fail
                  go_round
                  case rel => exact ⟨t + 1, by omega, by omega, by go_num⟩
                  case measure => simp [intOf]; omega
              · obtain rfl : q = t := by omega
                by_cases hqs : q < s.size
                · rcases not_within_cases (HOUT.out hqs) with hc | hc
                  all_goals
                    have HC2 := fun W => class_is s[q] _ hc W
                    clear hc
                    go_wp2_with fail
                    refine (HC2 _).mono ?_
                    rintro e W ⟨rfl, rfl⟩
                    go_wp2_with (at_builtin; refine wpList_append_own _ rfl _ _ 23 rfl w.heap.size 30 i0 (.agg tok0) 4 40 Tryd.underlying23 hi0 hz0 hz1' hz2' rfl (by omega) _ _ _ rfl ((HO.out.alloc _).alloc _) _ 1 1 [.int .i64 1, .string (s.extract p q), .int .i64 0, .int .i64 (p : Int)] rfl rfl (World.news_of_block (heap_new2 _ _ _)) (by simp [Value.oneCell']) (by unfold maxLen; omega) (by omega) (by simp; omega) ?_)
                    intro v' w4 hown' hgrow _
                    have HO4 := Lib.hid hown'
                    have HG := Lib.hid hgrow
                    clear hown' hgrow
                    go_wp2_with fail
                    go_roundw
                    case rel => exact ⟨q, rfl, by omega, by rw [HQ.out]; exact rt_step HI.out hp hblf (by rw [HT.out, if_pos (by have := HQ.out; omega)]) (by rw [HQ.out]; exact ext_sub s p _) HO4.out (below_grown_row ((HB.out.trans ((Below.refl _ _).alloc hz2 _)).trans ((Below.refl _ _).alloc (by simp; omega) _)) ((HO.out.alloc _).alloc _) HG.out)⟩
                    case measure => simp [intOf]; omega
                · go_wp2_with (at_builtin; refine wpList_append_own _ rfl _ _ 23 rfl w.heap.size 30 i0 (.agg tok0) 4 40 Tryd.underlying23 hi0 hz0 hz1' hz2' rfl (by omega) _ _ _ rfl ((HO.out.alloc _).alloc _) _ 1 1 [.int .i64 1, .string (s.extract p q), .int .i64 0, .int .i64 (p : Int)] rfl rfl (World.news_of_block (heap_new2 _ _ _)) (by simp [Value.oneCell']) (by unfold maxLen; omega) (by omega) (by simp; omega) ?_)
                  intro v' w4 hown' hgrow _
                  have HO4 := Lib.hid hown'
                  have HG := Lib.hid hgrow
                  clear hown' hgrow
                  go_wp2_with fail
                  go_roundw
                  case rel => exact ⟨q, rfl, by omega, by rw [HQ.out]; exact rt_step HI.out hp hblf (by rw [HT.out, if_pos (by have := HQ.out; omega)]) (by rw [HQ.out]; exact ext_sub s p _) HO4.out (below_grown_row ((HB.out.trans ((Below.refl _ _).alloc hz2 _)).trans ((Below.refl _ _).alloc (by simp; omega) _)) ((HO.out.alloc _).alloc _) HG.out)⟩
                  case measure => simp [intOf]; omega
        · have hlef : LexM.isLetter s[p] = false := by simpa using hle
          by_cases hdg : LexM.isDigit s[p] = true
          · have HC := fun W => class_is s[p] 2 (cls_digit hdg) W
            have HT := LexM.tok_digit (s := (bl s).drop p) (by rw [drop_head hp]; exact hlef) (by rw [drop_head hp]; exact hdg)
            obtain ⟨q, hq⟩ : ∃ q, q = p + LexM.span LexM.isDigit ((bl s).drop p) := ⟨_, rfl⟩
            have hspl := LexM.span_le LexM.isDigit ((bl s).drop p)
            have hsp1 : 0 < LexM.span LexM.isDigit ((bl s).drop p) := by
              rw [bl_drop s p hp]
              simp [LexM.span, hdg]
            rw [List.length_drop, bl_len] at hspl
            have hq1 : p + 1 ≤ q := by omega
            have hq2 : q ≤ s.size := by omega
            have hq3 : (p : Int) ≤ (q : Int) := by omega
            have hq4 : (q : Int) ≤ (s.size : Int) := by omega
            have HIN : Hid (∀ (t : Nat) (ht : t < s.size), p ≤ t → t < q → LexM.isDigit s[t] = true) := fun t ht h1 h2 => span_here h1 (by omega) ht
            have hout : ∀ h : q < s.size, LexM.isDigit s[q] = false := by
              intro h
              subst hq
              exact span_past h
            have hxt : bl (s.extract p q) = ((bl s).drop p).take (LexM.span LexM.isDigit ((bl s).drop p)) := by rw [hq]; exact ext_sub s p _
            have hxs : (s.extract p q).size = q - p := by
              rw [← bl_len, hxt, List.length_take, List.length_drop, bl_len]
              omega
            have hN := fun W => refnum_any (s.extract p q) (by rw [hxt]; exact LexM.span_take_all _ _) (by omega) (by omega) W
            rw [hxt] at hN
            have hrest : ((bl s).drop p).drop (LexM.span LexM.isDigit ((bl s).drop p)) = (bl s).drop q := by rw [List.drop_drop, ← hq]
            rw [hrest] at HT
            have HQ := Lib.hid hq
            generalize hwd : ((bl s).drop p).take (LexM.span LexM.isDigit ((bl s).drop p)) = wd at HT hN
            have hfail : LexM.numOk wd ((bl s).drop q) = false → ∀ W, Below w.heap.size w W → TokPost s w (.returned (.tuple #[.slice none 0 0, .int .i64 3])) W := fun hno W hW => by
              refine tok_fail hs (HI.out.fail (bl_drop s p hp) hblf ?_) hW
              rw [HT, hno]
              rfl
            have hgood : LexM.numOk wd ((bl s).drop q) = true → LexM.tokAt ((bl s).drop p) = some (LexM.span LexM.isDigit ((bl s).drop p), 2, (LexM.numVal wd : Int)) := fun hok => by rw [HT, if_pos hok]
            clear HT hq hspl hsp1 hxt hxs hrest hwd hbl hle hdg
            by_cases hqs : q < s.size
            · have hqd := hout hqs
              have hhd := drop_head hqs LexM.isWithin
              by_cases hin : LexM.isWithin s[q] = true
              · have hfin := Lib.hid (hfail (LexM.numOk_within (by rw [hhd]; exact hin)))
                have hc : clsI (s[q].toNat : Int) = 1 ∨ clsI (s[q].toNat : Int) = 3 := by
                  have := not_digit_cls hqd
                  rcases within_cases hin with h | h | h
                  · exact .inl h
                  · exact absurd h this
                  · exact .inr h
                have HN : ∃ rv : Int, ∀ W, Calls Tryd.prog 29 #[.string (s.extract p q)] W fun e w' => e = .returned (.int .i64 rv) ∧ W = w' := ⟨_, hN⟩
                clear hN hfail hgood hout hqd hhd hin
                obtain ⟨rv, HN⟩ := HN
                by_cases hrv : rv < 0
                all_goals
                  rcases hc with hc | hc
                  all_goals
                    have HCQ := fun W => class_is s[q] _ hc W
                    clear hc
                    go_wp2_with fail
                    refine (HC _).mono ?_
                    rintro e W ⟨rfl, rfl⟩
                    go_wp2_with fail
                    go_loop [8] (fun n => InQ (p + 1) q n) (fun n => q - (intOf n).toNat)
                    case atStart => exact ⟨p + 1, by omega, by omega, by go_num⟩
                    case round =>
                      obtain ⟨t, ht1, ht2, rfl⟩ := hrel
                      by_cases htq : t < q
                      · have hts : t < s.size := by omega
                        have HC2 := fun W => class_is s[t] 2 (cls_digit (HIN.out t hts (by omega) htq)) W
                        go_wp2_with fail
                        refine (HC2 _).mono ?_
                        rintro e W ⟨rfl, rfl⟩
                        go_wp2_with fail
                        go_round
                        case rel => exact ⟨t + 1, by omega, by omega, by go_num⟩
                        case measure => simp [intOf]; omega
                      · obtain rfl : q = t := by omega
                        go_wp2_with fail
                        refine (HCQ _).mono ?_
                        rintro e W ⟨rfl, rfl⟩
                        go_wp2_with fail
                        refine (HN _).mono ?_
                        rintro e W ⟨rfl, rfl⟩
                        go_wp2_with fail
                        refine (HCQ _).mono ?_
                        rintro e W ⟨rfl, rfl⟩
                        go_wp2_with fail
                        go_ret2
                        exact hfin.out _ (HB.out.trans ((Below.refl _ _).alloc hz2 _))
              · have hinf : LexM.isWithin s[q] = false := by simpa using hin
                have hc := not_within_cases hinf
                cases hok : LexM.numOk wd ((bl s).drop q) with
                | true =>
                  obtain ⟨n, hn⟩ : ∃ n, n = LexM.numVal wd := ⟨_, rfl⟩
                  have HN := hN
                  rw [(LexM.refNum_ok hok).1, ← hn] at HN
                  have HTK := Lib.hid (hgood hok)
                  rw [← hn] at HTK
                  clear hN hfail hgood hout hqd hhd hin hok hn
                  rcases hc with hc | hc
                  all_goals
                    have HCQ := fun W => class_is s[q] _ hc W
                    clear hc
                    go_wp2_with fail
                    refine (HC _).mono ?_
                    rintro e W ⟨rfl, rfl⟩
                    go_wp2_with fail
                    go_loop [8] (fun n => InQ (p + 1) q n) (fun n => q - (intOf n).toNat)
                    case atStart => exact ⟨p + 1, by omega, by omega, by go_num⟩
                    case round =>
                      obtain ⟨t, ht1, ht2, rfl⟩ := hrel
                      by_cases htq : t < q
                      · have hts : t < s.size := by omega
                        have HC2 := fun W => class_is s[t] 2 (cls_digit (HIN.out t hts (by omega) htq)) W
                        go_wp2_with fail
                        refine (HC2 _).mono ?_
                        rintro e W ⟨rfl, rfl⟩
                        go_wp2_with fail
                        go_round
                        case rel => exact ⟨t + 1, by omega, by omega, by go_num⟩
                        case measure => simp [intOf]; omega
                      · obtain rfl : q = t := by omega
                        go_wp2_with fail
                        refine (HCQ _).mono ?_
                        rintro e W ⟨rfl, rfl⟩
                        go_wp2_with fail
                        refine (HN _).mono ?_
                        rintro e W ⟨rfl, rfl⟩
                        go_wp2_with fail
                        refine (HCQ _).mono ?_
                        rintro e W ⟨rfl, rfl⟩
                        go_wp2_with (at_builtin; refine wpList_append_own _ rfl _ _ 23 rfl w.heap.size 30 i0 (.agg tok0) 4 40 Tryd.underlying23 hi0 hz0 hz1' hz2' rfl (by omega) _ _ _ rfl ((HO.out.alloc _).alloc _) _ 1 1 [.int .i64 2, .string (s.extract p q), .int .i64 (n : Int), .int .i64 (p : Int)] rfl rfl (World.news_of_block (heap_new2 _ _ _)) (by simp [Value.oneCell']) (by unfold maxLen; omega) (by omega) (by simp; omega) ?_)
                        intro v' w4 hown' hgrow _
                        have HO4 := Lib.hid hown'
                        have HG := Lib.hid hgrow
                        clear hown' hgrow
                        go_wp2_with fail
                        go_roundw
                        case rel => exact ⟨q, rfl, by omega, by rw [HQ.out]; exact rt_step HI.out hp hblf HTK.out (by rw [HQ.out]; exact ext_sub s p _) HO4.out (below_grown_row ((HB.out.trans ((Below.refl _ _).alloc hz2 _)).trans ((Below.refl _ _).alloc (by simp; omega) _)) ((HO.out.alloc _).alloc _) HG.out)⟩
                        case measure => simp [intOf]; omega
                | false =>
                  have hfin := Lib.hid (hfail hok)
                  have HN := hN
                  rw [LexM.refNum_no hok (by rw [hhd]; exact hinf)] at HN
                  clear hN hfail hgood hout hqd hhd hin hok
                  rcases hc with hc | hc
                  all_goals
                    have HCQ := fun W => class_is s[q] _ hc W
                    clear hc
                    go_wp2_with fail
                    refine (HC _).mono ?_
                    rintro e W ⟨rfl, rfl⟩
                    go_wp2_with fail
                    go_loop [8] (fun n => InQ (p + 1) q n) (fun n => q - (intOf n).toNat)
                    case atStart => exact ⟨p + 1, by omega, by omega, by go_num⟩
                    case round =>
                      obtain ⟨t, ht1, ht2, rfl⟩ := hrel
                      by_cases htq : t < q
                      · have hts : t < s.size := by omega
                        have HC2 := fun W => class_is s[t] 2 (cls_digit (HIN.out t hts (by omega) htq)) W
                        go_wp2_with fail
                        refine (HC2 _).mono ?_
                        rintro e W ⟨rfl, rfl⟩
                        go_wp2_with fail
                        go_round
                        case rel => exact ⟨t + 1, by omega, by omega, by go_num⟩
                        case measure => simp [intOf]; omega
                      · obtain rfl : q = t := by omega
                        go_wp2_with fail
                        refine (HCQ _).mono ?_
                        rintro e W ⟨rfl, rfl⟩
                        go_wp2_with fail
                        refine (HN _).mono ?_
                        rintro e W ⟨rfl, rfl⟩
                        go_wp2_with fail
                        refine (HCQ _).mono ?_
                        rintro e W ⟨rfl, rfl⟩
                        go_wp2_with fail
                        go_ret2
                        exact hfin.out _ (HB.out.trans ((Below.refl _ _).alloc hz2 _))
            · have hde : (bl s).drop q = [] := List.drop_eq_nil_of_le (by rw [bl_len]; omega)
              cases hok : LexM.numOk wd ((bl s).drop q) with
              | true =>
                obtain ⟨n, hn⟩ : ∃ n, n = LexM.numVal wd := ⟨_, rfl⟩
                have HN := hN
                rw [(LexM.refNum_ok hok).1, ← hn] at HN
                have HTK := Lib.hid (hgood hok)
                rw [← hn] at HTK
                clear hN hfail hgood hout hok hn hde
                go_wp2_with fail
                refine (HC _).mono ?_
                rintro e W ⟨rfl, rfl⟩
                go_wp2_with fail
                go_loop [8] (fun n => InQ (p + 1) q n) (fun n => q - (intOf n).toNat)
                case atStart => exact ⟨p + 1, by omega, by omega, by go_num⟩
                case round =>
                  obtain ⟨t, ht1, ht2, rfl⟩ := hrel
                  by_cases htq : t < q
                  · have hts : t < s.size := by omega
                    have HC2 := fun W => class_is s[t] 2 (cls_digit (HIN.out t hts (by omega) htq)) W
                    go_wp2_with fail
                    refine (HC2 _).mono ?_
                    rintro e W ⟨rfl, rfl⟩
                    go_wp2_with fail
                    go_round
                    case rel => exact ⟨t + 1, by omega, by omega, by go_num⟩
                    case measure => simp [intOf]; omega
                  · obtain rfl : q = t := by omega
                    go_wp2_with fail
                    refine (HN _).mono ?_
                    rintro e W ⟨rfl, rfl⟩
                    go_wp2_with (at_builtin; refine wpList_append_own _ rfl _ _ 23 rfl w.heap.size 30 i0 (.agg tok0) 4 40 Tryd.underlying23 hi0 hz0 hz1' hz2' rfl (by omega) _ _ _ rfl ((HO.out.alloc _).alloc _) _ 1 1 [.int .i64 2, .string (s.extract p q), .int .i64 (n : Int), .int .i64 (p : Int)] rfl rfl (World.news_of_block (heap_new2 _ _ _)) (by simp [Value.oneCell']) (by unfold maxLen; omega) (by omega) (by simp; omega) ?_)
                    intro v' w4 hown' hgrow _
                    have HO4 := Lib.hid hown'
                    have HG := Lib.hid hgrow
                    clear hown' hgrow
                    go_wp2_with fail
                    go_roundw
                    case rel => exact ⟨q, rfl, by omega, by rw [HQ.out]; exact rt_step HI.out hp hblf HTK.out (by rw [HQ.out]; exact ext_sub s p _) HO4.out (below_grown_row ((HB.out.trans ((Below.refl _ _).alloc hz2 _)).trans ((Below.refl _ _).alloc (by simp; omega) _)) ((HO.out.alloc _).alloc _) HG.out)⟩
                    case measure => simp [intOf]; omega
              | false =>
                have hfin := Lib.hid (hfail hok)
                have HN := hN
                rw [LexM.refNum_no hok (by rw [hde]; rfl)] at HN
                clear hN hfail hgood hout hok hde
                go_wp2_with fail
                refine (HC _).mono ?_
                rintro e W ⟨rfl, rfl⟩
                go_wp2_with fail
                go_loop [8] (fun n => InQ (p + 1) q n) (fun n => q - (intOf n).toNat)
                case atStart => exact ⟨p + 1, by omega, by omega, by go_num⟩
                case round =>
                  obtain ⟨t, ht1, ht2, rfl⟩ := hrel
                  by_cases htq : t < q
                  · have hts : t < s.size := by omega
                    have HC2 := fun W => class_is s[t] 2 (cls_digit (HIN.out t hts (by omega) htq)) W
                    go_wp2_with fail
                    refine (HC2 _).mono ?_
                    rintro e W ⟨rfl, rfl⟩
                    go_wp2_with fail
                    go_round
                    case rel => exact ⟨t + 1, by omega, by omega, by go_num⟩
                    case measure => simp [intOf]; omega
                  · obtain rfl : q = t := by omega
                    go_wp2_with fail
                    refine (HN _).mono ?_
                    rintro e W ⟨rfl, rfl⟩
                    go_wp2_with fail
                    go_ret2
                    exact hfin.out _ (HB.out.trans ((Below.refl _ _).alloc hz2 _))
          · have hdgf : LexM.isDigit s[p] = false := by simpa using hdg
            have HT := Lib.hid (LexM.tok_sign (s := (bl s).drop p) (by rw [drop_head hp]; exact hlef) (by rw [drop_head hp]; exact hdgf))
            by_cases h95 : s[p].toNat = 95
            · have HC := fun W => class_is s[p] 3 (cls_under h95) W
              have H95 := Lib.hid h95
              clear hbl hle hdg h95
              go_wp2_with fail
              refine (HC _).mono ?_
              rintro e W ⟨rfl, rfl⟩
              go_wp2_with fail
              go_ret2
              refine tok_fail hs (HI.out.fail (bl_drop s p hp) hblf ?_) HB.out
              rw [HT.out, if_pos]
              rw [bl_drop s p hp]
              exact LexM.sign_other H95.out
            · have HC := fun W => class_is s[p] 0 (cls_other hblf hlef hdgf h95) W
              have HSG := fun W => refsign_any s p hp hs W
              obtain ⟨k, hk⟩ : ∃ k, k = LexM.sign ((bl s).drop p) := ⟨_, rfl⟩
              rw [← hk] at HSG
              have HK := Lib.hid hk
              have hkl : p + k ≤ s.size := by
                by_cases h0 : k = 0
                · omega
                · have ht := HT.out
                  rw [← hk, if_neg h0] at ht
                  have := (LexM.tokAt_pos ht).2
                  rw [List.length_drop, bl_len] at this
                  omega
              clear hbl hle hdg h95 hk
              by_cases h0 : k = 0
              · subst h0
                go_wp2_with fail
                refine (HC _).mono ?_
                rintro e W ⟨rfl, rfl⟩
                go_wp2_with fail
                refine (HSG _).mono ?_
                rintro e W ⟨rfl, rfl⟩
                go_wp2_with fail
                go_ret2
                refine tok_fail hs (HI.out.fail (bl_drop s p hp) hblf ?_) HB.out
                rw [HT.out, if_pos HK.out.symm]
              · have hk0 : ((k : Int) == 0) = false := beq_eq_false_iff_ne.2 (by omega)
                have hkl' : (p : Int) + (k : Int) ≤ (s.size : Int) := by omega
                go_wp2_with fail
                refine (HC _).mono ?_
                rintro e W ⟨rfl, rfl⟩
                go_wp2_with fail
                refine (HSG _).mono ?_
                rintro e W ⟨rfl, rfl⟩
                go_wp2_with (at_builtin; refine wpList_append_own _ rfl _ _ 23 rfl w.heap.size 30 i0 (.agg tok0) 4 40 Tryd.underlying23 hi0 hz0 hz1' hz2' rfl (by omega) _ _ _ rfl (HO.out.alloc _) _ 1 1 [.int .i64 3, .string (s.extract p (p + k)), .int .i64 0, .int .i64 (p : Int)] rfl rfl (World.news_of_block (heap_alloc_new _ _)) (by simp [Value.oneCell']) (by unfold maxLen; omega) (by omega) (by simp; omega) ?_)
                intro v' w4 hown' hgrow _
                have HO4 := Lib.hid hown'
                have HG := Lib.hid hgrow
                clear hown' hgrow
                go_wp2_with fail
                go_roundw
                case rel => exact ⟨p + k, by go_num, by omega, rt_step HI.out hp hblf (by rw [HT.out, ← HK.out, if_neg h0]) (ext_sub s p k) HO4.out (below_grown_row (HB.out.trans ((Below.refl _ _).alloc hz2 _)) (HO.out.alloc _) HG.out)⟩
                case measure => simp [intOf]; omega
    · go_wp2_with fail
      go_ret2
      exact rt_done hs HI.out hp HO.out HB.out

set_option maxHeartbeats 400000 in
set_option maxRecDepth 100000 in
theorem reftokens_long (s : ByteArray) (w : World) (hs : ¬ s.size ≤ 1500) (hm : s.size ≤ maxLen) : Calls Tryd.prog 11 #[.string s] w (TokPost s w) := by
  unfold maxLen at hm
  have h15 : decide ((1500 : Int) < s.size) = true := by simp; omega
  have HH := Lib.hid hs
  clear hs
  go_enter Tryd.func11, Tryd.ntmps11
  go_wp2_with fail
  go_ret2
  have ht : LexM.tokens (bl s) = ([], 2) := by
    unfold LexM.tokens
    rw [if_pos (by rw [bl_len]; have := HH.out; omega)]
  unfold TokPost
  rw [ht]
  exact ⟨_, rfl, World.ownsRow_nil _ _ _ _, Below.refl _ _⟩

/-- THE CONTRACT OF THE REFERENCE's Tokens: at every string what the model says. -/
theorem reftokens_any (s : ByteArray) (w : World) (hm : s.size ≤ maxLen) : Calls Tryd.prog 11 #[.string s] w (TokPost s w) := by
  by_cases hs : s.size ≤ 1500
  · exact reftokens_short s w hs
  · exact reftokens_long s w hs hm

end Go.Proofs.YtnanhebepjdlcaaDoor
