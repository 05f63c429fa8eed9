/- lex.Tokens: the loop of the lexer. -/
import Derived.Test.YtnanhebepjdlcaaDoorWalkD
namespace Go.Proofs.YtnanhebepjdlcaaDoor
open Go.RowKit

/-- An operator as the array of lex.operators holds it. -/
def opB (i : Nat) : ByteArray := ⟨(LexM.opAt i).toArray⟩

theorem index_op (i : Nat) (hi : i < 15) (w : World) : (Instr.index 45 (.agg opCells) (.int .i64 (i : Int))).run Tryd.prog w = .ok (.string (opB i)) w := by
  match i, hi with
  | 0, _ => show _ = _; kernel_rfl
  | 1, _ => show _ = _; kernel_rfl
  | 2, _ => show _ = _; kernel_rfl
  | 3, _ => show _ = _; kernel_rfl
  | 4, _ => show _ = _; kernel_rfl
  | 5, _ => show _ = _; kernel_rfl
  | 6, _ => show _ = _; kernel_rfl
  | 7, _ => show _ = _; kernel_rfl
  | 8, _ => show _ = _; kernel_rfl
  | 9, _ => show _ = _; kernel_rfl
  | 10, _ => show _ = _; kernel_rfl
  | 11, _ => show _ = _; kernel_rfl
  | 12, _ => show _ = _; kernel_rfl
  | 13, _ => show _ = _; kernel_rfl
  | 14, _ => show _ = _; kernel_rfl

def sliceLen : Value → Nat | .slice _ n _ => n | _ => 0

theorem bl_len (s : ByteArray) : (bl s).length = s.size := (Lib.size_eq s).symm

theorem ext_end (s : ByteArray) (a : Nat) : bl (s.extract a s.size) = (bl s).drop a := by
  show (s.extract a s.size).data.toList = _
  rw [Lib.extract_data]
  exact List.take_of_length_le (by simp)

theorem own_later {w w' : World} {B k n : Nat} {e : TypeId} {v : Value} {xs : List Value} (h : w.ownsRow B e k v n xs) (hb : Below w.heap.size w w') : w'.ownsRow B e k v n xs :=
  h.kept (row := none) ⟨hb.os, hb.tape, hb.output, hb.size, fun i hi _ => hb.block i hi⟩ (by cases v.ownBlock <;> simp)

theorem tokInfo : (Tryd.prog.info? 30).map (fun i => (i.zero, i.size, i.bytes)) = some (some (.agg tok0), 4, 40) := by kernel_rfl

/-- What the loop of Tokens carries from round to round. -/
def TInv (s : ByteArray) (w : World) (v : Value) (wr : World) : Prop :=
  ∃ L, LexM.Inv (bl s) L ∧ wr.ownsRow w.heap.size 30 4 v L.length (tkAll L) ∧ Below w.heap.size w wr

theorem TInv.len {s : ByteArray} {w wr : World} {v : Value} (h : TInv s w v wr) : sliceLen v ≤ s.size := by
  obtain ⟨L, hi, ho, _⟩ := h
  have h1 := hi.le
  have h2 := hi.cnt
  have h3 : sliceLen v = L.length := by
    rcases ho.2 with ⟨rfl, h0⟩ | ⟨g, cap, cur, rfl, _⟩
    · exact h0.symm
    · rfl
  simp at h1
  omega

def TokPost (s : ByteArray) (w : World) (e : Ending) (w' : World) : Prop :=
  ∃ v, e = .returned (.tuple #[v, .int .i64 (LexM.tokens (bl s)).2]) ∧ w'.ownsRow w.heap.size 30 4 v (LexM.tokens (bl s)).1.length (tkAll (LexM.tokens (bl s)).1) ∧ Below w.heap.size w w'

theorem empty_yes {r : ByteArray} (h : r.size = 0) : r.toList.isEmpty = true := by
  rw [Lib.toList_data, List.isEmpty_iff]
  exact List.eq_nil_of_length_eq_zero (by rw [← Lib.size_eq]; exact h)
theorem empty_bl {r : ByteArray} (h : r.toList.isEmpty = true) : bl r = [] := by
  rw [Lib.toList_data, List.isEmpty_iff] at h
  exact h
theorem bl_ne {r : ByteArray} (h : 0 < r.size) : bl r ≠ [] := by
  intro e
  have h1 : (bl r).length = 0 := by rw [e]; rfl
  rw [bl_len] at h1
  omega
theorem empty_no {r : ByteArray} (h : ¬ r.size = 0) : r.toList.isEmpty = false := by
  rw [Lib.toList_data]
  cases hl : r.data.toList with
  | nil => exact absurd (by rw [Lib.size_eq, hl]; rfl) h
  | cons _ _ => rfl

theorem tokens_of_lex {l : List UInt8} {L : List LexM.Tk} (hs : l.length ≤ 1500) (h : LexM.lex l = some L) : LexM.tokens l = (L, 0) := by
  unfold LexM.tokens
  rw [if_neg (by omega), h]
theorem tokens_of_none {l : List UInt8} (hs : l.length ≤ 1500) (h : LexM.lex l = none) : LexM.tokens l = ([], 3) := by
  unfold LexM.tokens
  rw [if_neg (by omega), h]

theorem tok_done {s : ByteArray} {w w' : World} {v : Value} {L : List LexM.Tk} (hs : s.size ≤ 1500) (hi : LexM.Inv (bl s) L) (he : LexM.skip ((bl s).drop (LexM.atOf L)) = [])
    (ho : w'.ownsRow w.heap.size 30 4 v L.length (tkAll L)) (hb : Below w.heap.size w w') : TokPost s w (.returned (.tuple #[v, .int .i64 0])) w' := by
  have ht := tokens_of_lex (by rw [bl_len]; exact hs) (hi.done he)
  unfold TokPost
  rw [ht]
  exact ⟨v, rfl, ho, hb⟩

theorem tok_fail {s : ByteArray} {w w' : World} (hs : s.size ≤ 1500) (h : LexM.lex (bl s) = none) (hb : Below w.heap.size w w') : TokPost s w (.returned (.tuple #[.slice none 0 0, .int .i64 3])) w' := by
  have ht := tokens_of_none (by rw [bl_len]; exact hs) h
  unfold TokPost
  rw [ht]
  exact ⟨_, rfl, World.ownsRow_nil _ _ _ _, hb⟩

theorem own_len {w : World} {B k n : Nat} {e : TypeId} {v : Value} {xs : List Value} (h : w.ownsRow B e k v n xs) : sliceLen v = n := by
  rcases h.2 with ⟨rfl, h0⟩ | ⟨g, cap, cur, rfl, _⟩
  · exact h0.symm
  · rfl

theorem bl_mk {x : ByteArray} {l : List UInt8} (h : bl x = l) : x = ⟨l.toArray⟩ := by
  rw [← h]

/-- One token more. -/
theorem tok_step {s r x : ByteArray} {w w' : World} {v' : Value} {L : List LexM.Tk} {R : List UInt8} {k : Nat} {kd n : Int} (hi : LexM.Inv (bl s) L) (hR : R = LexM.skip ((bl s).drop (LexM.atOf L)))
    (hrb : bl r = R) (hle : r.size ≤ s.size) (h0 : 0 < r.size) (ht : LexM.tokAt R = some (k, kd, n)) (hx : bl x = R.take k)
    (ho : w'.ownsRow w.heap.size 30 4 v' (L.length + 1) (tkAll L ++ [.int .i64 kd, .string x, .int .i64 n, .int .i64 ((s.size : Int) - r.size)])) (hb : Below w.heap.size w w') :
    TInv s w v' w' := by
  have hne : R ≠ [] := by
    intro e
    rw [e] at hrb
    have := bl_len r
    rw [hrb] at this
    simp at this
    omega
  have hst := hi.step (by rw [← hR]; exact hne) (by rw [← hR]; exact ht)
  rw [← hR, bl_len] at hst
  have hrl : r.size = R.length := by rw [← bl_len, hrb]
  refine ⟨_, hst, ?_, hb⟩
  rw [tkAll_append, List.length_append]
  have e : tkAll [{ kind := kd, text := R.take k, n := n, pos := s.size - R.length : LexM.Tk }] = [.int .i64 kd, .string x, .int .i64 n, .int .i64 ((s.size : Int) - r.size)] := by
    have e1 : ((s.size - R.length : Nat) : Int) = (s.size : Int) - r.size := by omega
    show [Value.int .i64 kd, .string ⟨(R.take k).toArray⟩, .int .i64 n, .int .i64 ((s.size - R.length : Nat) : Int)] = _
    rw [e1, ← bl_mk hx]
  rw [e]
  exact ho

theorem below_grown_row {w w1 w2 : World} {k n : Nat} {e : TypeId} {v : Value} {xs : List Value} (h : Below w.heap.size w w1) (ho : w1.ownsRow w.heap.size e k v n xs) (hg : w1.grownBy w2 v.ownBlock) : Below w.heap.size w w2 :=
  h.grown hg h.size fun j hj => (ho.lt j hj).1

theorem measure_step {s : ByteArray} {w wr w' : World} {v v' : Value} {n : Nat} {xs xs' : List Value} {B k : Nat} {e : TypeId} (h : TInv s w v' w') (ho : wr.ownsRow B e k v n xs) (ho' : w'.ownsRow B e k v' (n + 1) xs') : s.size + 1 - sliceLen v' < s.size + 1 - sliceLen v := by
  have h1 := h.len
  rw [own_len ho'] at h1 ⊢
  rw [own_len ho]
  omega

theorem number_yes (s : ByteArray) (w : World) (hw : WOk w) (hs : s.size ≤ 1500) (hd : LexM.headIs LexM.isDigit (bl s) = true) (k : Nat) (hk : k = LexM.span LexM.isDigit (bl s))
    (hok : LexM.numOk ((bl s).take k) ((bl s).drop k) = true) :
    Calls Tryd.prog 24 #[.string s] w fun e w' => e = .returned (.tuple #[.agg #[.int .i64 2, .string (s.extract 0 k), .int .i64 (LexM.numVal ((bl s).take k) : Int), .int .i64 0], .bool true]) ∧ Below w.heap.size w w' := by
  subst hk
  refine (number_any s w hw hs hd).mono ?_
  rintro e w' ⟨⟨v, he, hv⟩, hb⟩
  rw [hok] at he
  rw [hv hok] at he
  exact ⟨he, hb⟩

theorem number_no (s : ByteArray) (w : World) (hw : WOk w) (hs : s.size ≤ 1500) (hd : LexM.headIs LexM.isDigit (bl s) = true) (k : Nat) (hk : k = LexM.span LexM.isDigit (bl s))
    (hok : LexM.numOk ((bl s).take k) ((bl s).drop k) = false) :
    Calls Tryd.prog 24 #[.string s] w fun e w' => (∃ v, e = .returned (.tuple #[.agg #[.int .i64 2, .string (s.extract 0 k), .int .i64 v, .int .i64 0], .bool false])) ∧ Below w.heap.size w w' := by
  subst hk
  refine (number_any s w hw hs hd).mono ?_
  rintro e w' ⟨⟨v, he, hv⟩, hb⟩
  rw [hok] at he
  exact ⟨⟨v, he⟩, hb⟩

theorem heap_new2 (w : World) (o o' : Obj) : ((w.alloc o).alloc o').heap[w.heap.size + 1]? = some o' := by
  show ((w.heap.push o).push o')[w.heap.size + 1]? = _
  rw [Array.getElem?_push, if_pos (by simp)]

theorem opAt_ne {j : Nat} (h : j < 15) : (LexM.opAt j).length ≠ 0 := by
  match j, h with
  | 0, _ | 1, _ | 2, _ | 3, _ | 4, _ | 5, _ | 6, _ | 7, _ | 8, _ | 9, _ | 10, _ | 11, _ | 12, _ | 13, _ | 14, _ => simp [LexM.opAt]

theorem head_at {r : ByteArray} (p : UInt8 → Bool) (h : 0 < r.size) : LexM.headIs p (bl r) = p r[0] := by
  have := bl_drop r 0 h
  rw [List.drop_zero] at this
  rw [this]
  rfl

set_option maxHeartbeats 1000000 in
set_option maxRecDepth 100000 in
theorem tokens_short (s : ByteArray) (w : World) (hw : WOk w) (hs : s.size ≤ 1500) : Calls Tryd.prog 10 #[.string s] w (TokPost s w) := by
  have HW := Lib.hid hw
  clear hw
  have h15 : decide ((1500 : Int) < s.size) = false := by simp; omega
  obtain ⟨i0, hi0, hz0, hz1', hz2'⟩ := info_parts tokInfo
  go_enter Tryd.func10, Tryd.ntmps10
  go_wp2_with fail
  go_step3
  go_wp2_with fail
  go_step3
  go_wp2_with fail
  go_loopw [4] (fun v w' => TInv s w v w') (fun v _ => s.size + 1 - sliceLen v)
  case atStart => exact ⟨[], LexM.Inv.start _, World.ownsRow_nil _ _ _ _, Below.refl _ _⟩
  case round =>
    obtain ⟨L, hi, ho, hb⟩ := hrel
    have hL := hi.le
    have hbd := hi.bd
    have hcn := hi.cnt
    rw [bl_len] at hL hbd
    obtain ⟨a, ha⟩ : ∃ a, a = LexM.atOf L := ⟨_, rfl⟩
    rw [← ha] at hL hcn
    have HAT := at_any w.heap.size _ L wr ho (by omega) (fun t ht => by have := hbd t ht; omega)
    rw [← ha] at HAT
    have HI := Lib.hid hi
    have HO := Lib.hid ho
    have HB := Lib.hid hb
    have HE := Lib.hid ha
    have hLn : L.length ≤ 1500 := by omega
    clear hi ho hb ha hbd hcn
    go_wp2_with fail
    refine HAT.mono ?_
    rintro e w1 ⟨rfl, hb1⟩
    go_wp2_with fail
    refine (trim_any _ _).mono ?_
    rintro e w2 ⟨rfl, hb2⟩
    have hre : LexM.skip (bl (s.extract a s.size)) = LexM.skip ((bl s).drop (LexM.atOf L)) := by rw [ext_end, HE.out]
    rw [hre]
    clear hre
    obtain ⟨R, hR⟩ : ∃ R, R = LexM.skip ((bl s).drop (LexM.atOf L)) := ⟨_, rfl⟩
    rw [← hR]
    have hRl : R.length ≤ s.size := by
      have := LexM.skip_length ((bl s).drop (LexM.atOf L))
      rw [← hR, List.length_drop, bl_len] at this
      omega
    obtain ⟨r, hr⟩ : ∃ r : ByteArray, r = ⟨R.toArray⟩ := ⟨_, rfl⟩
    have hrb : bl r = R := by rw [hr]
    have hrs : r.size = R.length := by rw [← bl_len, hrb]
    rw [← hr]
    have hrl : r.size ≤ s.size := by omega
    have HR := Lib.hid hR
    have HRB := Lib.hid hrb
    have HO2 := Lib.hid (own_later (own_later HO.out hb1) hb2)
    have HB2 := Lib.hid ((HB.out.trans (hb1.mono HB.out.size)).trans (hb2.mono (Nat.le_trans HB.out.size hb1.size)))
    have hz2 := HB2.out.size
    clear hb1 hb2 HAT hR hr hrb hrs hRl HE HB
    by_cases h0 : r.size = 0
    · have he : r.toList.isEmpty = true := empty_yes h0
      clear h0
      go_wp2_with fail
      rw [Exit.noGoto_ret]
      go_ret2
      exact tok_done hs HI.out (by rw [← HR.out, ← HRB.out]; exact empty_bl he) HO2.out HB2.out
    · have he : r.toList.isEmpty = false := empty_no h0
      have h0' : 0 < r.size := by omega
      have hr0 : (0 : Int) < (r.size : Int) := by omega
      clear h0
      have hLt := head_at LexM.isLetter h0'
      have hDg := head_at LexM.isDigit h0'
      rw [← let_byte, ← wrap32_byte] at hLt
      rw [← dig_byte, ← wrap32_byte] at hDg
      by_cases hl : LexM.headIs LexM.isLetter (bl r) = true
      · have hl' : letB (wrap32 (r[0].toNat : Int)) = true := by rw [← hLt]; exact hl
        have HT := Lib.hid (LexM.tok_letter hl)
        obtain ⟨k, hk⟩ : ∃ k, k = LexM.span LexM.isWithin (bl r) := ⟨_, rfl⟩
        have HP := prefix_within r
        have hkr : k ≤ r.size := by have := LexM.span_le LexM.isWithin (bl r); rw [bl_len] at this; omega
        rw [← hk] at HP
        have HK := Lib.hid hk
        clear hl hLt hDg hk
        go_wp2_with fail
        refine (letter_any _ _).mono ?_
        rintro e w3 ⟨rfl, rfl⟩
        go_wp2_with fail
        refine (HP _ (by unfold maxLen; omega)).mono ?_
        rintro e w3 ⟨rfl, pos, rfl⟩
        by_cases h12 : 12 < k
        · have h12' : decide ((12 : Int) < (k : Int)) = true := by simp; omega
          go_wp2_with fail
          rw [Exit.noGoto_ret]
          go_ret2
          refine tok_fail hs (HI.out.fail ?_ ?_) (HB2.out.trans ((Below.refl _ _).alloc hz2 _))
          · rw [← HR.out, ← HRB.out]
            exact bl_ne h0'
          · rw [← HR.out, ← HRB.out, HT.out, ← HK.out, if_neg (by omega)]
        · have h12' : decide ((12 : Int) < (k : Int)) = false := by simp; omega
          have HB3 := Lib.hid (show Below w.heap.size w (w2.iter r pos) from HB2.out.trans ((Below.refl _ _).alloc hz2 _))
          have HO3 := Lib.hid (show (w2.iter r pos).ownsRow w.heap.size 30 4 u4 L.length (tkAll L) from HO2.out.alloc _)
          go_wp2_with (at_builtin; refine wpList_append_own _ rfl _ _ 23 rfl w.heap.size 30 i0 (.agg tok0) 4 40 Tryd.underlying23 hi0 hz0 hz1' hz2' rfl (by omega) _ _ _ rfl (HO3.out.alloc _) _ 1 1 [.int .i64 1, .string (r.extract 0 k), .int .i64 0, .int .i64 ((s.size : Int) - r.size)] rfl rfl ?c1 ?c2 ?c3 ?c4 ?c5 ?_)
          case c1 => exact World.news_of_block (heap_alloc_new _ _)
          case c2 => simp [Value.oneCell']
          case c3 => unfold maxLen; omega
          case c4 => omega
          case c5 => simp [World.iter]; omega
          intro v' w3 hown' hgrow _
          have HO4 := Lib.hid hown'
          have HG := Lib.hid hgrow
          clear hown' hgrow
          go_wp2_with fail
          have HT' : TInv s w v' w3 := tok_step HI.out HR.out HRB.out hrl h0' (by rw [← HRB.out, HT.out, ← HK.out, if_pos (by omega)]) (by rw [ext0, HRB.out]) HO4.out (below_grown_row (HB3.out.trans ((Below.refl _ _).alloc HB3.out.size _)) (HO3.out.alloc _) HG.out)
          go_roundw
          case rel => exact HT'
          case measure => exact measure_step HT' HO.out HO4.out
      · have hlf : LexM.headIs LexM.isLetter (bl r) = false := by simpa using hl
        have hl' : letB (wrap32 (r[0].toNat : Int)) = false := by rw [← hLt]; exact hlf
        by_cases hd : LexM.headIs LexM.isDigit (bl r) = true
        · have hd' : digB (wrap32 (r[0].toNat : Int)) = true := by rw [← hDg]; exact hd
          have HT := Lib.hid (LexM.tok_digit hlf hd)
          obtain ⟨k, hk⟩ : ∃ k, k = LexM.span LexM.isDigit (bl r) := ⟨_, rfl⟩
          have HK := Lib.hid hk
          have HWr := Lib.hid (HW.out.below HB2.out HW.out.big)
          by_cases hok : LexM.numOk ((bl r).take k) ((bl r).drop k) = true
          · have HN := number_yes r w2 HWr.out (by omega) hd k hk hok
            have HOK := Lib.hid hok
            clear hl hlf hd hLt hDg hk hok
            go_wp2_with fail
            refine (letter_any _ _).mono ?_
            rintro e w3 ⟨rfl, rfl⟩
            go_wp2_with fail
            refine (digit_any _ _).mono ?_
            rintro e w3 ⟨rfl, rfl⟩
            go_wp2_with fail
            refine HN.mono ?_
            rintro e w3 ⟨rfl, hb3⟩
            have HB3 := Lib.hid (HB2.out.trans (hb3.mono hz2))
            have HO3 := Lib.hid (own_later HO2.out hb3)
            have hz3 := HB3.out.size
            clear hb3
            go_wp2_with (at_builtin; refine wpList_append_own _ rfl _ _ 23 rfl w.heap.size 30 i0 (.agg tok0) 4 40 Tryd.underlying23 hi0 hz0 hz1' hz2' rfl (by omega) _ _ _ rfl ((HO3.out.alloc _).alloc _) _ 1 1 [.int .i64 2, .string (r.extract 0 k), .int .i64 (LexM.numVal ((bl r).take k) : Int), .int .i64 ((s.size : Int) - r.size)] rfl rfl ?c1 ?c2 ?c3 ?c4 ?c5 ?_)
            case c1 => exact World.news_of_block (heap_new2 _ _ _)
            case c2 => simp [Value.oneCell']
            case c3 => unfold maxLen; omega
            case c4 => omega
            case c5 => simp; omega
            intro v' w4 hown' hgrow _
            have HO4 := Lib.hid hown'
            have HG := Lib.hid hgrow
            clear hown' hgrow
            go_wp2_with fail
            have HT' : TInv s w v' w4 := tok_step HI.out HR.out HRB.out hrl h0' (by rw [← HRB.out, HT.out, ← HK.out, if_pos HOK.out]) (by rw [ext0, HRB.out]) HO4.out (below_grown_row ((HB3.out.trans ((Below.refl _ _).alloc HB3.out.size _)).trans ((Below.refl _ _).alloc (by simp; omega) _)) ((HO3.out.alloc _).alloc _) HG.out)
            go_roundw
            case rel => exact HT'
            case measure => exact measure_step HT' HO.out HO4.out
          · have HN := number_no r w2 HWr.out (by omega) hd k hk (by simpa using hok)
            have HOK := Lib.hid (show LexM.numOk ((bl r).take k) ((bl r).drop k) = false by simpa using hok)
            clear hl hlf hd hLt hDg hk hok
            go_wp2_with fail
            refine (letter_any _ _).mono ?_
            rintro e w3 ⟨rfl, rfl⟩
            go_wp2_with fail
            refine (digit_any _ _).mono ?_
            rintro e w3 ⟨rfl, rfl⟩
            go_wp2_with fail
            refine HN.mono ?_
            rintro e w3 ⟨⟨v, rfl⟩, hb3⟩
            have HB3 := Lib.hid (HB2.out.trans (hb3.mono hz2))
            have hz3 := HB3.out.size
            clear hb3
            go_wp2_with fail
            rw [Exit.noGoto_ret]
            go_ret2
            refine tok_fail hs (HI.out.fail ?_ ?_) (HB3.out.trans ((Below.refl _ _).alloc hz3 _))
            · rw [← HR.out, ← HRB.out]
              exact bl_ne h0'
            · rw [← HR.out, ← HRB.out, HT.out, ← HK.out, if_neg (by rw [HOK.out]; simp)]
        · have hdf : LexM.headIs LexM.isDigit (bl r) = false := by simpa using hd
          have hd' : digB (wrap32 (r[0].toNat : Int)) = false := by rw [← hDg]; exact hdf
          have HT := Lib.hid (LexM.tok_sign hlf hdf)
          clear hl hlf hd hdf hLt hDg
          go_wp2_with fail
          refine (letter_any _ _).mono ?_
          rintro e w3 ⟨rfl, rfl⟩
          go_wp2_with fail
          refine (digit_any _ _).mono ?_
          rintro e w3 ⟨rfl, rfl⟩
          go_wp2_with fail
          refine (operators_any _).mono ?_
          rintro e w3 ⟨rfl, rfl⟩
          go_wp2_with fail
          go_loop [4, 64] (fun v i => v = u4 ∧ ∃ j : Nat, j ≤ 15 ∧ i = .int .i64 j ∧ Hid (∀ t, t < j → Lib.hasPrefix R (LexM.opAt t) = false)) (fun _ i => 15 - (intOf i).toNat)
          case atStart => exact ⟨rfl, 0, by omega, rfl, fun t ht => by omega⟩
          case round =>
            obtain ⟨rfl, j, hj, rfl, HP⟩ := hrel
            by_cases hj' : j < 15
            · have hix := fun W => index_op j hj' W
              have HH := fun W => (Tryd.strings_HasPrefix r (opB j) W)
              rw [show (opB j).data.toList = LexM.opAt j from rfl, show r.data.toList = R from HRB.out] at HH
              by_cases hy : Lib.hasPrefix R (LexM.opAt j) = true
              · have HY := Lib.hid hy
                rw [hy] at HH
                have HNO := HP
                clear hy HP
                go_wp2_with fail
                refine (HH _).mono ?_
                rintro e W' ⟨rfl, rfl⟩
                have hj63 : (j : Int) ≤ 15 := by omega
                go_wp2_with (at_builtin; refine wpList_append_own _ rfl _ _ 23 rfl w.heap.size 30 i0 (.agg tok0) 4 40 Tryd.underlying23 hi0 hz0 hz1' hz2' rfl (by omega) _ _ _ rfl ((HO2.out.alloc _).alloc _) _ 1 1 [.int .i64 3, .string (opB j), .int .i64 0, .int .i64 ((s.size : Int) - r.size)] rfl rfl ?c1 ?c2 ?c3 ?c4 ?c5 ?_)
                case c1 => exact World.news_of_block (heap_new2 _ _ _)
                case c2 => simp [Value.oneCell']
                case c3 => unfold maxLen; omega
                case c4 => omega
                case c5 => simp; omega
                intro v' w4 hown' hgrow _
                have HO4 := Lib.hid hown'
                have HG := Lib.hid hgrow
                clear hown' hgrow
                go_wp2_with fail
                have hsg := LexM.sign_first hj' HNO.out HY.out
                have HT' : TInv s w v' w4 := tok_step (k := LexM.sign R) HI.out HR.out HRB.out hrl h0' (by rw [← HRB.out, HT.out, HRB.out, if_neg (by rw [hsg.1]; exact opAt_ne hj')]) (by rw [hsg.1, hsg.2]; rfl) HO4.out (below_grown_row ((HB2.out.trans ((Below.refl _ _).alloc HB2.out.size _)).trans ((Below.refl _ _).alloc (by simp; omega) _)) ((HO2.out.alloc _).alloc _) HG.out)
                go_roundw
                case rel => exact HT'
                case measure => exact measure_step HT' HO.out HO4.out
              · have hn : Lib.hasPrefix R (LexM.opAt j) = false := by simpa using hy
                rw [hn] at HH
                have HN := Lib.hid hn
                clear hy hn
                go_wp2_with fail
                refine (HH _).mono ?_
                rintro e W' ⟨rfl, rfl⟩
                go_wp2_with fail
                go_round
                case rel => exact ⟨rfl, j + 1, by omega, by go_num, fun t ht => by
                  rcases Nat.lt_or_ge t j with h | h
                  · exact HP.out t h
                  · rw [show t = j by omega]; exact HN.out⟩
                case measure => simp [intOf]; omega
            · obtain rfl : j = 15 := by omega
              go_wp2_with fail
              go_ret2
              refine tok_fail hs (HI.out.fail ?_ ?_) (HB2.out.trans ((Below.refl _ _).alloc hz2 _))
              · rw [← HR.out, ← HRB.out]
                exact bl_ne h0'
              · rw [← HR.out, ← HRB.out, HT.out, HRB.out, if_pos (LexM.sign_none HP.out)]

set_option maxHeartbeats 400000 in
set_option maxRecDepth 100000 in
theorem tokens_long (s : ByteArray) (w : World) (hs : ¬ s.size ≤ 1500) (hm : s.size ≤ maxLen) : Calls Tryd.prog 10 #[.string s] w (TokPost s w) := by
  unfold maxLen at hm
  have h15 : decide ((1500 : Int) < s.size) = true := by simp; omega
  have HH := Lib.hid hs
  clear hs
  go_enter Tryd.func10, Tryd.ntmps10
  go_wp2_with fail
  go_step3
  go_wp2_with fail
  rw [Exit.noGoto_ret]
  go_ret2
  have ht : LexM.tokens (bl s) = ([], 2) := by
    unfold LexM.tokens
    rw [if_pos (by rw [bl_len]; have := HH.out; omega)]
  unfold TokPost
  rw [ht]
  exact ⟨_, rfl, World.ownsRow_nil _ _ _ _, Below.refl _ _⟩

/-- THE CONTRACT OF lex.Tokens: at every string what the model says. -/
theorem tokens_any (s : ByteArray) (w : World) (hw : WOk w) (hm : s.size ≤ maxLen) : Calls Tryd.prog 10 #[.string s] w (TokPost s w) := by
  by_cases hs : s.size ≤ 1500
  · exact tokens_short s w hw hs
  · exact tokens_long s w hs hm

end Go.Proofs.YtnanhebepjdlcaaDoor
