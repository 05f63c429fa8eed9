/- ScriptLines: the walk. -/
import Derived.Test.YtnanhebepjdlcabDoorLawA
import Derived.Laws.AppendOwnNone
namespace ScrM

theorem parse_join {a b : List UInt8} {L M : List Cm} (h1 : parse a = (L, 0)) (h2 : parse b = (M, 0)) (hl : L.length ≤ 100) (hm : M.length ≤ 100) : parse (a ++ 10 :: b) = (L ++ M, 0) := by
  unfold parse
  rw [parseL_join, (parse_ok h1).1, (parse_ok h2).1]
  simp only
  rw [if_neg (by simp; omega)]

theorem parse_three {s : List UInt8} {L : List Cm} (h : parse s = (L, 3)) : parseL s = none := by
  unfold parse at h
  cases hp : parseL s with
  | none => rfl
  | some l =>
    rw [hp] at h
    have h2 := congrArg Prod.snd h
    simp only at h2
    by_cases hl : 400 < l.length
    · rw [if_pos hl] at h2
      exact absurd (show (2 : Int) = 3 from h2) (by decide)
    · rw [if_neg hl] at h2
      exact absurd (show (0 : Int) = 3 from h2) (by decide)

theorem parse_join_bad {a b : List UInt8} {L M : List Cm} {e f : Int} (h1 : parse a = (L, e)) (h2 : parse b = (M, f)) (h : e = 3 ∨ f = 3) : parse (a ++ 10 :: b) = ([], 3) := by
  have hn : parseL (a ++ 10 :: b) = none := by
    rw [parseL_join]
    rcases h with rfl | rfl
    · rw [parse_three h1]
    · rw [parse_three h2]
      cases parseL a <;> rfl
  unfold parse
  rw [hn]

end ScrM
namespace Go.Proofs.YtnanhebepjdlcabDoor
open Go.RowKit

/-- A whole row, read, is put behind a row of one's own; the operation may be guarded. -/
theorem wpList_append_row {P : Program} (w : World) {ops : Array Oper} {rest : List Oper} {o : Oper} {a : Act} {Q : Exit → Act → World → Prop} (hgd : Region.wanted o (yielded ops a.tmps) = true) (s x : Operand) (t : TypeId)
    (ho : o.op = .call { callee := .builtin .append, args := #[s, x], argTypes := #[t, t] })
    (base : Nat) (e : TypeId) (i : TypeInfo) (z : Value) (size bytes : Nat) (ht : P.underlying t = some (.slice e)) (hi : P.info? e = some i) (hz : i.zero = some z)
    (hsize : i.size = size) (hby : i.bytes = bytes) (hzs : z.cells.size = size) (hsz : 0 < size)
    (v : Value) (n : Nat) (xs : List Value) (hs : a.eval s = v) (hown : w.ownsRow base e size v n xs)
    (b' : Nat) (v' : Value) (m : Nat) (news : List Value) (hx : a.eval x = v') (hown' : w.ownsRow b' e size v' m news) (h1 : ∀ u ∈ news, u.oneCell' = true)
    (h63 : n + m ≤ maxLen) (hbytes : (n + m) * bytes ≤ 140737488355328) (hbase : base ≤ w.heap.size)
    (h : ∀ u w', w'.ownsRow base e size u (n + m) (xs ++ news) → w.grownBy w' v.ownBlock → wpList P ops Q rest (a.put o.dst u) w') : wpList P ops Q (o :: rest) a w := by
  have hl := hown'.1
  refine BigFrame.wpList_want hgd fun K hK => ?_
  rcases hown'.2 with ⟨rfl, rfl⟩ | ⟨g, cap, cur, rfl, h2, h3, h4, h5, h6, h7⟩
  · obtain rfl : news = [] := List.eq_nil_of_length_eq_zero (by omega)
    have hrun := run_append_owned_none (P := P) (w := w) base t o.type e i size ht hi v n xs hown
    unfold Oper.wp
    simp [execOp, ho, resolve, invoke, builtin, hs, hx, hrun, Result.andThen]
    exact hK _ _ (h v w (by simpa using hown) ⟨rfl, rfl, rfl, Nat.le_refl _, fun _ _ _ => rfl⟩)
  · refine wp_append_own w s x t ho base e i z size bytes ht hi hz hsize hby hzs hsz v n xs hs hown ⟨g, 0, none⟩ m cap news hx hl (fun j u hj => ?_) h1 h63 hbytes hbase (fun u w' h8 h9 _ => hK _ _ (h u w' h8 h9))
    have hjl : j < news.length := (List.getElem?_eq_some_iff.1 hj).1
    have := hown'.cellAt j (by omega)
    rw [← this] at hj
    rw [← hj]
    cases j <;> simp [Addr.add]

theorem cmRow_one (M : List CmA) : ∀ u ∈ cmRow M, u.oneCell' = true := by
  intro u hu
  obtain ⟨p, _, hup⟩ := List.mem_flatMap.1 hu
  simp only [cmCells, List.mem_cons, List.not_mem_nil, or_false] at hup
  rcases hup with rfl | rfl | rfl | rfl | rfl <;> rfl

theorem cmRow_append (M N : List CmA) : cmRow (M ++ N) = cmRow M ++ cmRow N := by simp [cmRow]

/-- Parse, used: the commands' own rows at hand. -/
theorem parse_own (s : ByteArray) (w : World) (hw : WOk w) (hs : s.size ≤ 90000) (L : List ScrM.Cm) (er : Int) (hp : ScrM.parse (bl s) = (L, er)) :
    Calls Tryd.prog 10 #[.string s] w fun e w' => ∃ A c M, e = .returned (.tuple #[.slice A L.length c, .int .i64 er]) ∧ List.map Prod.fst M = L ∧ OwnCmds w' w.heap.size (.slice A L.length c) M ∧ Below w.heap.size w w' := by
  refine (parse_any s w hw hs).mono ?_
  rintro e w' ⟨v, M, rfl, hM, ho, hb⟩
  rw [hp] at hM ⊢
  simp only at hM
  obtain ⟨A, n, c, rfl⟩ := own_slice ho.1
  have hn := own_len ho.1
  have hl : M.length = L.length := by rw [← hM, List.length_map]
  rw [hl] at hn
  subst hn
  exact ⟨A, c, M, rfl, hM, ho, hb⟩

theorem own_empty (w : World) (e : TypeId) : (w.alloc (.cells #[] e)).ownsRow w.heap.size e 5 (.slice (some ⟨w.heap.size, 0, none⟩) 0 0) 0 [] :=
  ⟨rfl, .inr ⟨_, 0, #[], rfl, Nat.le_refl _, heap_alloc_new _ _, Nat.le_refl _, by unfold maxLen; omega, rfl, rfl⟩⟩

theorem reads_grown {w w5 w6 : World} {A : Option Addr} {L : List ScrM.Cm} (h : CmReads w w.heap.size A L) (h5 : Below w.heap.size w w5) (h6 : Below w.heap.size w5 w6) : CmReads w6 w6.heap.size A L :=
  (h.below (h5.trans h6)).more (Nat.le_trans h5.size h6.size)

set_option maxHeartbeats 2000000 in
set_option maxRecDepth 100000 in
theorem lines_any (a b : ByteArray) (w : World) (hw : WOk w) (_ha : a.size ≤ maxLen) (_hb : b.size ≤ maxLen) :
    Calls Tryd.prog 8 #[.string a, .string b] w fun e w' => e = .returned (.bool true) ∧ Below w.heap.size w w' := by
  have HW := Lib.hid hw
  by_cases hs : a.size ≤ 1500 ∧ b.size ≤ 1500
  · obtain ⟨hsa, hsb⟩ := hs
    have hd1 : decide ((1500 : Int) < (a.size : Int)) = false := decide_eq_false (by omega)
    have hd2 : decide ((1500 : Int) < (b.size : Int)) = false := decide_eq_false (by omega)
    obtain ⟨L, e1, hp1⟩ : ∃ L er, ScrM.parse (bl a) = (L, er) := ⟨_, _, rfl⟩
    obtain ⟨M, e2, hp2⟩ : ∃ L er, ScrM.parse (bl b) = (L, er) := ⟨_, _, rfl⟩
    obtain ⟨K, e3, hp3⟩ : ∃ L er, ScrM.parse (bl (a ++ ⟨#[10]⟩ ++ b)) = (L, er) := ⟨_, _, rfl⟩
    have hbl : bl (a ++ ⟨#[10]⟩ ++ b) = bl a ++ 10 :: bl b := by rw [bl_append, bl_append]; simp [bl]
    have hsz1 : (a ++ (⟨#[10]⟩ : ByteArray)).size = a.size + 1 := size_nl a
    have hsz2 : (a ++ (⟨#[10]⟩ : ByteArray) ++ b).size ≤ 90000 := by rw [ByteArray.size_append, hsz1]; omega
    have HBL := Lib.hid hbl
    have HP1 := Lib.hid hp1
    have HP2 := Lib.hid hp2
    have HP3 := Lib.hid hp3
    clear hbl hp1 hp2 hp3
    go_enter Tryd.func8, Tryd.ntmps8
    go_wp2_with fail
    refine (sanity_any w hw).mono ?_
    rintro e w1 ⟨rfl, hb1⟩
    have HB1 := Lib.hid hb1
    clear hb1 hw
    go_wp2_with fail
    refine (parse_own a w1 (HW.out.later HB1.out) (by omega) L e1 HP1.out).mono ?_
    rintro e w2 ⟨A1, c1, M1, rfl, hM1, ho1, hb2⟩
    have HM1 := Lib.hid hM1
    have HO1 := Lib.hid ho1
    have HB2 := Lib.hid (HB1.out.trans (hb2.mono HB1.out.size))
    clear hM1 ho1 hb2
    go_wp2_with fail
    refine (parse_own b w2 (HW.out.later HB2.out) (by omega) M e2 HP2.out).mono ?_
    rintro e w3 ⟨A2, c2, M2, rfl, hM2, ho2, hb3⟩
    have HM2 := Lib.hid hM2
    have HO2 := Lib.hid ho2
    have HO13 := Lib.hid (HO1.out.below hb3)
    have HB3 := Lib.hid (HB2.out.trans (hb3.mono HB2.out.size))
    clear hM2 ho2 hb3
    go_wp2_with fail
    generalize a ++ (⟨#[10]⟩ : ByteArray) ++ b = ab at HP3 hsz2 HBL ⊢
    refine (parse_use ab w3 (HW.out.later HB3.out) hsz2 K e3 HP3.out).mono ?_
    rintro e w4 ⟨A3, c3, rfl, hr4, hb4⟩
    have HO14 := Lib.hid (HO13.out.below hb4)
    have HO24 := Lib.hid (HO2.out.below hb4)
    have HB4 := Lib.hid (HB3.out.trans (hb4.mono HB3.out.size))
    have HR4 := Lib.hid hr4
    clear hr4 hb4
    by_cases h3 : e1 = 3 ∨ e2 = 3
    · have HJ := Lib.hid (ScrM.parse_join_bad HP1.out HP2.out h3)
      rw [← HBL.out, HP3.out] at HJ
      have he3 : e3 = 3 := by have := HJ.out; injection this
      subst he3
      by_cases h31 : e1 = 3
      · subst h31
        go_wp2_with fail
        go_ret
        exact ⟨rfl, HB4.out⟩
      · have h32 : e2 = 3 := by omega
        subst h32
        have q1 : (e1 == 3) = false := beq_eq_false_iff_ne.2 h31
        go_wp2_with fail
        go_ret
        exact ⟨rfl, HB4.out⟩
    · have h31 : ¬ e1 = 3 := fun h => h3 (.inl h)
      have h32 : ¬ e2 = 3 := fun h => h3 (.inr h)
      have q1 : (e1 == 3) = false := beq_eq_false_iff_ne.2 h31
      have q2 : (e2 == 3) = false := beq_eq_false_iff_ne.2 h32
      by_cases hgo : L.length ≤ 100 ∧ M.length ≤ 100 ∧ e1 = 0 ∧ e2 = 0
      · obtain ⟨hl1, hl2, rfl, rfl⟩ := hgo
        have HJ := Lib.hid (ScrM.parse_join HP1.out HP2.out hl1 hl2)
        rw [← HBL.out, HP3.out] at HJ
        have he3 : e3 = 0 := by have := HJ.out; injection this
        have hK : K = L ++ M := by have := HJ.out; injection this
        subst he3
        have HV := Lib.hid (ScrM.parse_valid HP3.out)
        have hlM1 : M1.length = L.length := by rw [← HM1.out, List.length_map]
        have hlM2 : M2.length = M.length := by rw [← HM2.out, List.length_map]
        have HL1 := Lib.hid hlM1
        have HL2 := Lib.hid hlM2
        have p1 : decide ((100 : Int) < (L.length : Int)) = false := decide_eq_false (by omega)
        have p2 : decide ((100 : Int) < (M.length : Int)) = false := decide_eq_false (by omega)
        obtain ⟨i0, hi0, hz0, hz1, hz2⟩ := info_parts cmInfo
        clear hlM1 hlM2
        go_wp2_with (at_builtin; refine wpList_append_row _ (by rfl) _ _ 23 rfl w4.heap.size 31 i0 (.agg zeroCm) 5 56 Tryd.underlying23 hi0 hz0 hz1 hz2 rfl (by omega) (.slice (some ⟨w4.heap.size, 0, none⟩) 0 0) 0 [] rfl (own_empty w4 _) _ (.slice A1 L.length c1) L.length (cmRow M1) rfl (by have := (HO14.out.below ((Below.refl _ _).alloc (Nat.le_refl _) (.cells #[] 31))).1; rw [HL1.out] at this; exact this) (cmRow_one M1) (by unfold maxLen; omega) (by omega) (by simp) ?_)
        intro u w5 ho5 hg5
        have hb5 : Below w4.heap.size w4 w5 := ((Below.refl _ _).alloc (Nat.le_refl _) _).grown hg5 (by simp) (fun q hq => Nat.le_of_eq (by injection hq))
        have HO5 := Lib.hid ho5
        have HB5 := Lib.hid hb5
        have HO25 := Lib.hid (HO24.out.below hb5)
        have HO15 := Lib.hid (HO14.out.below hb5)
        have HR5 := Lib.hid ((HR4.out.below hb5).more hb5.size)
        have hs5 := hb5.size
        obtain ⟨A5, n5, c5, rfl⟩ := own_slice ho5
        have hn5 : n5 = L.length := own_len ho5
        subst hn5
        clear ho5 hg5 hb5
        go_wp2_with (at_builtin; refine wpList_append_row _ (by rfl) _ _ 23 rfl w4.heap.size 31 i0 (.agg zeroCm) 5 56 Tryd.underlying23 hi0 hz0 hz1 hz2 rfl (by omega) (.slice A5 L.length c5) L.length (cmRow M1) rfl HO5.out _ (.slice A2 M.length c2) M.length (cmRow M2) rfl (by have := HO25.out.1; rw [HL2.out] at this; exact this) (cmRow_one M2) (by unfold maxLen; omega) (by omega) (by omega) ?_)
        intro u w6 ho6 hg6
        have hb6 : Below w4.heap.size w5 w6 := (Below.refl _ _).grown hg6 hs5 (fun q hq => (HO5.out.lt q hq).1)
        have hb6' := reads_grown HR4.out HB5.out hb6
        obtain ⟨A6, n6, c6, rfl⟩ := own_slice ho6
        have hn6 : n6 = L.length + M.length := own_len ho6
        have hKl : L.length + M.length = K.length := by rw [hK]; simp
        have hU : OwnCmds w6 0 (.slice A6 n6 c6) (M1 ++ M2) := by
          refine ⟨?_, fun p hp => ?_⟩
          · have e1 : (M1 ++ M2).length = L.length + M.length := by rw [List.length_append, HL1.out, HL2.out]
            rw [e1, cmRow_append]
            exact own_less ho6 (Nat.zero_le _)
          · have hq : w5.ownsRow 0 3 1 (.slice p.2.1 p.1.args.length p.2.2) p.1.args.length (intsV p.1.args) := by
              rcases List.mem_append.1 hp with hp | hp
              · exact own_less (HO15.out.2 p hp) (Nat.zero_le _)
              · exact own_less (HO25.out.2 p hp) (Nat.zero_le _)
            exact hq.kept hg6 (own_apart hq HO5.out (by decide))
        have hmap : (M1 ++ M2).map Prod.fst = K := by rw [List.map_append, HM1.out, HM2.out, hK]
        have hRU := CmReads.of_own hU
        rw [hmap] at hRU
        rw [hKl] at hn6
        subst hn6
        have hcall := same_yes A3 A6 c3 c6 K w6 hb6' hRU (by rw [← hKl]; omega) (fun cm hcm => by have := ScrM.valid_args (HV.out cm hcm); omega)
        have HB6 := Lib.hid (HB4.out.trans (HB5.out.trans hb6 |>.mono HB4.out.size))
        clear hU hRU hmap hK ho6 hg6 hb6 hb6'
        go_wp2_with fail
        refine hcall.mono ?_
        rintro e w7 ⟨rfl, hb7⟩
        go_wp2_with fail
        go_ret
        exact ⟨rfl, HB6.out.trans (hb7.mono HB6.out.size)⟩
      · have hbad : (decide ((100 : Int) < (L.length : Int)) || decide ((100 : Int) < (M.length : Int)) || (e1 != 0) || (e2 != 0)) = true := by
          simp only [Bool.or_eq_true, decide_eq_true_eq, bne_iff_ne]
          omega
        cases p1 : decide ((100 : Int) < (L.length : Int)) <;> cases p2 : decide ((100 : Int) < (M.length : Int)) <;> cases p3 : (e1 != 0) <;> cases p4 : (e2 != 0) <;> rw [p1, p2, p3, p4] at hbad
        · cases hbad
        all_goals
          clear hbad hgo
          go_wp2_with fail
          go_ret
          exact ⟨rfl, HB4.out⟩
  · have hd : (decide ((1500 : Int) < (a.size : Int)) || decide ((1500 : Int) < (b.size : Int))) = true := by
      rw [Bool.or_eq_true, decide_eq_true_eq, decide_eq_true_eq]
      omega
    cases hd1 : decide ((1500 : Int) < (a.size : Int)) <;> cases hd2 : decide ((1500 : Int) < (b.size : Int)) <;> rw [hd1, hd2] at hd
    · cases hd
    all_goals
      clear hd
      go_enter Tryd.func8, Tryd.ntmps8
      go_wp2_with fail
      refine (sanity_any w hw).mono ?_
      rintro e w1 ⟨rfl, hb1⟩
      go_wp2_with fail
      go_ret
      exact ⟨rfl, hb1⟩

end Go.Proofs.YtnanhebepjdlcabDoor
