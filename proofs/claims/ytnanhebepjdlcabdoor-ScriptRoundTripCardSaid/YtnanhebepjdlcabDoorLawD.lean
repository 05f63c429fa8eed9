/- ScriptRoundTrip: the walk. -/
import Derived.Test.YtnanhebepjdlcabDoorLawB
namespace ScrM

/-- A list, i times. -/
def rep {α : Type} (L : List α) : Nat → List α
  | 0 => []
  | i + 1 => rep L i ++ L

theorem rep_length {α : Type} (L : List α) : ∀ i, (rep L i).length = i * L.length
  | 0 => by simp [rep]
  | i + 1 => by rw [rep, List.length_append, rep_length L i, Nat.succ_mul]

theorem rep_mem {α : Type} {L : List α} {x : α} : ∀ i, x ∈ rep L i → x ∈ L
  | 0, h => by simp [rep] at h
  | i + 1, h => by
    rw [rep] at h
    rcases List.mem_append.1 h with h | h
    · exact rep_mem i h
    · exact h

theorem rep_map {α β : Type} (f : α → β) (L : List α) : ∀ i, (rep L i).map f = rep (L.map f) i
  | 0 => rfl
  | i + 1 => by rw [rep, rep, List.map_append, rep_map f L i]

theorem vAll_spec {L : List Cm} (h : vAll L = true) : ∀ c ∈ L, valid c = true := by
  intro c hc
  rw [vAll, List.all_eq_true] at h
  have := h c hc
  simp only [Bool.and_eq_true] at this
  exact this.2

theorem parse_shown {L : List Cm} (h : ∀ c ∈ L, valid c = true) : parse (textL L) = if 400 < L.length then ([], 2) else (L, 0) := by
  unfold parse
  rw [parse_text L h]

end ScrM
namespace Go.Proofs.YtnanhebepjdlcabDoor
open Go.RowKit

/-- The commands at A, cell by cell. -/
theorem reads_cells : ∀ (n : Nat) (w : World) (B g o : Nat) (L : List ScrM.Cm), L.length = n → (∀ k cm, L[k]? = some cm → CmAt w B g (o + k * 5) cm) →
    ∃ M : List CmA, M.map Prod.fst = L ∧ (∀ p ∈ M, ArgsAt w B p.2.1 p.2.2 p.1.args) ∧ ∀ j u, (cmRow M)[j]? = some u → w.cell? ⟨g, o + j, none⟩ = some u
  | 0, w, B, g, o, L, hl, _ => by
    have : L = [] := List.eq_nil_of_length_eq_zero hl
    subst this
    exact ⟨[], rfl, (fun _ hp => nomatch hp), (fun j u h => by simp [cmRow] at h)⟩
  | n + 1, w, B, g, o, L, hl, h => by
    cases L with
    | nil => simp at hl
    | cons cm L =>
      obtain ⟨Aa, ca, ha, d0, d1, d2, d3, d4⟩ := h 0 cm rfl
      simp only [Nat.zero_mul, Nat.add_zero] at d0 d1 d2 d3 d4
      obtain ⟨M, hM, hA, hc⟩ := reads_cells n w B g (o + 5) L (by simpa using hl) (fun k c hk => by
        have := h (k + 1) c (by simpa using hk)
        rw [show o + 5 + k * 5 = o + (k + 1) * 5 by omega]
        exact this)
      refine ⟨(cm, Aa, ca) :: M, by rw [List.map_cons, hM], fun p hp => ?_, fun j u hj => ?_⟩
      · rcases List.mem_cons.1 hp with rfl | hp
        · exact ha
        · exact hA p hp
      · rw [cmRow, List.flatMap_cons] at hj
        by_cases hj5 : j < 5
        · rw [List.getElem?_append_left (by simp [cmCells]; omega)] at hj
          have hj' : j = 0 ∨ j = 1 ∨ j = 2 ∨ j = 3 ∨ j = 4 := by omega
          rcases hj' with rfl | rfl | rfl | rfl | rfl <;> (injection hj with hj; subst hj; first | exact d0 | exact d1 | exact d2 | exact d3 | exact d4)
        · rw [List.getElem?_append_right (by simp [cmCells]; omega)] at hj
          have := hc (j - 5) u hj
          rw [show o + 5 + (j - 5) = o + j by omega] at this
          exact this

/-- A row of one's own whose commands' arguments are read elsewhere. -/
theorem reads_own {w : World} {base B : Nat} {A : Option Addr} {m c : Nat} {M : List CmA} (h : w.ownsRow base 31 5 (.slice A m c) M.length (cmRow M)) (ha : ∀ p ∈ M, ArgsAt w B p.2.1 p.2.2 p.1.args) (hB : B ≤ w.heap.size) : CmReads w w.heap.size A (M.map Prod.fst) := fun hn => by
  rw [List.length_map] at hn
  rcases h.2 with ⟨_, h2⟩ | ⟨g, cap, cur, h1, h2, h3, h4, _⟩
  · omega
  · injection h1 with h1 hm hc
    refine ⟨g, 0, h1, blk_lt h3, fun k cm hk => ?_⟩
    rw [List.getElem?_map] at hk
    obtain ⟨p, hp, rfl⟩ := Option.map_eq_some_iff.1 hk
    have hc : ∀ (j : Nat) (v : Value), j < 5 → (cmCells p.1 p.2.1 p.2.2)[j]? = some v → w.cell? ⟨g, 0 + k * 5 + j, none⟩ = some v := fun j v hj hv => by
      have := h.cells (by rw [h1]; rfl) (k * 5 + j) v (by rw [cmRow_at M k p j hp hj]; exact hv)
      rw [Addr.add_mid] at this
      rw [show 0 + k * 5 + j = 0 + (k * 5 + j) by omega]
      exact this
    exact ⟨p.2.1, p.2.2, (ha p (List.mem_of_getElem? hp)).more hB, hc 0 _ (by omega) rfl, hc 1 _ (by omega) rfl, hc 2 _ (by omega) rfl, hc 3 _ (by omega) rfl, hc 4 _ (by omega) rfl⟩

/-- What a slice holds is put behind a row of one's own. -/
theorem wpList_append_slice {P : Program} (w : World) {ops : Array Oper} {rest : List Oper} {o : Oper} {a : Act} {Q : Exit → Act → World → Prop} (hgd : Region.wanted o (yielded ops a.tmps) = true) (s x : Operand) (t : TypeId)
    (ho : o.op = .call { callee := .builtin .append, args := #[s, x], argTypes := #[t, t] })
    (base : Nat) (e : TypeId) (i : TypeInfo) (z : Value) (size bytes : Nat) (ht : P.underlying t = some (.slice e)) (hi : P.info? e = some i) (hz : i.zero = some z)
    (hsize : i.size = size) (hby : i.bytes = bytes) (hzs : z.cells.size = size) (hsz : 0 < size)
    (v : Value) (n : Nat) (xs : List Value) (hs : a.eval s = v) (hown : w.ownsRow base e size v n xs)
    (A : Option Addr) (m c : Nat) (news : List Value) (hx : a.eval x = .slice A m c) (hl : news.length = m * size) (hnone : A = none → m = 0 ∧ c = 0)
    (hnews : ∀ ad, A = some ad → ∀ j u, news[j]? = some u → w.cell? (ad.add j) = some u) (h1 : ∀ u ∈ news, u.oneCell' = true)
    (h63 : n + m ≤ maxLen) (hbytes : (n + m) * bytes ≤ 140737488355328) (hbase : base ≤ w.heap.size)
    (h : ∀ u w', w'.ownsRow base e size u (n + m) (xs ++ news) → w.grownBy w' v.ownBlock → wpList P ops Q rest (a.put o.dst u) w') : wpList P ops Q (o :: rest) a w := by
  refine BigFrame.wpList_want hgd fun K hK => ?_
  cases A with
  | none =>
    obtain ⟨rfl, rfl⟩ := hnone rfl
    obtain rfl : news = [] := List.eq_nil_of_length_eq_zero (by omega)
    have hrun := run_append_owned_none (P := P) (w := w) base t o.type e i size ht hi v n xs hown
    unfold Oper.wp
    simp [execOp, ho, resolve, invoke, builtin, hs, hx, hrun, Result.andThen]
    exact hK _ _ (h v w (by simpa using hown) ⟨rfl, rfl, rfl, Nat.le_refl _, fun _ _ _ => rfl⟩)
  | some ad =>
    exact wp_append_own w s x t ho base e i z size bytes ht hi hz hsize hby hzs hsz v n xs hs hown ad m c news hx hl (hnews ad rfl) h1 h63 hbytes hbase (fun u w' h8 h9 _ => hK _ _ (h u w' h8 h9))

/-- The commands of a slice with where their arguments lie. -/
theorem reads_any {w : World} {B : Nat} {A : Option Addr} {L : List ScrM.Cm} (h : CmReads w B A L) : ∃ M : List CmA, M.map Prod.fst = L ∧ (∀ p ∈ M, ArgsAt w B p.2.1 p.2.2 p.1.args) ∧
    (∀ ad, A = some ad → ∀ j u, (cmRow M)[j]? = some u → w.cell? (ad.add j) = some u) ∧ ∀ ad, A = some ad → 0 < L.length → ad.block < B := by
  by_cases h0 : 0 < L.length
  · obtain ⟨g, o, rfl, hg, hc⟩ := h h0
    obtain ⟨M, hM, hA, hcell⟩ := reads_cells L.length w B g o L rfl hc
    refine ⟨M, hM, hA, fun ad had j u hj => ?_, fun ad had _ => ?_⟩
    · injection had with had
      subst had
      rw [Addr.add_mid]
      exact hcell j u hj
    · injection had with had
      subst had
      exact hg
  · have : L = [] := List.eq_nil_of_length_eq_zero (by omega)
    subst this
    exact ⟨[], rfl, (fun _ hp => nomatch hp), (fun ad _ j u hj => by simp [cmRow] at hj), fun ad _ h => by simp at h⟩

theorem cmRow_rep (M : List CmA) (i : Nat) : cmRow (ScrM.rep M (i + 1)) = cmRow (ScrM.rep M i) ++ cmRow M := by rw [ScrM.rep, cmRow_append]

theorem cells_later {w2 W : World} {A : Option Addr} {L : List ScrM.Cm} {M : List CmA} (h : ∀ ad, A = some ad → ∀ j u, (cmRow M)[j]? = some u → w2.cell? (ad.add j) = some u) (hB : ∀ ad, A = some ad → 0 < L.length → ad.block < w2.heap.size) (hl : M.length = L.length) (hb : Below w2.heap.size w2 W) :
    ∀ ad, A = some ad → ∀ j u, (cmRow M)[j]? = some u → W.cell? (ad.add j) = some u := by
  intro ad had j u hj
  have hjl := (List.getElem?_eq_some_iff.1 hj).1
  rw [cmRow_length] at hjl
  have hlt : (ad.add j).block < w2.heap.size := by
    have := hB ad had (by omega)
    have e : (ad.add j).block = ad.block := by unfold Addr.add; split <;> rfl
    rw [e]
    exact this
  exact (hb.cell hlt).trans (h ad had j u hj)

set_option maxHeartbeats 4000000 in
set_option maxRecDepth 100000 in
theorem round_any (A : Option Addr) (c : Nat) (L : List ScrM.Cm) (k : Nat) (hk : k < 256) (w : World) (hw : WOk w) (h : CmReads w w.heap.size A L) (hAc : A = none → L.length = 0 ∧ c = 0) :
    Calls Tryd.prog 5 #[.slice A L.length c, .int .u8 (k : Int)] w fun e w' => e = .returned (.bool true) ∧ Below w.heap.size w w' := by
  have HW := Lib.hid hw
  have HR := Lib.hid h
  clear h
  by_cases h45 : L.length ≤ 45
  · have hd : decide ((45 : Int) < (L.length : Int)) = false := decide_eq_false (by omega)
    go_enter Tryd.func5, Tryd.ntmps5
    go_wp2_with fail
    refine (sanity_any w hw).mono ?_
    rintro e w1 ⟨rfl, hb1⟩
    have HB1 := Lib.hid hb1
    have HR1 := Lib.hid ((HR.out.below hb1).more hb1.size)
    clear hb1 hw
    go_wp2_with fail
    refine (vlaw_any A c L w1 (HW.out.later HB1.out) HR1.out (by omega)).mono ?_
    rintro e w2 ⟨rfl, hb2⟩
    have HB2 := Lib.hid (HB1.out.trans (hb2.mono HB1.out.size))
    have HR2 := Lib.hid ((HR1.out.below hb2).more hb2.size)
    clear hb2
    cases hv : ScrM.vAll L with
    | false =>
      go_wp2_with fail
      go_ret
      exact ⟨rfl, HB2.out⟩
    | true =>
      have HV := Lib.hid (ScrM.vAll_spec hv)
      clear hv
      obtain ⟨M, hM, hMA, hMC, hMB⟩ := reads_any HR2.out
      have hMl : M.length = L.length := by rw [← hM, List.length_map]
      have HMA := Lib.hid hMA
      have HMC := Lib.hid hMC
      have HMB := Lib.hid hMB
      have HM := Lib.hid hM
      have HML := Lib.hid hMl
      obtain ⟨q, hq⟩ : ∃ q, q = k % 10 := ⟨_, rfl⟩
      have hz : (k : Int) % 10 = (q : Int) := by omega
      have hq10 : q < 10 := by omega
      have hAc' := Lib.hid hAc
      obtain ⟨i0, hi0, hz0, hz1, hz2⟩ := info_parts cmInfo
      clear hq hMA hMC hMB hM hMl hAc
      go_wp2_with fail
      go_loopw [6, 7] (fun out i w' => ∃ j : Nat, j ≤ q + 1 ∧ i = .int .i64 j ∧ w'.ownsRow w2.heap.size 31 5 out (j * L.length) (cmRow (ScrM.rep M j)) ∧ Below w2.heap.size w2 w') (fun _ i _ => q + 1 - (intOf i).toNat)
      case atStart => exact ⟨0, by omega, rfl, by rw [Nat.zero_mul]; exact World.ownsRow_nil _ _ _ _, Below.refl _ _⟩
      case round =>
        obtain ⟨j, hj, rfl, ho, hb⟩ := hrel
        have HO := Lib.hid ho
        have HB := Lib.hid hb
        have hsz := hb.size
        have hjl : j * L.length ≤ 10 * 45 := Nat.mul_le_mul (by omega) h45
        clear ho hb
        by_cases hlt : j < q + 1
        · have hle : decide ((j : Int) ≤ (k : Int) % 10) = true := decide_eq_true (by omega)
          have hle2 : decide ((j : Int) ≤ (q : Int)) = true := decide_eq_true (by omega)
          go_wp2_with (at_builtin; refine wpList_append_slice _ (by rfl) _ _ 23 rfl w2.heap.size 31 i0 (.agg zeroCm) 5 56 Tryd.underlying23 hi0 hz0 hz1 hz2 rfl (by omega) _ (j * L.length) (cmRow (ScrM.rep M j)) rfl HO.out A L.length c (cmRow M) rfl (by rw [cmRow_length, HML.out]) hAc'.out (cells_later HMC.out HMB.out HML.out HB.out) (cmRow_one M) (by unfold maxLen; omega) (by omega) hsz ?_)
          intro u w5 ho5 hg5
          have HO5 := Lib.hid ho5
          have HB5 := Lib.hid (HB.out.grown hg5 hsz (fun r hr => (HO.out.lt r hr).1))
          clear ho5 hg5
          go_wp2_with fail
          go_roundw
          case rel => exact ⟨j + 1, by omega, by go_num, by rw [cmRow_rep, Nat.succ_mul]; exact HO5.out, HB5.out⟩
          case measure => simp [intOf]; omega
        · obtain rfl : j = q + 1 := by omega
          have hle : decide (((q + 1 : Nat) : Int) ≤ (k : Int) % 10) = false := decide_eq_false (by omega)
          obtain ⟨A9, n9, c9, rfl⟩ := own_slice HO.out
          have hn9 : n9 = (q + 1) * L.length := own_len HO.out
          have HN := Lib.hid (show (ScrM.rep M (q + 1)).map Prod.fst = ScrM.rep L (q + 1) by rw [ScrM.rep_map, HM.out])
          have hln : (ScrM.rep L (q + 1)).length = (q + 1) * L.length := ScrM.rep_length _ _
          have hlm : (ScrM.rep M (q + 1)).length = (q + 1) * L.length := by rw [ScrM.rep_length, HML.out]
          have HVN := Lib.hid (fun cm (hcm : cm ∈ ScrM.rep L (q + 1)) => HV.out cm (ScrM.rep_mem _ hcm))
          have HR9 := Lib.hid (show CmReads wr wr.heap.size A9 (ScrM.rep L (q + 1)) by
            rw [← HN.out]
            exact reads_own (B := w2.heap.size) (by rw [hlm]; exact HO.out) (fun p hp => (HMA.out p (ScrM.rep_mem _ hp)).below HB.out) hsz)
          have hln9 : (ScrM.rep L (q + 1)).length ≤ 450 := by rw [hln]; omega
          rw [← hln] at hn9
          subst hn9
          have HBW := Lib.hid (HB2.out.trans (HB.out.mono HB2.out.size))
          generalize ScrM.rep L (q + 1) = N at HVN HR9 hln9
          have HTL := Lib.hid (ScrM.textL_len N HVN.out)
          have HPS := Lib.hid (ScrM.parse_shown HVN.out)
          clear hln hlm
          go_wp2_with fail
          refine (text_any A9 c9 N wr (HW.out.later HBW.out) HR9.out HVN.out (by omega)).mono ?_
          rintro e w5 ⟨rfl, hb5⟩
          have HB5 := Lib.hid (HBW.out.trans (hb5.mono HBW.out.size))
          have HR5 := Lib.hid ((HR9.out.below hb5).more hb5.size)
          have hsz5 : (strOf (ScrM.textL N)).size ≤ 90000 := by
            have := HTL.out
            show (ScrM.textL N).length ≤ 90000
            omega
          have HPB := Lib.hid (show ScrM.parse (bl (strOf (ScrM.textL N))) = if 400 < N.length then ([], 2) else (N, 0) from HPS.out)
          generalize strOf (ScrM.textL N) = t at hsz5 HPB ⊢
          clear hb5
          go_wp2_with fail
          by_cases h400 : 400 < N.length
          · have h4d : decide ((400 : Int) < (N.length : Int)) = true := decide_eq_true (by omega)
            refine (parse_use t w5 (HW.out.later HB5.out) hsz5 [] 2 (by rw [HPB.out, if_pos h400])).mono ?_
            rintro e w6 ⟨A6, c6, rfl, _, hb6⟩
            simp only [List.length_nil]
            go_wp2_with fail
            go_ret
            exact ⟨rfl, HB5.out.trans (hb6.mono HB5.out.size)⟩
          · have h4d : decide ((400 : Int) < (N.length : Int)) = false := decide_eq_false (by omega)
            refine (parse_use t w5 (HW.out.later HB5.out) hsz5 N 0 (by rw [HPB.out, if_neg h400])).mono ?_
            rintro e w6 ⟨A6, c6, rfl, hr6, hb6⟩
            have HB6 := Lib.hid (HB5.out.trans (hb6.mono HB5.out.size))
            have HR6 := Lib.hid ((HR5.out.below hb6).more hb6.size)
            have HQ6 := Lib.hid hr6
            clear hb6 hr6
            go_wp2_with fail
            refine (same_yes A6 A9 c6 c9 N w6 HQ6.out HR6.out (by omega) (fun cm hcm => by have := ScrM.valid_args (HVN.out cm hcm); omega)).mono ?_
            rintro e w7 ⟨rfl, hb7⟩
            go_wp2_with fail
            go_ret
            exact ⟨rfl, HB6.out.trans (hb7.mono HB6.out.size)⟩
  · have hd : decide ((45 : Int) < (L.length : Int)) = true := decide_eq_true (by omega)
    go_enter Tryd.func5, Tryd.ntmps5
    go_wp2_with fail
    refine (sanity_any w hw).mono ?_
    rintro e w1 ⟨rfl, hb1⟩
    go_wp2_with fail
    go_ret
    exact ⟨rfl, hb1⟩

end Go.Proofs.YtnanhebepjdlcabDoor
