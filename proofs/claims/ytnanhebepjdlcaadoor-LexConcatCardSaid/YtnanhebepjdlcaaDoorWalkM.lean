/- bootchainlaw12.LexConcat: the walk where both texts are well formed. -/
import Derived.Test.YtnanhebepjdlcaaDoorWalkL
namespace Go.Proofs.YtnanhebepjdlcaaDoor
open Go.RowKit

theorem tokens_own (s : ByteArray) (w : World) (hw : WOk w) (hm : s.size ≤ maxLen) (L : List LexM.Tk) (er : Int) (ht : LexM.tokens (bl s) = (L, er)) :
    Calls Tryd.prog 10 #[.string s] w fun e w' => ∃ v, e = .returned (.tuple #[v, .int .i64 er]) ∧ w'.ownsRow w.heap.size 30 4 v L.length (tkAll L) ∧ Below w.heap.size w w' := by
  refine (tokens_any s w hw hm).mono ?_
  rintro e w' ⟨v, he, ho, hb⟩
  rw [ht] at he ho
  exact ⟨v, he, ho, hb⟩

theorem own_empty (w : World) (e : TypeId) : (w.alloc (.cells #[] e)).ownsRow w.heap.size e 4 (.slice (some ⟨w.heap.size, 0, none⟩) 0 0) 0 [] :=
  ⟨rfl, .inr ⟨_, 0, #[], rfl, Nat.le_refl _, heap_alloc_new _ _, Nat.le_refl _, by unfold maxLen; omega, rfl, rfl⟩⟩

theorem covers_pos : ∀ (l : List LexM.Tk) (pos : Nat) (s : List UInt8), LexM.Covers pos s l → ∀ t ∈ l, t.pos ≤ pos + s.length
  | [], _, _, _, t, ht => by simp at ht
  | t :: l, pos, s, ⟨b, h1, _, _, h4, _, h⟩, u, hu => by
    rcases List.mem_cons.1 hu with rfl | hu
    · omega
    · have := covers_pos l _ _ h u hu
      rw [List.length_drop] at this
      omega

theorem tok_pos {l : List UInt8} {L : List LexM.Tk} (hl : l.length ≤ 600) (h : LexM.tokens l = (L, 0)) : ∀ t ∈ L, t.pos ≤ 600 := fun t ht => by
  have := covers_pos L 0 l (LexM.scan_covers _ _ _ _ (by omega) (lex_of_tokens h)) t ht
  omega

/-- The row so far: L's tokens and the first k of M's, shifted. -/
def CatAt (L M : List LexM.Tk) (d : Nat) (w4 : World) (k : Nat) (u : Value) (w' : World) : Prop :=
  w'.ownsRow w4.heap.size 30 4 u (L.length + k) (tkAll (L ++ LexM.shift d (M.take k))) ∧ Below w4.heap.size w4 w'

theorem cat_start {L M : List LexM.Tk} {d : Nat} {w4 w5 : World} {u : Value} (ho : w5.ownsRow w4.heap.size 30 4 u L.length (tkAll L)) (hg : (w4.alloc (.cells #[] 30)).grownBy w5 (some w4.heap.size)) : CatAt L M d w4 0 u w5 := by
  refine ⟨?_, ?_⟩
  · simpa [LexM.shift] using ho
  · exact ((Below.refl _ _).alloc (Nat.le_refl _) _).grown hg (by simp) (fun j hj => by injection hj with hj; omega)

theorem cat_step {L M : List LexM.Tk} {d k : Nat} {w4 w6 : World} {u : Value} (hk : k < M.length) (ho : w6.ownsRow w4.heap.size 30 4 u (L.length + k + 1) (tkAll (L ++ LexM.shift d (M.take k)) ++ [.int .i64 M[k].kind, .string (toZ M[k]).text, .int .i64 M[k].n, .int .i64 (((M[k].pos + d : Nat) : Int))])) (hb : Below w4.heap.size w4 w6) : CatAt L M d w4 (k + 1) u w6 := by
  refine ⟨?_, hb⟩
  have e : tkAll (L ++ LexM.shift d (M.take (k + 1))) = tkAll (L ++ LexM.shift d (M.take k)) ++ [.int .i64 M[k].kind, .string (toZ M[k]).text, .int .i64 M[k].n, .int .i64 (((M[k].pos + d : Nat) : Int))] := by
    rw [List.take_succ_eq_append_getElem hk]
    simp only [LexM.shift, tkAll, List.map_append, List.flatMap_append, List.append_assoc]
    rfl
  rw [e]
  exact ho

theorem cat_end {L M K : List LexM.Tk} {d : Nat} {w4 w' : World} {u : Value} (hK : K = L ++ LexM.shift d M) (h : CatAt L M d w4 M.length u w') : ∃ A c, u = .slice A K.length c ∧ TkReads w' w'.heap.size A (K.map toZ) := by
  have ho := h.1
  rw [List.take_length, ← hK, show L.length + M.length = K.length by rw [hK]; simp [LexM.shift]] at ho
  have hv : ∃ A n c, u = .slice A n c := by
    rcases ho.2 with ⟨rfl, _⟩ | ⟨g, cap, cur, rfl, _⟩
    · exact ⟨_, _, _, rfl⟩
    · exact ⟨_, _, _, rfl⟩
  obtain ⟨A, n, c, rfl⟩ := hv
  obtain ⟨rfl, hr⟩ := TkReads.of_own ho
  exact ⟨A, c, rfl, hr⟩

set_option maxHeartbeats 1000000 in
set_option maxRecDepth 100000 in
theorem cat_ok_walk (a b : ByteArray) (k : Nat) (hk : k < 256) (w : World) (hw : WOk w) (hs : a.size ≤ 600) (hs2 : b.size ≤ 600) (L M : List LexM.Tk) (h1 : LexM.tokens (bl a) = (L, 0)) (h2 : LexM.tokens (bl b) = (M, 0)) :
    Calls Tryd.prog 7 #[.string a, .string b, .int .u8 (k : Int)] w fun e w' => e = .returned (.bool true) ∧ Below w.heap.size w w' := by
  have h6 : decide ((600 : Int) < a.size) = false := by simp; omega
  have h7 : decide ((600 : Int) < b.size) = false := by simp; omega
  have hL := tokens_len (by rw [bl_len]; exact hs) h1
  have hM := tokens_len (by rw [bl_len]; exact hs2) h2
  have HPB := Lib.hid (tok_pos (by rw [bl_len]; exact hs2) h2)
  have h3 := fun q => cat_ok (sep_blank q) (by rw [bl_len]; exact hs) (by rw [bl_len]; exact hs2) h1 h2
  simp only [← sep_bl, bl_len] at h3
  obtain ⟨K, hK⟩ : ∃ K, K = L ++ LexM.shift (a.size + 1) M := ⟨_, rfl⟩
  have HKL := Lib.hid (show K.length = L.length + M.length by rw [hK]; simp [LexM.shift])
  rw [← hK] at h3
  have HK := Lib.hid hK
  clear hK
  have H1 := Lib.hid h1
  have H2 := Lib.hid h2
  have H3 := Lib.hid h3
  clear h1 h2 h3
  go_enter Tryd.func7, Tryd.ntmps7
  go_wp2_with fail
  refine (sanity_any w hw).mono ?_
  rintro e w1 ⟨rfl, hb1⟩
  have HB1 := Lib.hid hb1
  clear hb1
  go_wp2_with fail
  refine (tokens_own a _ (hw.later (HB1.out.trans ((Below.refl _ _).alloc HB1.out.size _))) (by unfold maxLen; omega) L 0 H1.out).mono ?_
  rintro e w2 ⟨v, rfl, hr2, hb2⟩
  have HB2 := Lib.hid ((HB1.out.trans ((Below.refl _ _).alloc HB1.out.size _)).trans (hb2.mono (by simp; have := HB1.out.size; omega)))
  have HC2 := Lib.hid (sep_kept w1 hb2)
  have HO2 := Lib.hid hr2
  clear hb2 hr2
  go_wp2_with fail
  refine (tokens_use b w2 (hw.later HB2.out) (by unfold maxLen; omega) M 0 H2.out).mono ?_
  rintro e w3 ⟨A3, c3, rfl, hr3, hb3⟩
  have HB3 := Lib.hid (HB2.out.trans (hb3.mono HB2.out.size))
  have HC3 := Lib.hid (HC2.out.below hb3)
  have HO3 := Lib.hid (own_later HO2.out hb3)
  have HR3 := Lib.hid hr3
  clear hb3 hr3
  obtain ⟨q, hq⟩ : ∃ q, q = k % 3 := ⟨_, rfl⟩
  have hz : (k : Int) % 3 = (q : Int) := by omega
  have hq0 : (0 : Int) ≤ (q : Int) := by omega
  have hq3 : q < 3 := by omega
  have hq3' : (q : Int) < 3 := by omega
  have hcq := HC3.out.at_ q hq3
  have hsz := cat_size hs hs2 q
  have hss := sep_size q
  have hss2 : (a ++ sepS q).size = a.size + 1 := by rw [ByteArray.size_append, hss]
  clear hq
  go_wp2_with fail
  rw [hz]
  go_wp2_with fail
  refine (tokens_use (a ++ sepS q ++ b) w3 (hw.later HB3.out) hsz _ 0 (H3.out q)).mono ?_
  rintro e w4 ⟨A4, c4, rfl, hr4, hb4⟩
  have HB4 := Lib.hid (HB3.out.trans (hb4.mono HB3.out.size))
  have HO4 := Lib.hid (own_later HO3.out hb4)
  have HR34 := Lib.hid ((HR3.out.below hb4).more hb4.size)
  have HR4 := Lib.hid hr4
  clear hb4 hr4 hcq
  obtain ⟨i0, hi0, hz0, hz1', hz2'⟩ := info_parts tokInfo
  go_wp2_with (at_builtin; refine wpList_append_row _ rfl _ _ 23 rfl w4.heap.size 30 i0 (.agg tok0) 4 40 Tryd.underlying23 hi0 hz0 hz1' hz2' rfl (by omega) (.slice (some ⟨w4.heap.size, 0, none⟩) 0 0) 0 [] rfl (own_empty w4 _) _ v L.length (tkAll L) rfl (HO4.out.alloc _) (tkAll_one L) (by unfold maxLen; omega) (by omega) (by simp) ?_)
  intro u w5 hown' hgrow
  have hst : CatAt L M (a.size + 1) w4 0 u w5 := cat_start hown' hgrow
  have HS := Lib.hid hst
  clear hown' hgrow hst
  go_wp2_with fail
  go_loopw [15, 16] (fun u i w' => ∃ j : Nat, j ≤ M.length ∧ i = .int .i64 j ∧ CatAt L M (a.size + 1) w4 j u w') (fun _ i _ => M.length - (intOf i).toNat)
  case atStart => exact ⟨0, by omega, rfl, HS.out⟩
  case round =>
    obtain ⟨j, hj, rfl, hcat⟩ := hrel
    by_cases hlt : j < M.length
    · have HJ := Lib.hid hcat
      obtain ⟨g, o, rfl, hbB, c0, c1, c2, c3⟩ := (HR34.out.below hcat.2).at_ (show j < (M.map toZ).length by simpa using hlt)
      have hjI : (j : Int) < (M.length : Int) := by omega
      have hj0 : (0 : Int) ≤ (j : Int) := by omega
      obtain ⟨p, hp⟩ : ∃ p, p = M[j].pos := ⟨_, rfl⟩
      have hpb : p ≤ 600 := by rw [hp]; exact HPB.out _ (List.getElem_mem hlt)
      rw [List.getElem_map] at c0 c1 c2 c3
      have hpz : (toZ M[j]).pos = (p : Int) := by rw [hp]; rfl
      rw [hpz] at c3
      have HP := Lib.hid hp
      have hsz6 := hcat.2.size
      clear hcat hp hpz
      go_wp2_with (at_builtin; refine wpList_append_own _ rfl _ _ 23 rfl w4.heap.size 30 i0 (.agg tok0) 4 40 Tryd.underlying23 hi0 hz0 hz1' hz2' rfl (by omega) _ _ _ rfl ((HJ.out.1.alloc _).alloc _) _ 1 1 [.int .i64 (toZ M[j]).kind, .string (toZ M[j]).text, .int .i64 (toZ M[j]).n, .int .i64 ((p : Int) + (a.size : Int) + 1)] rfl rfl (World.news_of_block (heap_new2 _ _ _)) (by simp [Value.oneCell']) (by unfold maxLen; omega) (by omega) (by simp; omega) ?_)
      intro u' w6 hown' hgrow _
      have HO6 := Lib.hid hown'
      have HG := Lib.hid hgrow
      clear hown' hgrow
      go_wp2_with fail
      go_roundw
      case rel =>
        have e : ((M[j].pos + (a.size + 1) : Nat) : Int) = (p : Int) + (a.size : Int) + 1 := by have := HP.out; omega
        exact ⟨j + 1, by omega, by go_num, cat_step hlt (by rw [e]; exact HO6.out) (below_grown_row ((HJ.out.2.alloc hsz6 _).alloc (by simp; omega) _) ((HJ.out.1.alloc _).alloc _) HG.out)⟩
      case measure => simp [intOf]; omega
    · obtain rfl : j = M.length := by omega
      obtain ⟨A5, c5, rfl, hr5⟩ := cat_end HK.out hcat
      have HR5 := Lib.hid hr5
      have HR45 := Lib.hid ((HR4.out.below hcat.2).more hcat.2.size)
      have HB5 := Lib.hid (HB4.out.trans (hcat.2.mono HB4.out.size))
      have hKl : K.length ≤ 1200 := by have := HKL.out; omega
      have hLM : decide ((M.length : Int) < (M.length : Int)) = false := by simp
      clear hcat hr5
      go_wp2_with fail
      refine (same_use A4 A5 c4 c5 _ K _ HR45.out HR5.out (by omega)).mono ?_
      rintro e w7 ⟨rfl, m, rfl⟩
      go_wp2_with fail
      go_ret
      exact ⟨rfl, below_drewN HB5.out m⟩

theorem cat_any (a b : ByteArray) (k : Nat) (hk : k < 256) (w : World) (hw : WOk w) (hm : a.size ≤ maxLen) (hm2 : b.size ≤ maxLen) :
    Calls Tryd.prog 7 #[.string a, .string b, .int .u8 (k : Int)] w fun e w' => e = .returned (.bool true) ∧ Below w.heap.size w w' := by
  by_cases hs : a.size ≤ 600
  · by_cases hs2 : b.size ≤ 600
    · obtain ⟨L, ea, h1⟩ : ∃ L er, LexM.tokens (bl a) = (L, er) := ⟨_, _, rfl⟩
      obtain ⟨M, eb, h2⟩ : ∃ L er, LexM.tokens (bl b) = (L, er) := ⟨_, _, rfl⟩
      by_cases he : ea ≠ 0 ∨ eb ≠ 0
      · exact cat_fail_walk a b k hk w hw hs hs2 L M ea eb h1 h2 he
      · obtain ⟨rfl, rfl⟩ : ea = 0 ∧ eb = 0 := by omega
        exact cat_ok_walk a b k hk w hw hs hs2 L M h1 h2
    · exact cat_long2 a b k w hw hs hm2 (by omega)
  · exact cat_long1 a b k w hw hm (by omega)

end Go.Proofs.YtnanhebepjdlcaaDoor
