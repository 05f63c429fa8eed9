/- A row of tokens that is read; lex.Show. -/
import Derived.Test.YtnanhebepjdlcaaDoorWalkE
import Derived.Lib.Join
namespace Go.Proofs.YtnanhebepjdlcaaDoor
open Go.RowKit

/-- A token as Go has it: whatever numbers it bears. -/
structure Tz where
  kind : Int
  text : ByteArray
  n : Int
  pos : Int

def toZ (t : LexM.Tk) : Tz := { kind := t.kind, text := ⟨t.text.toArray⟩, n := t.n, pos := t.pos }

/-- The slice at A reads as the tokens L; it lies below block B. -/
def TkReads (w : World) (B : Nat) (A : Option Addr) (L : List Tz) : Prop :=
  0 < L.length → ∃ b o, A = some ⟨b, o, none⟩ ∧ b < B ∧ ∀ k t, L[k]? = some t →
    w.cell? ⟨b, o + k * 4, none⟩ = some (.int .i64 t.kind) ∧ w.cell? ⟨b, o + k * 4 + 1, none⟩ = some (.string t.text) ∧
    w.cell? ⟨b, o + k * 4 + 2, none⟩ = some (.int .i64 t.n) ∧ w.cell? ⟨b, o + k * 4 + 3, none⟩ = some (.int .i64 t.pos)

theorem TkReads.below {w w' : World} {B : Nat} {A : Option Addr} {L : List Tz} (h : TkReads w B A L) (hb : Below B w w') : TkReads w' B A L := fun hn => by
  obtain ⟨b, o, rfl, hlt, hc⟩ := h hn
  refine ⟨b, o, rfl, hlt, fun k t hk => ?_⟩
  obtain ⟨h0, h1, h2, h3⟩ := hc k t hk
  exact ⟨(hb.cell hlt).trans h0, (hb.cell hlt).trans h1, (hb.cell hlt).trans h2, (hb.cell hlt).trans h3⟩

theorem TkReads.more {w : World} {B B' : Nat} {A : Option Addr} {L : List Tz} (h : TkReads w B A L) (hB : B ≤ B') : TkReads w B' A L := fun hn => by
  obtain ⟨b, o, rfl, hlt, hc⟩ := h hn
  exact ⟨b, o, rfl, Nat.lt_of_lt_of_le hlt hB, hc⟩

theorem TkReads.at_ {w : World} {B : Nat} {A : Option Addr} {L : List Tz} (h : TkReads w B A L) {k : Nat} (hk : k < L.length) :
    ∃ b o, A = some ⟨b, o, none⟩ ∧ b < B ∧ w.cell? ⟨b, o + k * 4, none⟩ = some (.int .i64 L[k].kind) ∧ w.cell? ⟨b, o + k * 4 + 1, none⟩ = some (.string L[k].text) ∧
    w.cell? ⟨b, o + k * 4 + 2, none⟩ = some (.int .i64 L[k].n) ∧ w.cell? ⟨b, o + k * 4 + 3, none⟩ = some (.int .i64 L[k].pos) := by
  obtain ⟨b, o, hA, hlt, hc⟩ := h (by omega)
  exact ⟨b, o, hA, hlt, hc k _ (List.getElem?_eq_getElem hk)⟩

/-- What the call owns it can read. -/
theorem TkReads.of_own {w : World} {base n : Nat} {A : Option Addr} {c : Nat} {L : List LexM.Tk} (h : w.ownsRow base 30 4 (.slice A n c) L.length (tkAll L)) : n = L.length ∧ TkReads w w.heap.size A (L.map toZ) := by
  have hn : n = L.length := own_len h
  refine ⟨hn, fun h0 => ?_⟩
  rw [List.length_map] at h0
  obtain ⟨g, cap, hv, _, hlt⟩ := h.form h0
  have hA : A = some ⟨g, 0, none⟩ := by injection hv
  have hcap : c = cap := by injection hv
  subst hA hcap hn
  refine ⟨g, 0, rfl, hlt, fun k t hk => ?_⟩
  rw [List.getElem?_map] at hk
  obtain ⟨u, hu, rfl⟩ := Option.map_eq_some_iff.1 hk
  have hkl : k < L.length := (List.getElem?_eq_some_iff.1 hu).1
  have hc : ∀ j, j < 4 → w.cell? ⟨g, 0 + k * 4 + j, none⟩ = (tkCells u)[j]? := fun j hj => by
    rw [show 0 + k * 4 + j = k * 4 + j by omega, h.cellAt _ (by omega)]
    exact tkAll_at _ k u j hu hj
  exact ⟨hc 0 (by omega), hc 1 (by omega), hc 2 (by omega), hc 3 (by omega)⟩

theorem strInfo : (Tryd.prog.info? 9).map (fun i => (i.zero, i.size, i.bytes)) = some (some (.string ⟨#[]⟩), 1, 16) := by kernel_rfl

theorem join_sp : ∀ l : List (List UInt8), Lib.join l [32] = LexM.joinSp l
  | [] => rfl
  | [x] => Lib.join_one x _
  | x :: y :: r => by
    have ih := join_sp (y :: r)
    rw [Lib.join_cons] at ih ⊢
    simp only [LexM.joinSp, ← ih]
    simp [Lib.joinTail]

theorem sp_length (l : List (List UInt8)) (m : Nat) (h : ∀ x ∈ l, x.length ≤ m) : (LexM.joinSp l).length ≤ (m + 1) * l.length := by
  match l with
  | [] => simp [LexM.joinSp]
  | [x] =>
    have := h x (by simp)
    simp [LexM.joinSp]
    omega
  | x :: y :: r =>
    have h1 := h x (by simp)
    have h2 := sp_length (y :: r) m fun z hz => h z (by simp [hz])
    simp only [LexM.joinSp, List.length_append, List.length_cons, Nat.mul_add, Nat.mul_one] at h2 ⊢
    omega

def texts (L : List Tz) : List Value := L.map fun t => .string t.text

theorem texts_step {L : List Tz} {k : Nat} (hk : k < L.length) : texts (L.take k) ++ [.string L[k].text] = texts (L.take (k + 1)) := by
  rw [List.take_succ_eq_append_getElem hk]
  unfold texts
  rw [List.map_append]
  rfl

theorem texts_get {L : List Tz} {j : Nat} (hj : j < L.length) : (texts L)[j]? = some (.string L[j].text) := by
  unfold texts
  rw [List.getElem?_map, List.getElem?_eq_getElem hj]
  rfl

theorem join_any (base : Nat) (v : Value) (L : List Tz) (w : World) (ho : w.ownsRow base 9 1 v L.length (texts L)) (hn : L.length ≤ 1500) (hx : ∀ t ∈ L, t.text.size ≤ 1500) :
    Calls Tryd.prog 30 #[v, .string ⟨#[32]⟩] w fun e w' => e = .returned (.string ⟨(LexM.joinSp (L.map fun t => bl t.text)).toArray⟩) ∧ Below w.heap.size w w' := by
  match L, ho, hn, hx with
  | [], ho, _, _ =>
    have h0 : ∀ a c, Calls Tryd.prog 30 #[.slice a 0 c, .string ⟨#[32]⟩] w fun e w' => e = .returned (.string ⟨(LexM.joinSp ([].map fun t : Tz => bl t.text)).toArray⟩) ∧ Below w.heap.size w w' := fun a c =>
      (Tryd.strings_Join_none a c ⟨#[32]⟩ w).mono fun e w' ⟨he, hw⟩ => ⟨he, by rw [hw]; exact Below.refl _ _⟩
    rcases ho.2 with ⟨rfl, _⟩ | ⟨g, cap, cur, rfl, _⟩
    · exact h0 _ _
    · exact h0 _ _
  | t :: r, ho, hn, hx =>
    obtain ⟨g, cap, rfl, _, hlt⟩ := ho.form (by simp)
    have hcap : (t :: r).length ≤ cap := by
      rcases ho.2 with ⟨h, _⟩ | ⟨g', cap', cur, h, _, _, h2, _⟩
      · cases h
      · injection h with h3 h4 h5
        rw [h5]
        exact h2
    have hl : ((t :: r).map (·.text)).length = (t :: r).length := by simp
    have hm : ((t :: r).map (·.text)).map (·.data.toList) = (t :: r).map fun t => bl t.text := by simp
    have hs := sp_length ((t :: r).map fun t => bl t.text) 1500 fun x hx' => by
      obtain ⟨u, hu, rfl⟩ := List.mem_map.1 hx'
      rw [bl_len]
      exact hx u hu
    rw [List.length_map] at hs
    have hj := Tryd.strings_Join g 0 cap ((t :: r).map (·.text)) ⟨#[32]⟩ w (fun j x hjx => by
        rw [List.getElem?_map] at hjx
        obtain ⟨u, hu, rfl⟩ := Option.map_eq_some_iff.1 hjx
        obtain ⟨hjl, rfl⟩ := List.getElem?_eq_some_iff.1 hu
        rw [show 0 + j = j by omega, ho.cellAt j (by omega)]
        exact texts_get hjl) hlt (by rw [hl]; omega) (by rw [hl]; exact hcap) (by
        rw [hm]
        show (Lib.join _ [32]).length ≤ _
        rw [join_sp]
        have : 1501 * (t :: r).length ≤ 1501 * 1500 := Nat.mul_le_mul_left _ hn
        omega)
    rw [hl, hm] at hj
    have e : (⟨#[32]⟩ : ByteArray).data.toList = [32] := rfl
    rw [e, join_sp] at hj
    exact hj

set_option maxHeartbeats 1000000 in
set_option maxRecDepth 100000 in
theorem show_any (A : Option Addr) (c : Nat) (L : List Tz) (w : World) (h : TkReads w w.heap.size A L) (hn : L.length ≤ 1500) (hx : ∀ t ∈ L, t.text.size ≤ 1500) :
    Calls Tryd.prog 13 #[.slice A L.length c] w fun e w' => e = .returned (.string ⟨(LexM.joinSp (L.map fun t => bl t.text)).toArray⟩) ∧ Below w.heap.size w w' := by
  obtain ⟨i0, hi0, hz0, hz1, hz2⟩ := info_parts strInfo
  have HR := Lib.hid h
  have HX := Lib.hid hx
  clear h hx
  go_enter Tryd.func13, Tryd.ntmps13
  go_wp2_with fail
  go_loopw [3, 8] (fun v i w' => ∃ k : Nat, k ≤ L.length ∧ i = .int .i64 k ∧ w'.ownsRow w.heap.size 9 1 v k (texts (L.take k)) ∧ Below w.heap.size w w') (fun _ i _ => L.length - (intOf i).toNat)
  case atStart => exact ⟨0, by omega, rfl, World.ownsRow_nil _ _ _ _, Below.refl _ _⟩
  case round =>
    obtain ⟨k, hk, rfl, ho, hb⟩ := hrel
    have hsz := hb.size
    have HO := Lib.hid ho
    have HB := Lib.hid hb
    clear ho hb
    by_cases hlt : k < L.length
    · obtain ⟨b, o, rfl, hbB, h0, h1, h2, h3⟩ := (HR.out.below HB.out).at_ hlt
      have hk63 : (k : Int) < (L.length : Int) := by omega
      go_wp2_with (at_builtin; refine wpList_append_own _ rfl _ _ 34 rfl w.heap.size 9 i0 (.string ⟨#[]⟩) 1 16 Tryd.underlying34 hi0 hz0 hz1 hz2 rfl (by omega) _ _ _ rfl ((HO.out.alloc _).alloc _) _ 1 1 [.string L[k].text] rfl rfl ?c1 ?c2 ?c3 ?c4 ?c5 ?_)
      case c1 => exact World.news_of_block (heap_new2 _ _ _)
      case c2 => simp [Value.oneCell']
      case c3 => unfold maxLen; omega
      case c4 => omega
      case c5 => simp; omega
      intro v' w3 hown' hgrow _
      have HO3 := Lib.hid hown'
      have HG := Lib.hid hgrow
      clear hown' hgrow h0 h1 h2 h3
      go_wp2_with fail
      go_roundw
      case rel => exact ⟨k + 1, by omega, by go_num, by rw [← texts_step hlt]; exact HO3.out, below_grown_row ((HB.out.trans ((Below.refl _ _).alloc hsz _)).trans ((Below.refl _ _).alloc (by simp; omega) _)) ((HO.out.alloc _).alloc _) HG.out⟩
      case measure => simp [intOf]; omega
    · obtain rfl : k = L.length := by omega
      go_wp2_with fail
      refine (join_any w.heap.size _ L wr (by have := HO.out; rwa [List.take_length] at this) hn HX.out).mono ?_
      rintro e w3 ⟨rfl, hb3⟩
      go_wp2_with fail
      go_ret
      exact ⟨rfl, HB.out.trans (hb3.mono hsz)⟩

end Go.Proofs.YtnanhebepjdlcaaDoor
