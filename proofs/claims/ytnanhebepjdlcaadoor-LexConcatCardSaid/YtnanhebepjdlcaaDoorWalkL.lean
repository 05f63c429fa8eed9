/- bootchainlaw12.LexConcat: the walk. -/
import Derived.Test.YtnanhebepjdlcaaDoorLawCat
namespace Go.Proofs.YtnanhebepjdlcaaDoor
open Go.RowKit

set_option maxHeartbeats 1000000 in
set_option maxRecDepth 100000 in
theorem cat_long1 (a b : ByteArray) (k : Nat) (w : World) (hw : WOk w) (hm : a.size ≤ maxLen) (hs : 600 < a.size) :
    Calls Tryd.prog 7 #[.string a, .string b, .int .u8 (k : Int)] w fun e w' => e = .returned (.bool true) ∧ Below w.heap.size w w' := by
  unfold maxLen at hm
  have h6 : decide ((600 : Int) < a.size) = true := by simp; omega
  go_enter Tryd.func7, Tryd.ntmps7
  go_wp2_with fail
  refine (sanity_any w hw).mono ?_
  rintro e w1 ⟨rfl, hb1⟩
  go_wp2_with fail
  go_ret
  exact ⟨rfl, hb1⟩

set_option maxHeartbeats 1000000 in
set_option maxRecDepth 100000 in
theorem cat_long2 (a b : ByteArray) (k : Nat) (w : World) (hw : WOk w) (hs : a.size ≤ 600) (hm : b.size ≤ maxLen) (hs2 : 600 < b.size) :
    Calls Tryd.prog 7 #[.string a, .string b, .int .u8 (k : Int)] w fun e w' => e = .returned (.bool true) ∧ Below w.heap.size w w' := by
  unfold maxLen at hm
  have h6 : decide ((600 : Int) < a.size) = false := by simp; omega
  have h7 : decide ((600 : Int) < b.size) = true := by simp; omega
  go_enter Tryd.func7, Tryd.ntmps7
  go_wp2_with fail
  refine (sanity_any w hw).mono ?_
  rintro e w1 ⟨rfl, hb1⟩
  go_wp2_with fail
  go_ret
  exact ⟨rfl, hb1⟩

/-- The three strings lie at block g. -/
def SepAt (g : Nat) (w : World) : Prop := g < w.heap.size ∧ w.cell? ⟨g, 0, none⟩ = some (.string ⟨#[32]⟩) ∧ w.cell? ⟨g, 1, none⟩ = some (.string ⟨#[9]⟩) ∧ w.cell? ⟨g, 2, none⟩ = some (.string ⟨#[10]⟩)

theorem SepAt.cells {g : Nat} {w : World} (h : SepAt g w) : w.cell? ⟨g, 0, none⟩ = some (.string ⟨#[32]⟩) ∧ w.cell? ⟨g, 1, none⟩ = some (.string ⟨#[9]⟩) ∧ w.cell? ⟨g, 2, none⟩ = some (.string ⟨#[10]⟩) := h.2

theorem SepAt.below {g : Nat} {w w' : World} (h : SepAt g w) (hb : Below w.heap.size w w') : SepAt g w' :=
  ⟨Nat.lt_of_lt_of_le h.1 hb.size, (hb.cell h.1).trans h.2.1, (hb.cell h.1).trans h.2.2.1, (hb.cell h.1).trans h.2.2.2⟩

def sepObj : Obj := .cells #[.string ⟨#[32]⟩, .string ⟨#[9]⟩, .string ⟨#[10]⟩] 9

theorem sep_kept (w : World) {w' : World} (hb : Below (w.alloc sepObj).heap.size (w.alloc sepObj) w') : SepAt w.heap.size w' := by
  refine SepAt.below ⟨by simp, ?_, ?_, ?_⟩ hb
  all_goals
    unfold sepObj
    rw [World.cell?_alloc_at _ _ _ _ rfl]
    rfl

theorem SepAt.at_ {g : Nat} {w : World} (h : SepAt g w) : ∀ q, q < 3 → w.cell? ⟨g, q, none⟩ = some (.string (sepS q))
  | 0, _ => h.2.1
  | 1, _ => h.2.2.1
  | 2, _ => h.2.2.2
  | _ + 3, h => by omega

theorem cat_size {a b : ByteArray} (ha : a.size ≤ 600) (hb : b.size ≤ 600) (q : Nat) : (a ++ sepS q ++ b).size ≤ maxLen := by
  rw [ByteArray.size_append, ByteArray.size_append, sep_size]
  unfold maxLen
  omega

set_option maxHeartbeats 1000000 in
set_option maxRecDepth 100000 in
theorem cat_fail_walk (a b : ByteArray) (k : Nat) (hk : k < 256) (w : World) (hw : WOk w) (hs : a.size ≤ 600) (hs2 : b.size ≤ 600) (L M : List LexM.Tk) (ea eb : Int) (h1 : LexM.tokens (bl a) = (L, ea)) (h2 : LexM.tokens (bl b) = (M, eb)) (he : ea ≠ 0 ∨ eb ≠ 0) :
    Calls Tryd.prog 7 #[.string a, .string b, .int .u8 (k : Int)] w fun e w' => e = .returned (.bool true) ∧ Below w.heap.size w w' := by
  have h6 : decide ((600 : Int) < a.size) = false := by simp; omega
  have h7 : decide ((600 : Int) < b.size) = false := by simp; omega
  have h3 := fun q => cat_fail (sep_blank q) (by rw [bl_len]; exact hs) (by rw [bl_len]; exact hs2) h1 h2 he
  simp only [← sep_bl] at h3
  have H1 := Lib.hid h1
  have H2 := Lib.hid h2
  have H3 := Lib.hid h3
  clear h1 h2 h3
  go_enter Tryd.func7, Tryd.ntmps7
  go_wp2_with fail
  refine (sanity_any w hw).mono ?_
  rintro e w1 ⟨rfl, hb1⟩
  have HB1 := Lib.hid hb1
  clear hb1
  go_wp2_with fail
  refine (tokens_use a _ (hw.later (HB1.out.trans ((Below.refl _ _).alloc HB1.out.size _))) (by unfold maxLen; omega) L ea H1.out).mono ?_
  rintro e w2 ⟨A, c, rfl, -, hb2⟩
  have HB2 := Lib.hid ((HB1.out.trans ((Below.refl _ _).alloc HB1.out.size _)).trans (hb2.mono (by simp; have := HB1.out.size; omega)))
  have HC2 := Lib.hid (sep_kept w1 hb2)
  clear hb2
  go_wp2_with fail
  refine (tokens_use b w2 (hw.later HB2.out) (by unfold maxLen; omega) M eb H2.out).mono ?_
  rintro e w3 ⟨A3, c3, rfl, -, hb3⟩
  have HB3 := Lib.hid (HB2.out.trans (hb3.mono HB2.out.size))
  have HC3 := Lib.hid (HC2.out.below hb3)
  clear hb3
  obtain ⟨q, hq⟩ : ∃ q, q = k % 3 := ⟨_, rfl⟩
  have hz : (k : Int) % 3 = (q : Int) := by omega
  have hq0 : (0 : Int) ≤ (q : Int) := by omega
  have hq3 : q < 3 := by omega
  have hq3' : (q : Int) < 3 := by omega
  have hcq := HC3.out.at_ q hq3
  have hsz := cat_size hs hs2 q
  have hss := sep_size q
  have hss2 : (a ++ sepS q).size = a.size + 1 := by rw [ByteArray.size_append, hss]
  clear hq
  go_wp2_with fail
  rw [hz]
  go_wp2_with fail
  refine (tokens_use (a ++ sepS q ++ b) w3 (hw.later HB3.out) hsz [] 3 (H3.out q)).mono ?_
  rintro e w4 ⟨A4, c4, rfl, -, hb4⟩
  have HB4 := Lib.hid (HB3.out.trans (hb4.mono HB3.out.size))
  clear hb4
  by_cases he1 : ea = 0
  · have hf : (eb != 0) = true := by simpa using he.resolve_left (by simp [he1])
    subst he1
    go_wp2_with fail
    go_ret
    exact ⟨rfl, HB4.out⟩
  · have hf : (ea != 0) = true := by simpa using he1
    go_wp2_with fail
    go_ret
    exact ⟨rfl, HB4.out⟩

end Go.Proofs.YtnanhebepjdlcaaDoor
