/- What the calls need of the world; the library's contracts in one form; lex.at; lex.number. -/
import Derived.Test.YtnanhebepjdlcaaDoorWalkB
import Derived.Test.YtnanhebepjdlcaaDoorNumber
import Derived.Test.YtnanhebepjdlcaaDoorModelC
import Derived.Test.YtnanhebepjdlcaaDoorShelf
import Derived.Shelf.Strings.SlTrimAscii
import Derived.Lib.AppendIntMem
import Derived.Lib.AtoiErrMem
import Derived.Maps.AppendAt
import Derived.Deep.AppendLies
namespace Go.Proofs.YtnanhebepjdlcaaDoor
open Go.RowKit

/-- The table that Itoa reads and the error that Atoi hands out lie where start-up laid them. -/
structure WOk (w : World) : Prop where
  tab : Lib.TabIs Tryd.prog w "internal/strconv.uint64pow10" .u64 Lib.pow10Tab
  rng : ∃ tp p, w.var? Tryd.prog "strconv.ErrRange" = some #[.iface tp p]
  big : 8 ≤ w.heap.size

theorem gTab : Tryd.prog.globalNamed "internal/strconv.uint64pow10" = some 5 := by kernel_rfl
theorem gRng : Tryd.prog.globalNamed "strconv.ErrRange" = some 3 := by kernel_rfl

theorem WOk.below {B : Nat} {w w' : World} (h : WOk w) (hb : Below B w w') (hB : 8 ≤ B) : WOk w' := by
  obtain ⟨tp, p, hr⟩ := h.rng
  exact ⟨var?_below hb gTab (show 5 < B by omega) h.tab, ⟨tp, p, var?_below hb gRng (show 3 < B by omega) hr⟩, Nat.le_trans h.big hb.size⟩
theorem WOk.later {w w' : World} (h : WOk w) (hb : Below w.heap.size w w') : WOk w' := h.below hb h.big

theorem bcell {W w1 : World} (hb : Below W.heap.size W w1) : (∀ b o, b < W.heap.size → w1.cell? ⟨b, o, none⟩ = W.cell? ⟨b, o, none⟩) ∧ (∀ b o, b < W.heap.size → w1.frozen? ⟨b, o, none⟩ = W.frozen? ⟨b, o, none⟩) :=
  ⟨fun b o h => hb.cell (p := ⟨b, o, none⟩) h, fun b o h => hb.frozen (p := ⟨b, o, none⟩) h⟩

theorem atoi_ok (s : ByteArray) (v : Int) (h : Lib.atoiAll (bl s) = .ok v) (hs : s.size ≤ 281474976710656) (w : World) :
    Calls Tryd.prog 35 #[.string s] w fun e w' => e = .returned (.tuple #[.int .i64 v, .nilIface]) ∧ Below w.heap.size w w' := by
  refine (Tryd.strconv_Atoi_ok s (by omega) v h w).mono ?_
  rintro e w' ⟨rfl, hw⟩
  refine ⟨rfl, ?_⟩
  rcases hw with rfl | ⟨t, rfl⟩
  · exact Below.refl _ _
  · exact Lib.bytesWorld_below _ _ _

theorem atoi_range (s : ByteArray) (h : Lib.atoiAll (bl s) = .range) (hs : s.size ≤ 281474976710656) (w : World) (hw : WOk w) :
    Calls Tryd.prog 35 #[.string s] w fun e w' => ∃ N, e = .returned (.tuple #[.int .i64 (Lib.atoiSat (bl s)), .iface 78 (.pointer (some ⟨N, 0, none⟩))]) ∧ Below w.heap.size w w' := by
  obtain ⟨tp, p, hr⟩ := hw.rng
  exact (Tryd.strconv_Atoi_range_var s hs h tp p w hr).mono fun e w' ⟨N, he, _, _, hb⟩ => ⟨N, he, hb⟩

theorem itoa_any (n : Int) (h0 : -9223372036854775808 ≤ n) (h1 : n ≤ 9223372036854775807) (w : World) (hw : WOk w) :
    Calls Tryd.prog 36 #[.int .i64 n] w fun e w' => e = .returned (.string ⟨(Lib.itoa n).toArray⟩) ∧ Below w.heap.size w w' := by
  refine (Tryd.strconv_Itoa n h0 h1 w hw.tab).mono ?_
  rintro e w' ⟨rfl, k, os, rfl⟩
  exact ⟨rfl, Lib.below_grow _ _ (Nat.le_refl _) _ _⟩

theorem skip_eq (l : List UInt8) : Lib.trimLeftS l [32, 9, 10] = LexM.skip l := by
  induction l with
  | nil => rfl
  | cons c l ih =>
    simp only [Lib.trimLeftS] at ih ⊢
    have hc : ([32, 9, 10] : List UInt8).contains c = LexM.isBlank c := by
      rw [Bool.eq_iff_iff]
      simp only [List.contains_eq_mem, List.mem_cons, List.not_mem_nil, or_false, decide_eq_true_eq, LexM.isBlank_iff, ← UInt8.toNat_inj]
      simp
    simp only [List.dropWhile, hc]
    by_cases h : LexM.isBlank c = true
    · simp only [h]
      rw [ih]
      simp [LexM.skip, LexM.span, h]
    · simp only [Bool.not_eq_true] at h
      simp only [h]
      simp [LexM.skip, LexM.span, h]

theorem trim_any (s : ByteArray) (w : World) :
    Calls Tryd.prog 18 #[.string s, .string ⟨#[32, 9, 10]⟩] w fun e w' => e = .returned (.string ⟨(LexM.skip (bl s)).toArray⟩) ∧ Below w.heap.size w w' := by
  have h := Any.strings_TrimLeft_laid Tryd.lays161 (by kernel_rfl) s ⟨#[32, 9, 10]⟩ w (by decide) (ascii_of_all (by decide))
  have e : (⟨#[32, 9, 10]⟩ : ByteArray).data.toList = [32, 9, 10] := rfl
  rw [e, skip_eq] at h
  exact h

/-! ### Tokens as cells -/

def tkCells (t : LexM.Tk) : List Value := [.int .i64 t.kind, .string ⟨t.text.toArray⟩, .int .i64 t.n, .int .i64 t.pos]
def tkAll (l : List LexM.Tk) : List Value := l.flatMap tkCells

theorem tkAll_length (l : List LexM.Tk) : (tkAll l).length = l.length * 4 := by
  induction l with
  | nil => rfl
  | cons t l ih => simp [tkAll, tkCells] at ih ⊢; omega

theorem tkAll_append (l m : List LexM.Tk) : tkAll (l ++ m) = tkAll l ++ tkAll m := by simp [tkAll]

theorem tkAll_at : ∀ (l : List LexM.Tk) (i : Nat) (t : LexM.Tk) (j : Nat), l[i]? = some t → j < 4 → (tkAll l)[i * 4 + j]? = (tkCells t)[j]?
  | [], i, t, j, h, _ => by simp at h
  | a :: l, 0, t, j, h, hj => by
    simp at h
    subst h
    show (tkCells a ++ tkAll l)[0 * 4 + j]? = _
    rw [List.getElem?_append_left (by simp [tkCells]; omega)]
    simp
  | a :: l, i + 1, t, j, h, hj => by
    have := tkAll_at l i t j (by simpa using h) hj
    show (tkCells a ++ tkAll l)[(i + 1) * 4 + j]? = _
    rw [List.getElem?_append_right (by simp [tkCells]; omega), ← this]
    congr 1
    simp [tkCells]
    omega


set_option maxRecDepth 100000 in
theorem at_empty (a : Option Addr) (c : Nat) (w : World) : Calls Tryd.prog 19 #[.slice a 0 c] w fun e w' => e = .returned (.int .i64 0) ∧ w = w' := by
  go_enter Tryd.func19, Tryd.ntmps19
  go_wp2_with fail
  go_ret
  exact ⟨rfl, rfl⟩

set_option maxHeartbeats 400000 in
set_option maxRecDepth 100000 in
theorem at_last (g n c : Nat) (kd : Int) (tx : ByteArray) (nv : Int) (ps : Nat) (w : World) (hn : n ≤ 1000000) (hb : ps ≤ 1000000) (hb2 : tx.size ≤ 1000000)
    (h0 : w.cell? ⟨g, n * 4, none⟩ = some (.int .i64 kd)) (h1 : w.cell? ⟨g, n * 4 + 1, none⟩ = some (.string tx)) (h2 : w.cell? ⟨g, n * 4 + 2, none⟩ = some (.int .i64 nv)) (h3 : w.cell? ⟨g, n * 4 + 3, none⟩ = some (.int .i64 ps)) :
    Calls Tryd.prog 19 #[.slice (some ⟨g, 0, none⟩) (n + 1) c] w fun e w' => e = .returned (.int .i64 (ps + tx.size)) ∧ Below w.heap.size w w' := by
  go_enter Tryd.func19, Tryd.ntmps19
  go_wp2_with fail
  go_ret
  exact ⟨rfl, (Below.refl _ _).alloc (Nat.le_refl _) _⟩

theorem at_any (base : Nat) (v : Value) (l : List LexM.Tk) (w : World) (h : w.ownsRow base 30 4 v l.length (tkAll l)) (hn : l.length ≤ 1000000) (hb : ∀ t ∈ l, t.pos ≤ 1000000 ∧ t.text.length ≤ 1000000) :
    Calls Tryd.prog 19 #[v] w fun e w' => e = .returned (.int .i64 (LexM.atOf l)) ∧ Below w.heap.size w w' := by
  cases hl : l.getLast? with
  | none =>
    obtain rfl : l = [] := List.getLast?_eq_none_iff.1 hl
    have hat : LexM.atOf [] = 0 := rfl
    rw [hat]
    rcases h.2 with ⟨rfl, _⟩ | ⟨g, cap, cur, rfl, _⟩
    · exact (at_empty _ _ w).mono fun e w' ⟨he, hw⟩ => ⟨he, by rw [← hw]; exact Below.refl _ _⟩
    · exact (at_empty _ _ w).mono fun e w' ⟨he, hw⟩ => ⟨he, by rw [← hw]; exact Below.refl _ _⟩
  | some t =>
    obtain ⟨m, rfl⟩ := List.getLast?_eq_some_iff.1 hl
    have hat : LexM.atOf (m ++ [t]) = t.pos + t.text.length := by simp [LexM.atOf]
    rw [hat]
    obtain ⟨b1, b2⟩ := hb t (by simp)
    obtain ⟨g, cap, rfl, _, _⟩ := h.form (by simp)
    have hc : ∀ j, j < 4 → w.cell? ⟨g, m.length * 4 + j, none⟩ = (tkCells t)[j]? := fun j hj => by
      rw [h.cellAt _ (by simp; omega)]
      exact tkAll_at _ m.length t j (by simp) hj
    have hlen : (m ++ [t]).length = m.length + 1 := by simp
    rw [hlen] at hn ⊢
    have hsz : (⟨t.text.toArray⟩ : ByteArray).size = t.text.length := by simp [Lib.size_eq]
    refine (at_last g m.length cap t.kind ⟨t.text.toArray⟩ t.n t.pos w (by omega) b1 (by rw [hsz]; exact b2) (hc 0 (by omega)) (hc 1 (by omega)) (hc 2 (by omega)) (hc 3 (by omega))).mono ?_
    rintro e w' ⟨rfl, hb⟩
    rw [hsz]
    exact ⟨rfl, hb⟩

end Go.Proofs.YtnanhebepjdlcaaDoor
