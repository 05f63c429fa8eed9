/- bootchainlaw12.LexConcat: the plain law, and an append of a whole row. -/
import Derived.Test.YtnanhebepjdlcaaDoorLawMatch
import Derived.Test.YtnanhebepjdlcaaDoorLawOff
import Derived.Laws.AppendOwnNone
namespace Go.Proofs.YtnanhebepjdlcaaDoor
open Go.RowKit

theorem tokens_short_eq {l : List UInt8} (h : l.length ≤ 1500) : LexM.tokens l = match LexM.lex l with | some m => (m, 0) | none => ([], 3) := by
  cases hx : LexM.lex l with
  | none => rw [tokens_of_none h hx]
  | some m => rw [tokens_of_lex h hx]

theorem cat_ok {a b : List UInt8} {c : UInt8} (hc : LexM.isBlank c = true) (ha : a.length ≤ 600) (hb : b.length ≤ 600) {L M : List LexM.Tk} (h1 : LexM.tokens a = (L, 0)) (h2 : LexM.tokens b = (M, 0)) :
    LexM.tokens (a ++ c :: b) = (L ++ LexM.shift (a.length + 1) M, 0) := by
  refine tokens_of_lex (by simp; omega) ?_
  rw [LexM.lex_joined hc, lex_of_tokens h1, lex_of_tokens h2]
  rfl

theorem err_of {l : List UInt8} (h : l.length ≤ 1500) {L : List LexM.Tk} {e : Int} (h1 : LexM.tokens l = (L, e)) (he : e ≠ 0) : LexM.lex l = none := by
  rw [tokens_short_eq h] at h1
  cases hx : LexM.lex l with
  | none => rfl
  | some m => rw [hx] at h1; injection h1 with _ h3; exact absurd h3.symm he

theorem cat_fail {a b : List UInt8} {c : UInt8} (hc : LexM.isBlank c = true) (ha : a.length ≤ 600) (hb : b.length ≤ 600) {L M : List LexM.Tk} {e f : Int} (h1 : LexM.tokens a = (L, e)) (h2 : LexM.tokens b = (M, f)) (he : e ≠ 0 ∨ f ≠ 0) :
    LexM.tokens (a ++ c :: b) = ([], 3) := by
  refine tokens_of_none (by simp; omega) ?_
  rw [LexM.lex_joined hc]
  rcases he with he | he
  · rw [err_of (by omega) h1 he]
    rfl
  · rw [err_of (by omega) h2 he]
    cases LexM.lex a <;> rfl

/-- Three strings of which one is picked. -/
def sepS : Nat → ByteArray
  | 0 => ⟨#[32]⟩
  | 1 => ⟨#[9]⟩
  | _ => ⟨#[10]⟩

def sepC : Nat → UInt8
  | 0 => 32
  | 1 => 9
  | _ => 10

theorem sep_blank : ∀ k, LexM.isBlank (sepC k) = true
  | 0 => by decide
  | 1 => by decide
  | _ + 2 => by show LexM.isBlank 10 = true; decide

theorem sep_bl (a b : ByteArray) : ∀ k, bl (a ++ sepS k ++ b) = bl a ++ sepC k :: bl b
  | 0 => by rw [bl_append, bl_append]; simp [sepS, sepC, bl]
  | 1 => by rw [bl_append, bl_append]; simp [sepS, sepC, bl]
  | _ + 2 => by rw [bl_append, bl_append]; simp [sepS, sepC, bl]

theorem sep_size : ∀ k, (sepS k).size = 1
  | 0 => rfl
  | 1 => rfl
  | _ + 2 => rfl

/-- A whole row, read, is put behind a row of one's own. -/
theorem wpList_append_row {P : Program} (w : World) {ops : Array Oper} {rest : List Oper} {o : Oper} {a : Act} {Q : Exit → Act → World → Prop} (hgd : o.guard = none) (s x : Operand) (t : TypeId)
    (ho : o.op = .call { callee := .builtin .append, args := #[s, x], argTypes := #[t, t] })
    (base : Nat) (e : TypeId) (i : TypeInfo) (z : Value) (size bytes : Nat) (ht : P.underlying t = some (.slice e)) (hi : P.info? e = some i) (hz : i.zero = some z)
    (hsize : i.size = size) (hby : i.bytes = bytes) (hzs : z.cells.size = size) (hsz : 0 < size)
    (v : Value) (n : Nat) (xs : List Value) (hs : a.eval s = v) (hown : w.ownsRow base e size v n xs)
    (b' : Nat) (v' : Value) (m : Nat) (news : List Value) (hx : a.eval x = v') (hown' : w.ownsRow b' e size v' m news) (h1 : ∀ u ∈ news, u.oneCell' = true)
    (h63 : n + m ≤ maxLen) (hbytes : (n + m) * bytes ≤ 140737488355328) (hbase : base ≤ w.heap.size)
    (h : ∀ u w', w'.ownsRow base e size u (n + m) (xs ++ news) → w.grownBy w' v.ownBlock → wpList P ops Q rest (a.put o.dst u) w') : wpList P ops Q (o :: rest) a w := by
  have hl := hown'.1
  rcases hown'.2 with ⟨rfl, rfl⟩ | ⟨g, cap, cur, rfl, h2, h3, h4, h5, h6, h7⟩
  · obtain rfl : news = [] := List.eq_nil_of_length_eq_zero (by omega)
    refine wpList_append_own_none hgd s x t ho base e i size ht hi v n xs hs hown hx (h v w ?_ ⟨rfl, rfl, rfl, Nat.le_refl _, fun _ _ _ => rfl⟩)
    simpa using hown
  · refine wpList_append_own w hgd s x t ho base e i z size bytes ht hi hz hsize hby hzs hsz v n xs hs hown ⟨g, 0, none⟩ m cap news hx hl (fun j u hj => ?_) h1 h63 hbytes hbase (fun u w' h8 h9 _ => h u w' h8 h9)
    have hjl : j < news.length := (List.getElem?_eq_some_iff.1 hj).1
    have := hown'.cellAt j (by omega)
    rw [← this] at hj
    rw [← hj]
    cases j <;> simp [Addr.add]

theorem tkAll_one (l : List LexM.Tk) : ∀ u ∈ tkAll l, u.oneCell' = true := by
  intro u hu
  obtain ⟨t, _, hut⟩ := List.mem_flatMap.1 hu
  simp only [tkCells, List.mem_cons, List.not_mem_nil, or_false] at hut
  rcases hut with rfl | rfl | rfl | rfl <;> rfl

end Go.Proofs.YtnanhebepjdlcaaDoor
