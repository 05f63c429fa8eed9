/- Arguments that are commands: what comes in is opened (the block open_agg5 is one that the guide gives to copy). -/
import Derived.Test.YtnanhebepjdlcabDoorReads
import Derived.Deep.Slices
import Derived.Deep.Fields
import Derived.ChangeSame
import Derived.Lib.SmallJoins
import Derived.Carry
namespace Go.Proofs.YtnanhebepjdlcabDoor
open Go.RowKit Go.ChangeShapes Go.WideShapes Go.Deep Go.Joins

section
variable {H : Type} {enc : TypeId × Value → H} {P : Program} {w : World} {base : Nat} {spare : Nat → Bool} {held : Bool}
theorem open_agg5 {r : Reach} {b0 : Nat} {t : TypeId} {f0 f1 f2 f3 f4 : Field} {v : Value} {d : DataW H} {p : List MemPlace} (hs : P.underlying t = some (.struct #[f0, f1, f2, f3, f4])) (hone : oneCellFields P #[f0, f1, f2, f3, f4] = true) (hC : P.cellsOf t = 5)
    (hv : Value.okWide P w r b0 t v) (h : DataW.Trod enc P w base spare held t v d p) :
    ∃ (v0 v1 v2 v3 v4 : Value) (y0 y1 y2 y3 y4 : DataW H × List MemPlace) (n : Nat), v = .agg #[v0, v1, v2, v3, v4] ∧ d = .agg [y0.1, y1.1, y2.1, y3.1, y4.1] ∧ p = y0.2 ++ (y1.2 ++ (y2.2 ++ (y3.2 ++ y4.2))) ∧
      DataW.trod enc P w base spare held n f0.type [v0] = some y0 ∧ DataW.trod enc P w base spare held n f1.type [v1] = some y1 ∧ DataW.trod enc P w base spare held n f2.type [v2] = some y2 ∧ DataW.trod enc P w base spare held n f3.type [v3] = some y3 ∧ DataW.trod enc P w base spare held n f4.type [v4] = some y4 := by
  obtain ⟨cs, rfl, hsz⟩ := okWide_struct hs hv
  obtain ⟨l⟩ := cs
  match l, hsz.trans hC with
  | [c0, c1, c2, c3, c4], _ =>
    obtain ⟨fuel, hf⟩ := h
    obtain ⟨xs, n, _, hx, _, hlen, hg⟩ := DataW.trod_struct hs hf
    obtain ⟨o0, k0⟩ := hone_of hone 0 f0 rfl
    obtain ⟨o1, k1⟩ := hone_of hone 1 f1 rfl
    obtain ⟨o2, k2⟩ := hone_of hone 2 f2 rfl
    obtain ⟨o3, k3⟩ := hone_of hone 3 f3 rfl
    obtain ⟨o4, k4⟩ := hone_of hone 4 f4 rfl
    match xs, hlen with
    | [y0, y1, y2, y3, y4], _ =>
      simp only [Prod.mk.injEq] at hx
      exact ⟨c0, c1, c2, c3, c4, y0, y1, y2, y3, y4, n, rfl, by simpa using hx.1, by simpa using hx.2, by simpa [Value.cells, o0, k0] using hg 0 f0 rfl, by simpa [Value.cells, o1, k1] using hg 1 f1 rfl, by simpa [Value.cells, o2, k2] using hg 2 f2 rfl, by simpa [Value.cells, o3, k3] using hg 3 f3 rfl, by simpa [Value.cells, o4, k4] using hg 4 f4 rfl⟩
end

theorem cell_lt {w : World} {a : Addr} {v : Value} (h : w.cell? a = some v) : a.block < w.heap.size ∧ a.spot = none := by
  unfold World.cell? at h
  split at h
  · rename_i c _ _ hb
    refine ⟨(Array.getElem?_eq_some_iff.1 hb).1, ?_⟩
    split at h
    · cases h
    · rename_i hs
      simpa using hs
  · cases h

theorem int_list (w : World) (b o : Nat) : ∀ n : Nat, (∀ i, i < n → ∃ z : Int, w.cell? ⟨b, o + i, none⟩ = some (.int .i64 z)) →
    ∃ al : List Int, al.length = n ∧ ∀ i (h : i < al.length), w.cell? ⟨b, o + i, none⟩ = some (.int .i64 al[i])
  | 0, _ => ⟨[], rfl, fun i h => by simp at h⟩
  | n + 1, h => by
    obtain ⟨al, hl, hc⟩ := int_list w b o n fun i hi => h i (by omega)
    obtain ⟨z, hz⟩ := h n (by omega)
    refine ⟨al ++ [z], by simp [hl], fun i hi => ?_⟩
    by_cases hk : i < n
    · rw [List.getElem_append_left (by omega)]
      exact hc i (by omega)
    · simp at hi
      obtain rfl : i = n := by omega
      rw [List.getElem_append_right (by omega)]
      simpa [hl] using hz

theorem cellsInt1 : Tryd.prog.cellsOf 3 = 1 := by kernel_rfl

/-- A slice of numbers that came in. -/
theorem open_args {H : Type} {enc : TypeId × Value → H} {w : World} {base n : Nat} {spare : Nat → Bool} {held : Bool} {v : Value} {y : DataW H × List MemPlace} (h : DataW.trod enc Tryd.prog w base spare held n 29 [v] = some y) :
    ∃ (A : Option Addr) (c : Nat) (al : List Int), v = .slice A al.length c ∧ ArgsAt w w.heap.size A c al := by
  rcases open_slice Tryd.underlying29 h with ⟨hc, _⟩ | ⟨a, len, cap, m, n, D, Pl, hc, _, hl, hm, hmm, _, hi⟩
  · have hv : v = .slice none 0 0 := by simpa using hc
    exact ⟨none, 0, [], hv, Nat.le_refl _, fun hn => absurd rfl hn⟩
  · have hv : v = .slice (some a) len cap := by simpa using hc
    have hlm : len ≤ m := by rw [hmm]; split <;> omega
    rw [cellsInt1] at hi
    have hat : ∀ i, i < len → ∃ z : Int, w.cell? (a.add i) = some (.int .i64 z) := fun i hil => by
      obtain ⟨cs', hcs, ht⟩ := hi i (by omega)
      obtain ⟨z, hz, _⟩ := DataW.trod_int Tryd.underlying3 ht
      obtain ⟨_, _, hat⟩ := World.cells?_some hcs
      have := hat 0 (by omega)
      rw [hz] at this
      refine ⟨z, ?_⟩
      rw [Nat.mul_one] at this
      have e : (a.add i).add 0 = a.add i := by rw [Go.Deep.add_add]; rfl
      rw [e] at this
      exact this
    by_cases h0 : len = 0
    · subst h0
      exact ⟨some a, cap, [], hv, Nat.zero_le _, fun hn => absurd rfl hn⟩
    · obtain ⟨z0, hz0⟩ := hat 0 (by omega)
      have hspot : a.spot = none := by
        have := (cell_lt hz0).2
        simpa [Addr.add] using this
      obtain ⟨b, o, rfl⟩ : ∃ b o, a = ⟨b, o, none⟩ := ⟨a.block, a.off, by cases a; simp_all⟩
      obtain ⟨al, hal, hcell⟩ := int_list w b o len fun i hil => by
        obtain ⟨z, hz⟩ := hat i hil
        rw [Addr.add_mid] at hz
        exact ⟨z, hz⟩
      refine ⟨some ⟨b, o, none⟩, cap, al, by rw [hal]; exact hv, by omega, fun _ => ⟨b, o, rfl, (cell_lt hz0).1, hcell⟩⟩

set_option maxRecDepth 100000 in
/-- A command that came in by value. -/
theorem open_cm {H : Type} {enc : TypeId × Value → H} {w : World} {base b0 : Nat} {r : Reach} {spare : Nat → Bool} {held : Bool} {v : Value} {d : DataW H} {p : List MemPlace} (hv : Value.okWide Tryd.prog w r b0 31 v) (h : DataW.Trod enc Tryd.prog w base spare held 31 v d p) :
    ∃ (cm : ScrM.Cm) (A : Option Addr) (c : Nat), v = cmVal cm A c ∧ ArgsAt w w.heap.size A c cm.args := by
  obtain ⟨v0, v1, v2, v3, v4, y0, y1, y2, y3, y4, n, rfl, _, _, t0, t1, t2, t3, t4⟩ := open_agg5 Tryd.underlying31 (by kernel_rfl) (by kernel_rfl) hv h
  obtain ⟨n0, e0, _⟩ := DataW.trod_int Tryd.underlying3 t0
  obtain ⟨A, c, al, rfl, ha⟩ := open_args t1
  obtain ⟨n2, e2, _⟩ := DataW.trod_int Tryd.underlying3 t2
  obtain ⟨n3, e3, _⟩ := DataW.trod_int Tryd.underlying3 t3
  obtain ⟨n4, e4, _⟩ := DataW.trod_int Tryd.underlying3 t4
  obtain rfl : v0 = _ := by simpa using e0
  obtain rfl : v2 = _ := by simpa using e2
  obtain rfl : v3 = _ := by simpa using e3
  obtain rfl : v4 = _ := by simpa using e4
  exact ⟨⟨n0, al, n2, n3, n4⟩, A, c, rfl, ha⟩

end Go.Proofs.YtnanhebepjdlcabDoor
