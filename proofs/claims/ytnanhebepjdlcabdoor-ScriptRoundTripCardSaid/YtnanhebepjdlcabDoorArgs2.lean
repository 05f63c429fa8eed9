/- An argument that is a row of commands (the block open_slice_fields is one that the guide gives to copy). -/
import Derived.Test.YtnanhebepjdlcabDoorArgs
namespace Go.Proofs.YtnanhebepjdlcabDoor
open Go.RowKit Go.ChangeShapes Go.WideShapes Go.Deep

section
variable {H : Type} {enc : TypeId × Value → H} {P : Program} {w : World} {base : Nat} {spare : Nat → Bool} {held : Bool}
theorem open_slice_fields {t e : TypeId} {fs : Array Field} {fuel : Nat} {cs : List Value} {x : DataW H × List MemPlace} (ht : P.underlying t = some (.slice e)) (he : P.underlying e = some (.struct fs))
    (hone : oneCellFields P fs = true) (hC : P.cellsOf e = fs.size) (h : DataW.trod enc P w base spare held fuel t cs = some x) :
    (cs = [.slice none 0 0] ∧ x = (.nil, [])) ∨
    ∃ (a : Addr) (len cap m : Nat) (D : Nat → DataW H) (Pl : Nat → List MemPlace), cs = [.slice (some a) len cap] ∧ base ≤ a.block ∧ len ≤ cap ∧ cap ≤ maxLen ∧ m = (if spare a.block then cap else len) ∧
      x = (.slice ((List.range len).map D) ((List.range (m - len)).map fun j => D (len + j)), MemPlace.row a (m * fs.size) ++ (List.range m).flatMap Pl) ∧
      ∀ i, i < m → ∃ (ys : List (DataW H × List MemPlace)) (n : Nat), D i = .agg (ys.map (·.1)) ∧ Pl i = ys.flatMap (·.2) ∧ ys.length = fs.size ∧
        ∀ (j : Nat) (f : Field), fs[j]? = some f → ∃ (v : Value) (y : DataW H × List MemPlace), w.cell? (a.add (i * fs.size + j)) = some v ∧ ys[j]? = some y ∧ DataW.trod enc P w base spare held n f.type [v] = some y := by
  rcases open_slice ht h with h0 | ⟨a, len, cap, m, n, D, Pl, hcs, hb, hl, hm, hmm, hx, hi⟩
  · exact .inl h0
  · refine .inr ⟨a, len, cap, m, D, Pl, hcs, hb, hl, hm, hmm, by rw [hC] at hx; exact hx, fun i him => ?_⟩
    obtain ⟨cs', hc, ht'⟩ := hi i him
    rw [hC] at hc
    obtain ⟨ys, n', hn', hy, hlen, hyl, hf⟩ := DataW.trod_struct he ht'
    obtain ⟨_, hcl, hat⟩ := World.cells?_some hc
    simp only [Prod.mk.injEq] at hy
    refine ⟨ys, n', hy.1, hy.2, hyl, fun j f hj => ?_⟩
    obtain ⟨ho, hk⟩ := hone_of hone j f hj
    have hjl : j < fs.size := (Array.getElem?_eq_some_iff.1 hj).1
    have hcell := hat j hjl
    have hv : cs'[j]? = some (cs'[j]'(by omega)) := List.getElem?_eq_getElem (by omega)
    have h1 := hf j f hj
    rw [ho, hk] at h1
    have hone' : (cs'.drop j).take 1 = [cs'[j]'(by omega)] := by
      rw [List.drop_eq_getElem_cons (by omega)]
      rfl
    rw [hone'] at h1
    have hys : ys[j]? = some (ys[j]'(by omega)) := List.getElem?_eq_getElem (by omega)
    refine ⟨_, _, ?_, hys, h1.trans hys⟩
    rw [← Go.Deep.add_add, hcell, hv]
end


theorem cm_list (w : World) (B b o : Nat) : ∀ n : Nat, (∀ i, i < n → ∃ cm, CmAt w B b (o + i * 5) cm) → ∃ L : List ScrM.Cm, L.length = n ∧ ∀ k cm, L[k]? = some cm → CmAt w B b (o + k * 5) cm
  | 0, _ => ⟨[], rfl, fun k cm h => by simp at h⟩
  | n + 1, h => by
    obtain ⟨L, hl, hc⟩ := cm_list w B b o n fun i hi => h i (by omega)
    obtain ⟨cm, hcm⟩ := h n (by omega)
    refine ⟨L ++ [cm], by simp [hl], fun k u hu => ?_⟩
    by_cases hk : k < n
    · rw [List.getElem?_append_left (by omega)] at hu
      exact hc k u hu
    · rw [List.getElem?_append_right (by omega)] at hu
      have hk0 : k - L.length < 1 := by
        have := (List.getElem?_eq_some_iff.1 hu).1
        simpa using this
      obtain rfl : k = n := by omega
      rw [hl, Nat.sub_self] at hu
      obtain rfl : cm = u := by simpa using hu
      exact hcm

set_option maxRecDepth 100000 in
theorem open_cms {H : Type} {enc : TypeId × Value → H} {w : World} {base : Nat} {spare : Nat → Bool} {held : Bool} {v : Value} {d : DataW H} {p : List MemPlace} (hv : ∃ a len cap, v = .slice a len cap) (h : DataW.Trod enc Tryd.prog w base spare held 23 v d p) :
    ∃ (A : Option Addr) (c : Nat) (L : List ScrM.Cm), v = .slice A L.length c ∧ CmReads w w.heap.size A L ∧ (A = none → L.length = 0 ∧ c = 0) := by
  obtain ⟨fuel, hf⟩ := h
  obtain ⟨a0, l0, c0, rfl⟩ := hv
  rcases open_slice_fields Tryd.underlying23 Tryd.underlying31 (by kernel_rfl) (by kernel_rfl) hf with ⟨hc, _⟩ | ⟨a, len, cap, m, D, Pl, hc, _, hl, hm, hmm, _, hi⟩
  · have hv : (Value.slice a0 l0 c0) = .slice none 0 0 := by simpa [Value.cells] using hc
    exact ⟨none, 0, [], hv, fun h => by simp at h, fun _ => ⟨rfl, rfl⟩⟩
  · have hv : (Value.slice a0 l0 c0) = .slice (some a) len cap := by simpa [Value.cells] using hc
    have hlm : len ≤ m := by rw [hmm]; split <;> omega
    by_cases h0 : len = 0
    · subst h0
      exact ⟨some a, cap, [], hv, fun h => by simp at h, fun h => nomatch h⟩
    · have hspot : a.spot = none := by
        obtain ⟨ys, n, _, _, _, hf⟩ := hi 0 (by omega)
        obtain ⟨v, y, hcell, _, _⟩ := hf 0 _ rfl
        have := (cell_lt hcell).2
        simpa [Addr.add] using this
      obtain ⟨b, o, rfl⟩ : ∃ b o, a = ⟨b, o, none⟩ := ⟨a.block, a.off, by cases a; simp_all⟩
      have hcells : ∀ i, i < len → ∃ cm, CmAt w w.heap.size b (o + i * 5) cm := by
        intro i hil
        obtain ⟨ys, n, _, _, _, hf⟩ := hi i (by omega)
        obtain ⟨v0, y0, g0, _, t0⟩ := hf 0 _ rfl
        obtain ⟨v1, y1, g1, _, t1⟩ := hf 1 _ rfl
        obtain ⟨v2, y2, g2, _, t2⟩ := hf 2 _ rfl
        obtain ⟨v3, y3, g3, _, t3⟩ := hf 3 _ rfl
        obtain ⟨v4, y4, g4, _, t4⟩ := hf 4 _ rfl
        obtain ⟨n0, e0, _⟩ := DataW.trod_int Tryd.underlying3 t0
        obtain ⟨Aa, ca, al, rfl, ha⟩ := open_args t1
        obtain ⟨n2, e2, _⟩ := DataW.trod_int Tryd.underlying3 t2
        obtain ⟨n3, e3, _⟩ := DataW.trod_int Tryd.underlying3 t3
        obtain ⟨n4, e4, _⟩ := DataW.trod_int Tryd.underlying3 t4
        obtain rfl : v0 = _ := by simpa using e0
        obtain rfl : v2 = _ := by simpa using e2
        obtain rfl : v3 = _ := by simpa using e3
        obtain rfl : v4 = _ := by simpa using e4
        rw [Addr.add_mid] at g0 g1 g2 g3 g4
        exact ⟨⟨n0, al, n2, n3, n4⟩, Aa, ca, ha, g0, g1, g2, g3, g4⟩
      have hlt : b < w.heap.size := by
        obtain ⟨cm, Aa, ca, _, h1, _⟩ := hcells 0 (by omega)
        exact (cell_lt h1).1
      obtain ⟨L, hL, hc⟩ := cm_list w w.heap.size b o len hcells
      exact ⟨some ⟨b, o, none⟩, cap, L, by rw [hL]; exact hv, fun _ => ⟨b, o, rfl, hlt, hc⟩, fun h => nomatch h⟩

end Go.Proofs.YtnanhebepjdlcabDoor
