/- Faults. -/
import Derived.Test.YtnanhebepjdlcabDoorWalkH
import Derived.BigRegion
namespace Go.Proofs.YtnanhebepjdlcabDoor
open Go.RowKit

theorem ftInfo : (Tryd.prog.info? 42).map (fun i => (i.zero, i.size, i.bytes)) = some (some (.agg #[.bool false, .int .i64 0, .bool false]), 3, 24) := by kernel_rfl

/-- Bit k of the noise, by its place among sixteen. -/
def nbit (noise : Int) (k : Nat) : Bool := bits BinOp.and .i64 (noise / 2 ^ (k % 16)) 1 == 1

/-- A row of n faults at block g, of which the first k are laid. -/
structure FtRow (w : World) (g n k : Nat) (cut bytes noise : Int) : Prop where
  cells : ∀ j, j < n → w.cell? ⟨g, j * 3, none⟩ = some (.bool (decide (j < k) && ((j : Int) == cut))) ∧ w.cell? ⟨g, j * 3 + 1, none⟩ = some (.int .i64 (if (decide (j < k) && ((j : Int) == cut)) = true then bytes else 0)) ∧ w.cell? ⟨g, j * 3 + 2, none⟩ = some (.bool (decide (j < k) && nbit noise j))
  thaw : ∀ j, w.frozen? ⟨g, j, none⟩ = false

theorem FtRow.next {w W : World} {g n k : Nat} {cut bytes noise : Int} (h : FtRow w g n k cut bytes noise) (hf : ∀ o, o ≠ k * 3 → o ≠ k * 3 + 1 → o ≠ k * 3 + 2 → W.cell? ⟨g, o, none⟩ = w.cell? ⟨g, o, none⟩) (ht : ∀ j, W.frozen? ⟨g, j, none⟩ = w.frozen? ⟨g, j, none⟩)
    (h0 : W.cell? ⟨g, k * 3, none⟩ = some (.bool ((k : Int) == cut))) (h1 : W.cell? ⟨g, k * 3 + 1, none⟩ = some (.int .i64 (if ((k : Int) == cut) = true then bytes else 0))) (h2 : W.cell? ⟨g, k * 3 + 2, none⟩ = some (.bool (nbit noise k))) :
    FtRow W g n (k + 1) cut bytes noise := by
  refine ⟨fun j hj => ?_, fun j => (ht j).trans (h.thaw j)⟩
  by_cases hjk : j = k
  · subst hjk
    have e : decide (j < j + 1) = true := decide_eq_true (by omega)
    rw [e, Bool.true_and, Bool.true_and]
    exact ⟨h0, h1, h2⟩
  · have e : decide (j < k + 1) = decide (j < k) := by rw [Bool.eq_iff_iff]; simp; omega
    rw [e, hf _ (by omega) (by omega) (by omega), hf _ (by omega) (by omega) (by omega), hf _ (by omega) (by omega) (by omega)]
    exact h.cells j hj

theorem off_ne {g o o' : Nat} (h : o ≠ o') : (⟨g, o, none⟩ : Addr) ≠ ⟨g, o', none⟩ := fun e => h (by injection e)

theorem FtRow.miss {w : World} {g n k : Nat} {cut bytes noise : Int} (h : FtRow w g n k cut bytes noise) (hk : k < n) (hc : ((k : Int) == cut) = false) (b : Bool) (hb : b = nbit noise k) : FtRow (w.setCell ⟨g, k * 3 + 2, none⟩ (.bool b)) g n (k + 1) cut bytes noise := by
  subst hb
  obtain ⟨c0, c1, c2⟩ := h.cells k hk
  have e : decide (k < k) = false := decide_eq_false (by omega)
  rw [e] at c0 c1 c2
  refine h.next (fun o _ _ h3 => World.cell?_setCell_other _ _ _ _ (off_ne (Ne.symm h3))) (fun j => World.frozen?_setCell _ _ _ _) ?_ ?_ (World.cell?_setCell_same _ _ _ c2)
  · rw [World.cell?_setCell_other _ _ _ _ (off_ne (by omega)), c0, hc]; rfl
  · rw [World.cell?_setCell_other _ _ _ _ (off_ne (by omega)), c1, hc]; rfl

theorem FtRow.hit {w : World} {g n k : Nat} {cut bytes noise : Int} (h : FtRow w g n k cut bytes noise) (hk : k < n) (hc : ((k : Int) == cut) = true) (b : Bool) (hb : b = nbit noise k) :
    FtRow (((w.setCell ⟨g, k * 3 + 2, none⟩ (.bool b)).setCell ⟨g, k * 3, none⟩ (.bool true)).setCell ⟨g, k * 3 + 1, none⟩ (.int .i64 bytes)) g n (k + 1) cut bytes noise := by
  subst hb
  obtain ⟨c0, c1, c2⟩ := h.cells k hk
  refine h.next (fun o h1 h2 h3 => ?_) (fun j => ?_) ?_ ?_ ?_
  · rw [World.cell?_setCell_other _ _ _ _ (off_ne (Ne.symm h2)), World.cell?_setCell_other _ _ _ _ (off_ne (Ne.symm h1)), World.cell?_setCell_other _ _ _ _ (off_ne (Ne.symm h3))]
  · rw [World.frozen?_setCell, World.frozen?_setCell, World.frozen?_setCell]
  · rw [World.cell?_setCell_other _ _ _ _ (off_ne (by omega)), hc]
    exact World.cell?_setCell_same _ _ _ ((World.cell?_setCell_other _ _ _ _ (off_ne (by omega))).trans c0)
  · rw [hc]
    exact World.cell?_setCell_same _ _ _ ((World.cell?_setCell_other _ _ _ _ (off_ne (by omega))).trans ((World.cell?_setCell_other _ _ _ _ (off_ne (by omega))).trans c1))
  · rw [World.cell?_setCell_other _ _ _ _ (off_ne (by omega)), World.cell?_setCell_other _ _ _ _ (off_ne (by omega))]
    exact World.cell?_setCell_same _ _ _ c2

theorem FtRow.drew {w : World} {g n k : Nat} {cut bytes noise : Int} (h : FtRow w g n k cut bytes noise) : FtRow w.drew g n k cut bytes noise := ⟨h.cells, h.thaw⟩

theorem FtRow.below {w w' : World} {g n k : Nat} {cut bytes noise : Int} (h : FtRow w g n k cut bytes noise) (hg : g < w.heap.size) (hb : Below w.heap.size w w') : FtRow w' g n k cut bytes noise :=
  ⟨fun j hj => by
    obtain ⟨c0, c1, c2⟩ := h.cells j hj
    exact ⟨(hb.cell (p := ⟨g, j * 3, none⟩) hg).trans c0, (hb.cell (p := ⟨g, j * 3 + 1, none⟩) hg).trans c1, (hb.cell (p := ⟨g, j * 3 + 2, none⟩) hg).trans c2⟩, fun j => (hb.frozen (p := ⟨g, j, none⟩) hg).trans (h.thaw j)⟩

theorem made_at (n j : Nat) (hj : j < n) : (madeCells #[.bool false, .int .i64 0, .bool false] (n * 3))[j * 3]? = some (.bool false) ∧ (madeCells #[.bool false, .int .i64 0, .bool false] (n * 3))[j * 3 + 1]? = some (.int .i64 0) ∧ (madeCells #[.bool false, .int .i64 0, .bool false] (n * 3))[j * 3 + 2]? = some (.bool false) := by
  have h : ∀ i, i < n * 3 → (madeCells #[.bool false, .int .i64 0, .bool false] (n * 3))[i]? = some ((#[Value.bool false, .int .i64 0, .bool false] : Array Value)[i % 3]!) := by
    intro i hi
    simp [madeCells, hi]
  refine ⟨?_, ?_, ?_⟩
  · rw [h _ (by omega), show j * 3 % 3 = 0 by omega]; rfl
  · rw [h _ (by omega), show (j * 3 + 1) % 3 = 1 by omega]; rfl
  · rw [h _ (by omega), show (j * 3 + 2) % 3 = 2 by omega]; rfl

theorem FtRow.made {w : World} {B g n : Nat} (h : w.ownsRow B 42 3 (.slice (some ⟨g, 0, none⟩) n n) n (madeCells (Value.agg #[.bool false, .int .i64 0, .bool false]).cells (n * 3)).toList) (cut bytes noise : Int) : FtRow w g n 0 cut bytes noise := by
  have hc := h.cells rfl
  have e : (Value.agg #[.bool false, .int .i64 0, .bool false]).cells = #[.bool false, .int .i64 0, .bool false] := rfl
  rw [e] at hc
  refine ⟨fun j hj => ?_, fun j => ?_⟩
  · obtain ⟨m0, m1, m2⟩ := made_at n j hj
    have d : decide (j < 0) = false := decide_eq_false (by omega)
    rw [d]
    have a0 := hc (j * 3) _ (by rw [Array.getElem?_toList]; exact m0)
    have a1 := hc (j * 3 + 1) _ (by rw [Array.getElem?_toList]; exact m1)
    have a2 := hc (j * 3 + 2) _ (by rw [Array.getElem?_toList]; exact m2)
    rw [Addr.add_mid, Nat.zero_add] at a0 a1 a2
    exact ⟨a0, a1, a2⟩
  · rcases h.2 with ⟨h1, _⟩ | ⟨g', cap, cur, h1, _, h3, _⟩
    · cases h1
    · have e1 : g = g' := by injection h1 with h1; injection h1 with h1; injection h1
      subst e1
      exact thaw_of_blk h3 j

end Go.Proofs.YtnanhebepjdlcabDoor
