/- A slice of commands as it is read. -/
import Derived.Test.YtnanhebepjdlcabDoorWalkJ
namespace Go.Proofs.YtnanhebepjdlcabDoor
open Go.RowKit

/-- The command at offset q of block g. -/
def CmAt (w : World) (B g q : Nat) (cm : ScrM.Cm) : Prop :=
  ∃ Aa ca, ArgsAt w B Aa ca cm.args ∧ w.cell? ⟨g, q, none⟩ = some (.int .i64 cm.op) ∧ w.cell? ⟨g, q + 1, none⟩ = some (.slice Aa cm.args.length ca) ∧
    w.cell? ⟨g, q + 2, none⟩ = some (.int .i64 cm.cut) ∧ w.cell? ⟨g, q + 3, none⟩ = some (.int .i64 cm.bytes) ∧ w.cell? ⟨g, q + 4, none⟩ = some (.int .i64 cm.noise)

/-- The slice at A reads as the commands L; all lies below block B. -/
def CmReads (w : World) (B : Nat) (A : Option Addr) (L : List ScrM.Cm) : Prop :=
  0 < L.length → ∃ g o, A = some ⟨g, o, none⟩ ∧ g < B ∧ ∀ k cm, L[k]? = some cm → CmAt w B g (o + k * 5) cm

theorem CmAt.below {w w' : World} {B g q : Nat} {cm : ScrM.Cm} (h : CmAt w B g q cm) (hg : g < B) (hb : Below B w w') : CmAt w' B g q cm := by
  obtain ⟨Aa, ca, ha, h0, h1, h2, h3, h4⟩ := h
  exact ⟨Aa, ca, ha.below hb, (hb.cell hg).trans h0, (hb.cell hg).trans h1, (hb.cell hg).trans h2, (hb.cell hg).trans h3, (hb.cell hg).trans h4⟩

theorem CmAt.more {w : World} {B B' g q : Nat} {cm : ScrM.Cm} (h : CmAt w B g q cm) (hB : B ≤ B') : CmAt w B' g q cm := by
  obtain ⟨Aa, ca, ha, h0⟩ := h
  exact ⟨Aa, ca, ha.more hB, h0⟩

theorem CmReads.below {w w' : World} {B : Nat} {A : Option Addr} {L : List ScrM.Cm} (h : CmReads w B A L) (hb : Below B w w') : CmReads w' B A L := fun hn => by
  obtain ⟨g, o, rfl, hg, hc⟩ := h hn
  exact ⟨g, o, rfl, hg, fun k cm hk => (hc k cm hk).below hg hb⟩

theorem CmReads.more {w : World} {B B' : Nat} {A : Option Addr} {L : List ScrM.Cm} (h : CmReads w B A L) (hB : B ≤ B') : CmReads w B' A L := fun hn => by
  obtain ⟨g, o, rfl, hg, hc⟩ := h hn
  exact ⟨g, o, rfl, Nat.lt_of_lt_of_le hg hB, fun k cm hk => (hc k cm hk).more hB⟩

theorem CmReads.at_ {w : World} {B : Nat} {A : Option Addr} {L : List ScrM.Cm} (h : CmReads w B A L) {k : Nat} (hk : k < L.length) :
    ∃ g o, A = some ⟨g, o, none⟩ ∧ g < B ∧ CmAt w B g (o + k * 5) L[k] := by
  obtain ⟨g, o, hA, hg, hc⟩ := h (by omega)
  exact ⟨g, o, hA, hg, hc k _ (List.getElem?_eq_getElem hk)⟩

/-- Arguments that the call owns can be read. -/
theorem ArgsAt.of_own {w : World} {base m c : Nat} {A : Option Addr} {al : List Int} (h : w.ownsRow base 3 1 (.slice A m c) al.length (intsV al)) : ArgsAt w w.heap.size A c al := by
  rcases h.2 with ⟨h1, h2⟩ | ⟨g, cap, cur, h1, h2, h3, h4, _⟩
  · injection h1 with h1 _ h1c
    refine ⟨by omega, fun hn => ?_⟩
    exact absurd (List.eq_nil_of_length_eq_zero h2) hn
  · injection h1 with h1 hm hc
    refine ⟨by omega, fun _ => ⟨g, 0, h1, blk_lt h3, fun i hi => ?_⟩⟩
    have := h.cells (by rw [h1]; rfl) i (.int .i64 al[i]) (by simp [intsV, hi])
    rw [Addr.add_mid] at this
    exact this

theorem cmRow_at : ∀ (M : List CmA) (k : Nat) (p : CmA) (j : Nat), M[k]? = some p → j < 5 → (cmRow M)[k * 5 + j]? = (cmCells p.1 p.2.1 p.2.2)[j]?
  | [], k, p, j, h, _ => by simp at h
  | q :: t, 0, p, j, h, hj => by
    simp at h
    subst h
    rw [cmRow, List.flatMap_cons, List.getElem?_append_left (by simp [cmCells]; omega)]
    simp
  | q :: t, k + 1, p, j, h, hj => by
    have ih := cmRow_at t k p j (by simpa using h) hj
    rw [cmRow, List.flatMap_cons, List.getElem?_append_right (by simp [cmCells]; omega)]
    have e : (k + 1) * 5 + j - (cmCells q.1 q.2.1 q.2.2).length = k * 5 + j := by simp [cmCells]; omega
    rw [e]
    exact ih

/-- Commands that the call owns can be read. -/
theorem CmReads.of_own {w : World} {base m c : Nat} {A : Option Addr} {M : List CmA} (h : OwnCmds w base (.slice A m c) M) : CmReads w w.heap.size A (M.map Prod.fst) := fun hn => by
  rw [List.length_map] at hn
  rcases h.1.2 with ⟨_, h2⟩ | ⟨g, cap, cur, h1, h2, h3, h4, _⟩
  · omega
  · injection h1 with h1 hm hc
    refine ⟨g, 0, h1, blk_lt h3, fun k cm hk => ?_⟩
    rw [List.getElem?_map] at hk
    obtain ⟨p, hp, rfl⟩ := Option.map_eq_some_iff.1 hk
    have ha := ArgsAt.of_own (h.2 p (List.mem_of_getElem? hp))
    have hc : ∀ (j : Nat) (v : Value), j < 5 → (cmCells p.1 p.2.1 p.2.2)[j]? = some v → w.cell? ⟨g, 0 + k * 5 + j, none⟩ = some v := fun j v hj hv => by
      have := h.1.cells (by rw [h1]; rfl) (k * 5 + j) v (by rw [cmRow_at M k p j hp hj]; exact hv)
      rw [Addr.add_mid] at this
      rw [show 0 + k * 5 + j = 0 + (k * 5 + j) by omega]
      exact this
    exact ⟨p.2.1, p.2.2, ha, hc 0 _ (by omega) rfl, hc 1 _ (by omega) rfl, hc 2 _ (by omega) rfl, hc 3 _ (by omega) rfl, hc 4 _ (by omega) rfl⟩

end Go.Proofs.YtnanhebepjdlcabDoor
