/- The reference's command: its state. -/
import Derived.Test.YtnanhebepjdlcabDoorRefI
import Derived.Test.YtnanhebepjdlcabDoorRefA
import Derived.Test.YtnanhebepjdlcabDoorWalkQ
import Derived.Deep.QuietTactic
import Derived.BigQuiet
import Derived.Laws.ResultCell
namespace Go.Proofs.YtnanhebepjdlcabDoor
open Go.RowKit

/-- The words ws as the slice v holds them, in a block below K. -/
def WdsAt (w : World) (K : Nat) (v : Value) (ws : List ByteArray) : Prop :=
  ∃ g o c, v = .slice (some ⟨g, o, none⟩) ws.length c ∧ g < K ∧ ws.length ≤ c ∧ ∀ i x, ws[i]? = some x → w.cell? ⟨g, o + i, none⟩ = some (.string x)

/-- Where the reference's command stands: the command's own block C. -/
structure RcAt (w : World) (C : Nat) (op : Int) (sv : Value) (al : List Int) (cut bytes noise : Int) (w' : World) : Prop where
  low : Below w.heap.size w w'
  base : w.heap.size + 1 ≤ C
  blk : w'.heap[C]? = some (.cells (cmArr op sv cut bytes noise) 31 (0, 0))
  res : w'.heap[w.heap.size]? = some (.cells zeroCm 31 (0, 0))
  row : w'.ownsRow w.heap.size 3 1 sv al.length (intsV al)

theorem RcAt.facts {w w' : World} {C : Nat} {op cut bytes noise : Int} {sv : Value} {al : List Int} (h : RcAt w C op sv al cut bytes noise w') :
    (w'.cell? ⟨C, 0, none⟩ = some (.int .i64 op) ∧ w'.cell? ⟨C, 1, none⟩ = some sv ∧ w'.cell? ⟨C, 2, none⟩ = some (.int .i64 cut) ∧ w'.cell? ⟨C, 3, none⟩ = some (.int .i64 bytes) ∧ w'.cell? ⟨C, 4, none⟩ = some (.int .i64 noise)) ∧
    (w'.frozen? ⟨C, 0, none⟩ = false ∧ w'.frozen? ⟨C, 1, none⟩ = false ∧ w'.frozen? ⟨C, 2, none⟩ = false ∧ w'.frozen? ⟨C, 3, none⟩ = false ∧ w'.frozen? ⟨C, 4, none⟩ = false) :=
  ⟨⟨cells_of_blk h.blk 0, cells_of_blk h.blk 1, cells_of_blk h.blk 2, cells_of_blk h.blk 3, cells_of_blk h.blk 4⟩, thaw_of_blk h.blk 0, thaw_of_blk h.blk 1, thaw_of_blk h.blk 2, thaw_of_blk h.blk 3, thaw_of_blk h.blk 4⟩

/-- The row lies in no block of commands. -/
theorem row_not {w' : World} {B g n : Nat} {sv : Value} {xs : List Value} {cs : Array Value} {f : Nat × Nat} (hr : w'.ownsRow B 3 1 sv n xs) (hb : w'.heap[g]? = some (.cells cs 31 f)) : some g ≠ sv.ownBlock := fun e => by
  rcases hr.2 with ⟨rfl, _⟩ | ⟨g', cap, cur, rfl, h2, h3, h4⟩
  · cases e
  · injection e with e
    rw [show g' = g from e.symm, hb] at h3
    injection h3 with h3
    injection h3 with _ h3 _
    exact absurd h3 (by decide)

theorem row_set {w' : World} {B C i n : Nat} {sv v : Value} {xs : List Value} {cs : Array Value} {f : Nat × Nat} (hr : w'.ownsRow B 3 1 sv n xs) (hb : w'.heap[C]? = some (.cells cs 31 f)) : (w'.setCell ⟨C, i, none⟩ v).ownsRow B 3 1 sv n xs := by
  have hne := row_not hr hb
  refine ⟨hr.1, ?_⟩
  rcases hr.2 with hn | ⟨g, cap, cur, h1, h2, h3, h4⟩
  · exact .inl hn
  · refine .inr ⟨g, cap, cur, h1, h2, ?_, h4⟩
    have hgC : g ≠ C := fun e => hne (by rw [h1, ← e]; rfl)
    rw [heap_setCell_other w' ⟨C, i, none⟩ g v hgC]
    exact h3

/-- A store into the command's own block; the row may be a new one. -/
theorem RcAt.set {w w' : World} {C : Nat} {op cut bytes noise op' cut' bytes' noise' : Int} {sv sv' : Value} {al al' : List Int} (h : RcAt w C op sv al cut bytes noise w') (i : Nat) (v : Value)
    (hv : (cmArr op sv cut bytes noise).setIfInBounds i v = cmArr op' sv' cut' bytes' noise') (hr : w'.ownsRow w.heap.size 3 1 sv' al'.length (intsV al')) : RcAt w C op' sv' al' cut' bytes' noise' (w'.setCell ⟨C, i, none⟩ v) := by
  have hC := h.base
  refine ⟨h.low.trans ((Below.refl _ _).setCell (p := ⟨C, i, none⟩) (by show w.heap.size ≤ C; omega) v), h.base, ?_, ?_, row_set hr h.blk⟩
  · rw [heap_setCell_same w' C i _ _ v h.blk, hv]
  · rw [heap_setCell_other w' ⟨C, i, none⟩ w.heap.size v (by show w.heap.size ≠ C; omega)]; exact h.res

theorem RcAt.drawn {w w' : World} {C : Nat} {op cut bytes noise : Int} {sv : Value} {al : List Int} (h : RcAt w C op sv al cut bytes noise w') (m : Nat) : RcAt w C op sv al cut bytes noise (w'.drewN m) :=
  ⟨below_drewN h.low m, h.base, h.blk, h.res, h.row⟩

theorem rc_start (w : World) (x : List UInt8) : RcAt w (w.heap.size + 1) (ScrM.mop x 1 : Int) (.slice none 0 0) [] (-1) 0 0 ((w.alloc (.cells #[.int .i64 0, .slice none 0 0, .int .i64 0, .int .i64 0, .int .i64 0] 31)).alloc (.cells #[.int .i64 0, .slice none 0 0, .int .i64 (-1), .int .i64 0, .int .i64 0] 31)) := by
  refine ⟨((Below.refl _ _).alloc (Nat.le_refl _) _).alloc (by simp) _, Nat.le_refl _, ?_, two_first w _ _, World.ownsRow_nil _ _ _ _⟩
  have e : ScrM.mop x 1 = 0 := by simp [ScrM.mop]
  rw [e]
  exact two_second w _ _

/-- An append to the arguments' row. -/
theorem RcAt.app {w w' w3 : World} {C : Nat} {op cut bytes noise : Int} {sv v' : Value} {al : List Int} (h : RcAt w C op sv al cut bytes noise w') (o : Obj) (hg : (w'.alloc o).grownBy w3 sv.ownBlock) :
    (w3.cell? ⟨C, 1, none⟩ = some sv ∧ w3.frozen? ⟨C, 1, none⟩ = false) ∧
    ∀ (n : Int), w3.ownsRow w.heap.size 3 1 v' (al.length + 1) (intsV al ++ [.int .i64 n]) → RcAt w C op v' (al ++ [n]) cut bytes noise (w3.setCell ⟨C, 1, none⟩ v') := by
  have hsz := h.low.size
  have hb3 : Below w.heap.size w' w3 := ((Below.refl w.heap.size w').alloc hsz o).grown hg (by simp; omega) (fun k hk => (h.row.lt k hk).1)
  have hblk : w3.heap[C]? = some (.cells (cmArr op sv cut bytes noise) 31 (0, 0)) := (hg.block C (by simp; have := blk_lt h.blk; omega) (row_not h.row h.blk)).trans ((Below.heap_alloc _ _ _ (blk_lt h.blk)).trans h.blk)
  have hres : w3.heap[w.heap.size]? = some (.cells zeroCm 31 (0, 0)) := (hg.block _ (by simp; have := blk_lt h.res; omega) (row_not h.row h.res)).trans ((Below.heap_alloc _ _ _ (blk_lt h.res)).trans h.res)
  refine ⟨⟨cells_of_blk hblk 1, thaw_of_blk hblk 1⟩, fun n hr => ?_⟩
  have hr' : w3.ownsRow w.heap.size 3 1 v' (al ++ [n]).length (intsV (al ++ [n])) := by
    have e1 : (al ++ [n]).length = al.length + 1 := by simp
    have e2 : intsV (al ++ [n]) = intsV al ++ [.int .i64 n] := by simp [intsV]
    rw [e1, e2]; exact hr
  have hC := h.base
  refine ⟨(h.low.trans hb3).trans ((Below.refl _ _).setCell (p := ⟨C, 1, none⟩) (by show w.heap.size ≤ C; omega) v'), h.base, ?_, ?_, row_set hr' hblk⟩
  · rw [heap_setCell_same w3 C 1 _ _ v' hblk]; rfl
  · rw [heap_setCell_other w3 ⟨C, 1, none⟩ w.heap.size v' (by show w.heap.size ≠ C; omega)]; exact hres

/-- The command's value is handed back: its row stays. -/
theorem RcAt.fin {w w' : World} {C : Nat} {op cut bytes noise : Int} {sv : Value} {al : List Int} (h : RcAt w C op sv al cut bytes noise w') (v0 v1 v2 v3 v4 : Value) :
    Below w.heap.size w (((((w'.setCell ⟨w.heap.size, 0, none⟩ v0).setCell ⟨w.heap.size, 1, none⟩ v1).setCell ⟨w.heap.size, 2, none⟩ v2).setCell ⟨w.heap.size, 3, none⟩ v3).setCell ⟨w.heap.size, 4, none⟩ v4) ∧
    (((((w'.setCell ⟨w.heap.size, 0, none⟩ v0).setCell ⟨w.heap.size, 1, none⟩ v1).setCell ⟨w.heap.size, 2, none⟩ v2).setCell ⟨w.heap.size, 3, none⟩ v3).setCell ⟨w.heap.size, 4, none⟩ v4).ownsRow w.heap.size 3 1 sv al.length (intsV al) := by
  have step : ∀ (W : World) (j : Nat) (v : Value), (∃ cs, W.heap[w.heap.size]? = some (.cells cs 31 (0, 0))) ∧ Below w.heap.size w W ∧ W.ownsRow w.heap.size 3 1 sv al.length (intsV al) →
      (∃ cs, (W.setCell ⟨w.heap.size, j, none⟩ v).heap[w.heap.size]? = some (.cells cs 31 (0, 0))) ∧ Below w.heap.size w (W.setCell ⟨w.heap.size, j, none⟩ v) ∧ (W.setCell ⟨w.heap.size, j, none⟩ v).ownsRow w.heap.size 3 1 sv al.length (intsV al) := fun W j v ⟨⟨cs, hc⟩, hg, ho⟩ =>
    ⟨⟨_, heap_setCell_same W w.heap.size j _ _ v hc⟩, hg.trans ((Below.refl _ _).setCell (p := ⟨w.heap.size, j, none⟩) (Nat.le_refl _) v), row_set ho hc⟩
  exact (step _ 4 v4 (step _ 3 v3 (step _ 2 v2 (step _ 1 v1 (step _ 0 v0 ⟨⟨_, h.res⟩, h.low, h.row⟩))))).2

/-- What the reference's command answers. -/
def RcPost (ws : List ByteArray) (w : World) (e : Ending) (w' : World) : Prop :=
  ∃ (op cut bytes noise : Int) (A : Option Addr) (m c : Nat), e = .returned (.tuple #[.agg (cmArr op (.slice A m c) cut bytes noise), .bool (ScrM.command (ws.map bl)).isSome]) ∧
    (∀ cm, ScrM.command (ws.map bl) = some cm → op = cm.op ∧ cut = cm.cut ∧ bytes = cm.bytes ∧ noise = cm.noise ∧ w'.ownsRow w.heap.size 3 1 (.slice A m c) cm.args.length (intsV cm.args)) ∧ Below w.heap.size w w'

theorem rc_post {x : ByteArray} {r : List ByteArray} {w W5 : World} {op cut bytes noise : Int} {As : Option Addr} {ns cs : Nat} {al : List Int} {t : Bool}
    (hf : Below w.heap.size w W5 ∧ W5.ownsRow w.heap.size 3 1 (.slice As ns cs) al.length (intsV al)) (h : ScrM.command (bl x :: r.map bl) = if t = true then some ⟨op, al, cut, bytes, noise⟩ else none) :
    RcPost (x :: r) w (.returned (.tuple #[.agg #[.int .i64 op, .slice As ns cs, .int .i64 cut, .int .i64 bytes, .int .i64 noise], .bool t])) W5 := by
  have e : ScrM.command ((x :: r).map bl) = if t = true then some ⟨op, al, cut, bytes, noise⟩ else none := h
  refine ⟨op, cut, bytes, noise, As, ns, cs, ?_, fun cm hcm => ?_, hf.1⟩
  · rw [e]
    cases t <;> rfl
  · rw [e] at hcm
    cases t with
    | false => simp at hcm
    | true =>
      simp only [if_true, Option.some.injEq] at hcm
      subst hcm
      exact ⟨rfl, rfl, rfl, rfl, hf.2⟩

theorem RcPost.drawn {ws : List ByteArray} {w w' : World} {e : Ending} (h : RcPost ws w e w') : RcPost ws w e w'.drew := by
  obtain ⟨op, cut, bytes, noise, A, m, c, h1, h2, h3⟩ := h
  exact ⟨op, cut, bytes, noise, A, m, c, h1, h2, h3.drew⟩

theorem rname_k (k : Nat) (h1 : 1 ≤ k) (h2 : k ≤ 20) (w : World) : Calls Tryd.prog 36 #[.int .i64 (k : Int)] w fun e w' => e = .returned (.string (strOf (ScrM.nameOf k))) ∧ w' = w := by
  have h := refname_any (k : Int) w ⟨by omega, by omega⟩
  rw [Int.toNat_natCast] at h
  exact h.mono fun _ _ ⟨a, b⟩ => ⟨a, b.symm⟩

theorem WdsAt.below {w w' : World} {K : Nat} {v : Value} {ws : List ByteArray} (h : WdsAt w K v ws) (hb : Below K w w') : WdsAt w' K v ws := by
  obtain ⟨g, o, c, rfl, hg, hl, hc⟩ := h
  exact ⟨g, o, c, rfl, hg, hl, fun i x hx => (hb.cell (p := ⟨g, o + i, none⟩) hg).trans (hc i x hx)⟩

/-- Behind the cut: the words u that are left, the command so far. -/
def CutSt (w : World) (x : ByteArray) (r : List ByteArray) (sv : Value) (al : List Int) (v : Value) (w' : World) : Prop :=
  ∃ (u : List ByteArray) (cut bytes : Int), WdsAt w w.heap.size v u ∧ u.length ≤ 99999 ∧ (∀ y ∈ u, y.size ≤ 1000000) ∧ ScrM.StageR (bl x) (r.map bl) al cut bytes (u.map bl) ∧ RcAt w (w.heap.size + 1) (ScrM.opOf (bl x) : Int) sv al cut bytes 0 w'

/-- Behind the noise: the number of words that are left, the command. -/
def EndSt (w : World) (x : ByteArray) (r : List ByteArray) (sv : Value) (al : List Int) (cut bytes : Int) (v : Value) (w' : World) : Prop :=
  ∃ (A : Option Addr) (n c : Nat) (noise : Int), v = .slice A n c ∧ n ≤ 99999 ∧ ScrM.command (bl x :: r.map bl) = (if n = 0 then some ⟨(ScrM.opOf (bl x) : Int), al, cut, bytes, noise⟩ else none) ∧ RcAt w (w.heap.size + 1) (ScrM.opOf (bl x) : Int) sv al cut bytes noise w'

def cutHead (t : List ByteArray) : Bool := decide (3 ≤ t.length) && decide (t.head? = some cutB)
def noiseHead (t : List ByteArray) : Bool := decide (2 ≤ t.length) && decide (t.head? = some noiseB)

theorem cut_false {t : List ByteArray} (h : cutHead t = false) : (t.map bl).length < 3 ∨ (t.map bl).head? ≠ some ScrM.wCut := by
  unfold cutHead at h
  rw [Bool.and_eq_false_iff, decide_eq_false_iff_not, decide_eq_false_iff_not] at h
  rcases h with h | h
  · exact .inl (by rw [List.length_map]; omega)
  · exact .inr (head_map h)

theorem cut_true {t : List ByteArray} (h : cutHead t = true) : ∃ a b t3, t = cutB :: a :: b :: t3 := by
  unfold cutHead at h
  rw [Bool.and_eq_true, decide_eq_true_eq, decide_eq_true_eq] at h
  obtain ⟨h1, h2⟩ := h
  obtain ⟨t1, rfl⟩ := head_cons h2
  cases t1 with
  | nil => simp at h1
  | cons a t2 =>
    cases t2 with
    | nil => simp at h1
    | cons b t3 => exact ⟨a, b, t3, rfl⟩

theorem noise_false {t : List ByteArray} (h : noiseHead t = false) : (t.map bl).length < 2 ∨ (t.map bl).head? ≠ some ScrM.wNoise := by
  unfold noiseHead at h
  rw [Bool.and_eq_false_iff, decide_eq_false_iff_not, decide_eq_false_iff_not] at h
  rcases h with h | h
  · exact .inl (by rw [List.length_map]; omega)
  · exact .inr (head_map h)

theorem noise_true {t : List ByteArray} (h : noiseHead t = true) : ∃ a t3, t = noiseB :: a :: t3 := by
  unfold noiseHead at h
  rw [Bool.and_eq_true, decide_eq_true_eq, decide_eq_true_eq] at h
  obtain ⟨h1, h2⟩ := h
  obtain ⟨t1, rfl⟩ := head_cons h2
  cases t1 with
  | nil => simp at h1
  | cons a t2 => exact ⟨a, t2, rfl⟩

/-- The words behind the first j. -/
theorem wds_drop {w : World} {K g o c o' n' c' j : Nat} {ws : List ByteArray} (hcell : ∀ i x, ws[i]? = some x → w.cell? ⟨g, o + i, none⟩ = some (.string x)) (hg : g < K) (hl : ws.length ≤ c) (_hj : j ≤ ws.length)
    (hn : n' = ws.length - j) (hc : c' = c - j) (ho : c = j ∨ o' = o + j) : WdsAt w K (.slice (some ⟨g, o', none⟩) n' c') (ws.drop j) := by
  refine ⟨g, o', c', by rw [hn, List.length_drop], hg, by rw [List.length_drop]; omega, fun i x hx => ?_⟩
  rw [List.getElem?_drop] at hx
  rcases ho with rfl | rfl
  · have := (List.getElem?_eq_some_iff.1 hx).1
    omega
  · rw [show o + j + i = o + (j + i) by omega]
    exact hcell _ x hx

/-- The words that the call owns. -/
theorem WdsAt.of_own {w : World} {B m c : Nat} {A : Option Addr} {L : List ByteArray} (h : w.ownsRow B 9 1 (.slice A m c) L.length (L.map Value.string)) (hn : L ≠ []) : WdsAt w w.heap.size (.slice A m c) L := by
  rcases h.2 with ⟨h1, h2⟩ | ⟨g, cap, cur, h1, h2, h3, h4, h5⟩
  · exact absurd (List.eq_nil_of_length_eq_zero h2) hn
  · injection h1 with hA hm hc
    subst hA hm hc
    refine ⟨g, 0, c, rfl, blk_lt h3, ?_, fun i x hx => ?_⟩
    · exact h4
    · have := h.cells rfl i (.string x) (by simp [hx])
      rw [Addr.add_mid] at this
      exact this

end Go.Proofs.YtnanhebepjdlcabDoor
