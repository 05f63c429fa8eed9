/- line.command: its state, and the head of the walk. -/
import Derived.Test.YtnanhebepjdlcabDoorWalkD
import Derived.Test.YtnanhebepjdlcabDoorWalkG
import Derived.Test.YtnanhebepjdlcabDoorWalkF
import Derived.Deep.RegionHeld3
import Derived.Deep.CutRange
namespace Go.Proofs.YtnanhebepjdlcabDoor
open Go.RowKit

def zeroCm : Array Value := #[.int .i64 0, .slice none 0 0, .int .i64 0, .int .i64 0, .int .i64 0]
def cmArr (op : Int) (sv : Value) (cut bytes noise : Int) : Array Value := #[.int .i64 op, sv, .int .i64 cut, .int .i64 bytes, .int .i64 noise]
def intsV (al : List Int) : List Value := al.map (Value.int .i64)

/-- Where line.command stands: the line, the command's own block C. -/
structure CmdAt (w : World) (b C : Nat) (ws : List ByteArray) (op : Int) (sv : Value) (al : List Int) (cut bytes noise : Int) (w' : World) : Prop where
  line : LineAt w' b w.heap.size ws
  grown : w.grownBy w' (some b)
  base : w.heap.size + 1 ≤ C
  blk : w'.heap[C]? = some (.cells (cmArr op sv cut bytes noise) 31 (0, 0))
  res : w'.heap[w.heap.size]? = some (.cells zeroCm 31 (0, 0))
  row : w'.ownsRow w.heap.size 3 1 sv al.length (intsV al)

theorem WOk.grown {w w' : World} {b : Nat} (h : WOk w) (hg : w.grownBy w' (some b)) (hb : 9 ≤ b) : WOk w' :=
  h.below (B := 9) ⟨hg.os, hg.tape, hg.output, hg.size, fun k hk => hg.block k (Nat.lt_of_lt_of_le hk h.big) (fun e => by injection e with e; omega)⟩ (Nat.le_refl _)

theorem cells_of_blk {w : World} {C : Nat} {cs : Array Value} {T : TypeId} (h : w.heap[C]? = some (.cells cs T (0, 0))) (j : Nat) : w.cell? ⟨C, j, none⟩ = cs[j]? := by
  simp [World.cell?, h]

theorem thaw_of_blk {w : World} {C : Nat} {cs : Array Value} {T : TypeId} (h : w.heap[C]? = some (.cells cs T (0, 0))) (j : Nat) : w.frozen? ⟨C, j, none⟩ = false := by
  simp [World.frozen?, h]

theorem blk_lt {w : World} {C : Nat} {o : Obj} (h : w.heap[C]? = some o) : C < w.heap.size := (Array.getElem?_eq_some_iff.1 h).1

theorem grown_below {w w' : World} (h : Below w.heap.size w w') (row : Option Nat) : w.grownBy w' row :=
  ⟨h.os, h.tape, h.output, h.size, fun k hk _ => h.block k hk⟩

/-- The line moves on; the command's block stays. -/
theorem CmdAt.later {w w' W : World} {b C : Nat} {ws ws' : List ByteArray} {op cut bytes noise : Int} {sv : Value} {al : List Int} (h : CmdAt w b C ws op sv al cut bytes noise w') (hbK : b < w.heap.size)
    (hg : w'.grownBy W (some b)) (hl : LineAt W b w.heap.size ws') : CmdAt w b C ws' op sv al cut bytes noise W := by
  have hC := blk_lt h.blk
  have hR := blk_lt h.res
  have hcb : (some C : Option Nat) ≠ some b := fun e => by injection e with e; have := h.base; omega
  have hrb : (some w.heap.size : Option Nat) ≠ some b := fun e => by injection e with e; omega
  refine ⟨hl, h.grown.trans hg, h.base, (hg.block C hC hcb).trans h.blk, (hg.block _ hR hrb).trans h.res, h.row.kept hg ?_⟩
  cases hsv : sv.ownBlock with
  | none => exact .inl rfl
  | some k =>
    refine .inr fun e => ?_
    injection e with e
    have := (h.row.lt k hsv).1
    omega

theorem CmdAt.facts {w w' : World} {b C : Nat} {ws : List ByteArray} {op cut bytes noise : Int} {sv : Value} {al : List Int} (h : CmdAt w b C ws op sv al cut bytes noise w') :
    (w'.cell? ⟨C, 0, none⟩ = some (.int .i64 op) ∧ w'.cell? ⟨C, 1, none⟩ = some sv ∧ w'.cell? ⟨C, 2, none⟩ = some (.int .i64 cut) ∧ w'.cell? ⟨C, 3, none⟩ = some (.int .i64 bytes) ∧ w'.cell? ⟨C, 4, none⟩ = some (.int .i64 noise)) ∧
    (w'.frozen? ⟨C, 0, none⟩ = false ∧ w'.frozen? ⟨C, 1, none⟩ = false ∧ w'.frozen? ⟨C, 2, none⟩ = false ∧ w'.frozen? ⟨C, 3, none⟩ = false ∧ w'.frozen? ⟨C, 4, none⟩ = false) :=
  ⟨⟨cells_of_blk h.blk 0, cells_of_blk h.blk 1, cells_of_blk h.blk 2, cells_of_blk h.blk 3, cells_of_blk h.blk 4⟩, thaw_of_blk h.blk 0, thaw_of_blk h.blk 1, thaw_of_blk h.blk 2, thaw_of_blk h.blk 3, thaw_of_blk h.blk 4⟩

/-- A write into a block beyond the line's. -/
theorem LineAt.far {w W : World} {b K : Nat} {ws : List ByteArray} (h : LineAt w b K ws) (hb : Below K w W) : LineAt W b K ws := by
  obtain ⟨hK, g, o, c, h1, h2, h3, h4, h5, h6, h7⟩ := h
  exact ⟨Nat.le_trans hK hb.size, g, o, c, (hb.cell h5).trans h1, (hb.frozen h5).trans h2, h3, h4, h5, h6, fun i x hx => (hb.cell h4).trans (h7 i x hx)⟩

theorem grown_far {w w' W : World} {b : Nat} (h : w.grownBy w' (some b)) (hb : Below w.heap.size w' W) : w.grownBy W (some b) :=
  ⟨hb.os.trans h.os, hb.tape.trans h.tape, hb.output.trans h.output, Nat.le_trans h.size hb.size, fun k hk hne => (hb.block k hk).trans (h.block k hk hne)⟩

/-- A store into the command's own block. -/
theorem CmdAt.set {w w' : World} {b C : Nat} {ws : List ByteArray} {op cut bytes noise op' cut' bytes' noise' : Int} {sv sv' : Value} {al al' : List Int} (h : CmdAt w b C ws op sv al cut bytes noise w') (i : Nat) (v : Value)
    (hv : (cmArr op sv cut bytes noise).setIfInBounds i v = cmArr op' sv' cut' bytes' noise') (hr : w'.ownsRow w.heap.size 3 1 sv' al'.length (intsV al')) : CmdAt w b C ws op' sv' al' cut' bytes' noise' (w'.setCell ⟨C, i, none⟩ v) := by
  have hC := h.base
  have hb : Below w.heap.size w' (w'.setCell ⟨C, i, none⟩ v) := (Below.refl _ _).setCell (p := ⟨C, i, none⟩) (by show w.heap.size ≤ C; omega) v
  refine ⟨h.line.far hb, grown_far h.grown hb, h.base, ?_, ?_, ?_⟩
  · rw [heap_setCell_same w' C i _ _ v h.blk, hv]
  · rw [heap_setCell_other w' ⟨C, i, none⟩ w.heap.size v (by show w.heap.size ≠ C; omega)]; exact h.res
  · refine ⟨hr.1, ?_⟩
    rcases hr.2 with hn | ⟨g, cap, cur, h1, h2, h3, h4⟩
    · exact .inl hn
    · refine .inr ⟨g, cap, cur, h1, h2, ?_, h4⟩
      have hne : g ≠ C := fun e => by
        rw [e, h.blk] at h3
        injection h3 with h3
        injection h3 with _ h3 _
        exact absurd h3 (by decide)
      rw [heap_setCell_other w' ⟨C, i, none⟩ g v hne]
      exact h3

theorem new_second (w : World) (o o' : Obj) : ((w.alloc o).drew.alloc o').heap[w.heap.size + 1]? = some o' := by
  have h := heap_alloc_new (w.alloc o).drew o'
  have e : (w.alloc o).drew.heap.size = w.heap.size + 1 := by simp
  rw [e] at h
  exact h

theorem zero_facts {w' : World} {C : Nat} (h : w'.heap[C]? = some (.cells zeroCm 31 (0, 0))) :
    (w'.cell? ⟨C, 0, none⟩ = some (.int .i64 0) ∧ w'.cell? ⟨C, 1, none⟩ = some (.slice none 0 0) ∧ w'.cell? ⟨C, 2, none⟩ = some (.int .i64 0) ∧ w'.cell? ⟨C, 3, none⟩ = some (.int .i64 0) ∧ w'.cell? ⟨C, 4, none⟩ = some (.int .i64 0)) ∧
    (w'.frozen? ⟨C, 0, none⟩ = false ∧ w'.frozen? ⟨C, 1, none⟩ = false ∧ w'.frozen? ⟨C, 2, none⟩ = false ∧ w'.frozen? ⟨C, 3, none⟩ = false ∧ w'.frozen? ⟨C, 4, none⟩ = false) :=
  ⟨⟨cells_of_blk h 0, cells_of_blk h 1, cells_of_blk h 2, cells_of_blk h 3, cells_of_blk h 4⟩, thaw_of_blk h 0, thaw_of_blk h 1, thaw_of_blk h 2, thaw_of_blk h 3, thaw_of_blk h 4⟩

theorem keep5 {W : World} {C : Nat} {p : Addr} {v : Value} (h : W.cell? p = some v) (hne : C ≠ p.block) (a b c d e : Value) :
    (((((W.setCell ⟨C, 0, none⟩ a).setCell ⟨C, 1, none⟩ b).setCell ⟨C, 2, none⟩ c).setCell ⟨C, 3, none⟩ d).setCell ⟨C, 4, none⟩ e).cell? p = some v := by
  rw [World.cell?_setCell_far _ _ _ _ hne, World.cell?_setCell_far _ _ _ _ hne, World.cell?_setCell_far _ _ _ _ hne, World.cell?_setCell_far _ _ _ _ hne, World.cell?_setCell_far _ _ _ _ hne]
  exact h

theorem CmdAt.wok {w w' : World} {b C : Nat} {ws : List ByteArray} {op cut bytes noise : Int} {sv : Value} {al : List Int} (h : CmdAt w b C ws op sv al cut bytes noise w') (hw : WOk w) (hb : 9 ≤ b) : WOk w' := hw.grown h.grown hb

theorem new_first (w : World) (o o' : Obj) : ((w.alloc o).drew.alloc o').heap[w.heap.size]? = some o := by
  rw [Below.heap_alloc _ _ _ (by simp)]
  exact heap_alloc_new w o

theorem CmdAt.start {w W : World} {b : Nat} {ws : List ByteArray} (h : LineAt w b w.heap.size ws) (hb : Below w.heap.size w W) (hr : W.heap[w.heap.size]? = some (.cells zeroCm 31 (0, 0))) (hs : w.heap.size + 1 ≤ W.heap.size) (op : Int) :
    CmdAt w b W.heap.size ws op (.slice none 0 0) [] (-1) 0 0 (W.alloc (.cells (cmArr op (.slice none 0 0) (-1) 0 0) 31)) := by
  have hb2 := hb.alloc hb.size (.cells (cmArr op (.slice none 0 0) (-1) 0 0) 31)
  exact ⟨h.far hb2, grown_below hb2 _, hs, heap_alloc_new W _, by rw [Below.heap_alloc _ _ _ (by omega)]; exact hr, World.ownsRow_nil _ _ _ _⟩

theorem CmdAt.start5 {w W : World} {b C : Nat} {ws : List ByteArray} (h : LineAt w b w.heap.size ws) (hb : Below w.heap.size w W) (hr : W.heap[w.heap.size]? = some (.cells zeroCm 31 (0, 0))) (hblk : W.heap[C]? = some (.cells zeroCm 31 (0, 0))) (hs : w.heap.size + 1 ≤ C) (op : Int) :
    CmdAt w b C ws op (.slice none 0 0) [] (-1) 0 0 (((((W.setCell ⟨C, 0, none⟩ (.int .i64 op)).setCell ⟨C, 1, none⟩ (.slice none 0 0)).setCell ⟨C, 2, none⟩ (.int .i64 (-1))).setCell ⟨C, 3, none⟩ (.int .i64 0)).setCell ⟨C, 4, none⟩ (.int .i64 0)) := by
  have h0 : CmdAt w b C ws 0 (.slice none 0 0) [] 0 0 0 W := ⟨h.far hb, grown_below hb _, hs, hblk, hr, World.ownsRow_nil _ _ _ _⟩
  have h1 := h0.set 0 (.int .i64 op) (op' := op) (sv' := .slice none 0 0) (al' := []) (cut' := 0) (bytes' := 0) (noise' := 0) rfl (World.ownsRow_nil _ _ _ _)
  have h2 := h1.set 1 (.slice none 0 0) (op' := op) (sv' := .slice none 0 0) (al' := []) (cut' := 0) (bytes' := 0) (noise' := 0) rfl (World.ownsRow_nil _ _ _ _)
  have h3 := h2.set 2 (.int .i64 (-1)) (op' := op) (sv' := .slice none 0 0) (al' := []) (cut' := -1) (bytes' := 0) (noise' := 0) rfl (World.ownsRow_nil _ _ _ _)
  have h4 := h3.set 3 (.int .i64 0) (op' := op) (sv' := .slice none 0 0) (al' := []) (cut' := -1) (bytes' := 0) (noise' := 0) rfl (World.ownsRow_nil _ _ _ _)
  exact h4.set 4 (.int .i64 0) (op' := op) (sv' := .slice none 0 0) (al' := []) (cut' := -1) (bytes' := 0) (noise' := 0) rfl (World.ownsRow_nil _ _ _ _)

/-- An append to the arguments' row. -/
theorem CmdAt.app {w w' w3 : World} {b C : Nat} {ws : List ByteArray} {op cut bytes noise : Int} {sv v' : Value} {al : List Int} (h : CmdAt w b C ws op sv al cut bytes noise w') (o : Obj) (hg : (w'.alloc o).grownBy w3 sv.ownBlock) :
    (w3.cell? ⟨C, 1, none⟩ = some sv ∧ w3.frozen? ⟨C, 1, none⟩ = false) ∧
    ∀ (n : Int), w3.ownsRow w.heap.size 3 1 v' (al.length + 1) (intsV al ++ [.int .i64 n]) → CmdAt w b C ws op v' (al ++ [n]) cut bytes noise (w3.setCell ⟨C, 1, none⟩ v') := by
  have hsz := h.grown.size
  have hown : ∀ k, sv.ownBlock = some k → w.heap.size ≤ k := fun k hk => (h.row.lt k hk).1
  have hCne : some C ≠ sv.ownBlock := fun e => by
    rcases h.row.2 with ⟨rfl, _⟩ | ⟨g, cap, cur, rfl, h2, h3, h4⟩
    · cases e
    · injection e with e
      rw [show g = C from e.symm, h.blk] at h3
      injection h3 with h3
      injection h3 with _ h3 _
      exact absurd h3 (by decide)
  have hRne : some w.heap.size ≠ sv.ownBlock := fun e => by
    rcases h.row.2 with ⟨rfl, _⟩ | ⟨g, cap, cur, rfl, h2, h3, h4⟩
    · cases e
    · injection e with e
      rw [show g = w.heap.size from e.symm, h.res] at h3
      injection h3 with h3
      injection h3 with _ h3 _
      exact absurd h3 (by decide)
  have hb3 : Below w.heap.size w' w3 := ((Below.refl w.heap.size w').alloc hsz o).grown hg (by simp; omega) hown
  have hblk : w3.heap[C]? = some (.cells (cmArr op sv cut bytes noise) 31 (0, 0)) := (hg.block C (by simp; have := blk_lt h.blk; omega) hCne).trans ((Below.heap_alloc _ _ _ (blk_lt h.blk)).trans h.blk)
  have hres : w3.heap[w.heap.size]? = some (.cells zeroCm 31 (0, 0)) := (hg.block _ (by simp; have := blk_lt h.res; omega) hRne).trans ((Below.heap_alloc _ _ _ (blk_lt h.res)).trans h.res)
  refine ⟨⟨cells_of_blk hblk 1, thaw_of_blk hblk 1⟩, fun n hr => ?_⟩
  have hr' : w3.ownsRow w.heap.size 3 1 v' (al ++ [n]).length (intsV (al ++ [n])) := by
    have e1 : (al ++ [n]).length = al.length + 1 := by simp
    have e2 : intsV (al ++ [n]) = intsV al ++ [.int .i64 n] := by simp [intsV]
    rw [e1, e2]; exact hr
  have hC := h.base
  have hb4 : Below w.heap.size w3 (w3.setCell ⟨C, 1, none⟩ v') := (Below.refl _ _).setCell (p := ⟨C, 1, none⟩) (by show w.heap.size ≤ C; omega) v'
  refine ⟨(h.line.far hb3).far hb4, grown_far (grown_far h.grown hb3) hb4, h.base, ?_, ?_, ?_⟩
  · rw [heap_setCell_same w3 C 1 _ _ v' hblk]; rfl
  · rw [heap_setCell_other w3 ⟨C, 1, none⟩ w.heap.size v' (by show w.heap.size ≠ C; omega)]; exact hres
  · refine ⟨hr'.1, ?_⟩
    rcases hr'.2 with hn | ⟨g, cap, cur, h1, h2, h3, h4⟩
    · exact .inl hn
    · refine .inr ⟨g, cap, cur, h1, h2, ?_, h4⟩
      have hne : g ≠ C := fun e => by
        rw [e, hblk] at h3
        injection h3 with h3
        injection h3 with _ h3 _
        exact absurd h3 (by decide)
      rw [heap_setCell_other w3 ⟨C, 1, none⟩ g v' hne]
      exact h3

theorem intInfo : (Tryd.prog.info? 3).map (fun i => (i.zero, i.size, i.bytes)) = some (some (.int .i64 0), 1, 8) := by kernel_rfl

theorem CmdAt.setLine {w w' : World} {b C g o' c' : Nat} {x : ByteArray} {r : List ByteArray} {op cut bytes noise : Int} {sv : Value} {al : List Int} (h : CmdAt w b C (x :: r) op sv al cut bytes noise w') (hbK : b < w.heap.size)
    (hl : LineAt (w'.setCell ⟨b, 0, none⟩ (.slice (some ⟨g, o', none⟩) r.length c')) b w.heap.size r) : CmdAt w b C r op sv al cut bytes noise (w'.setCell ⟨b, 0, none⟩ (.slice (some ⟨g, o', none⟩) r.length c')) :=
  h.later hbK (grown_set (Below.refl _ _) _ (Below.refl _ _)) hl

theorem own_slice {w : World} {B n k : Nat} {e : TypeId} {v : Value} {xs : List Value} (h : w.ownsRow B e k v n xs) : ∃ A m c, v = .slice A m c := by
  rcases h.2 with ⟨rfl, _⟩ | ⟨g, cap, cur, rfl, _⟩
  · exact ⟨_, _, _, rfl⟩
  · exact ⟨_, _, _, rfl⟩

theorem max_arity (w : List UInt8) : max (ScrM.arity (ScrM.opOf w : Int)) 0 = (ScrM.arityOf w : Int) := by
  have h := ScrM.arityOf_eq w
  split at h <;> omega

/-- How the flag stands when k numbers are read. -/
def okN (x : ByteArray) (r : List ByteArray) (k : Nat) : Bool := decide (0 < ScrM.opOf (bl x)) && (ScrM.nums k (r.map bl)).isSome

theorem okN_succ (x : ByteArray) (r : List ByteArray) (k : Nat) : okN x r (k + 1) = (okN x r k && (ScrM.hd 65535 ((r.drop k).map bl)).isSome) := by
  unfold okN
  rw [ScrM.nums_snoc, List.map_drop]
  cases ScrM.nums k (r.map bl) <;> cases ScrM.hd 65535 (List.drop k (r.map bl)) <;> simp

theorem nums_step {r : List ByteArray} {k : Nat} {al : List Int} {v : Int} {hn : Option Nat} (hals : ∀ l, ScrM.nums k (r.map bl) = some l → al = l) (hhn : ScrM.hd 65535 ((r.drop k).map bl) = hn) (hv : ∀ u, hn = some u → v = (u : Int)) :
    ∀ l, ScrM.nums (k + 1) (r.map bl) = some l → al ++ [v] = l := by
  intro l hl
  rw [ScrM.nums_snoc, ← List.map_drop, hhn] at hl
  cases h1 : ScrM.nums k (r.map bl) with
  | none => rw [h1] at hl; simp at hl
  | some l0 =>
    rw [h1] at hl
    cases hn with
    | none => simp at hl
    | some u =>
      simp only [Option.some.injEq] at hl
      rw [hals l0 h1, hv u rfl, hl]

def cutB : ByteArray := ⟨#[99, 117, 116]⟩
def noiseB : ByteArray := ⟨#[110, 111, 105, 115, 101]⟩

theorem head_cons {ws : List ByteArray} {y : ByteArray} (h : ws.head? = some y) : ∃ t, ws = y :: t := by
  cases ws with
  | nil => cases h
  | cons z t => injection h with h; exact ⟨t, by rw [h]⟩

theorem bl_inj {a b : ByteArray} (h : bl a = bl b) : a = b := by
  obtain ⟨⟨a⟩⟩ := a
  obtain ⟨⟨b⟩⟩ := b
  have : a = b := h
  rw [this]

theorem head_map {ws : List ByteArray} {y : ByteArray} (h : ws.head? ≠ some y) : (ws.map bl).head? ≠ some (bl y) := by
  cases ws with
  | nil => simp
  | cons z t =>
    intro e
    injection e with e
    exact h (by rw [bl_inj e]; rfl)

/-- Behind the cut: the flag okc, the words rest that are left. -/
def StageC (x : ByteArray) (r : List ByteArray) (okc : Bool) (al : List Int) (cut bytes : Int) (rest : List ByteArray) : Prop :=
  (okc = true → ScrM.opOf (bl x) ≠ 0 ∧ ScrM.nums (ScrM.arityOf (bl x)) (r.map bl) = some al ∧ ScrM.cutOf ((r.map bl).drop (ScrM.arityOf (bl x))) = some (cut, bytes, rest.map bl)) ∧ (okc = false → ScrM.command ((x :: r).map bl) = none)

theorem okN_true {x : ByteArray} {r : List ByteArray} {k : Nat} (h : okN x r k = true) : ScrM.opOf (bl x) ≠ 0 ∧ (ScrM.nums k (r.map bl)).isSome = true := by
  unfold okN at h
  simp only [Bool.and_eq_true, decide_eq_true_eq] at h
  exact ⟨by omega, h.2⟩

theorem okN_false {x : ByteArray} {r : List ByteArray} (h : okN x r (ScrM.arityOf (bl x)) = false) : ScrM.command ((x :: r).map bl) = none := by
  rw [List.map_cons, ScrM.command_eq]
  by_cases h0 : ScrM.opOf (bl x) = 0
  · rw [if_pos h0]
  · rw [if_neg h0]
    unfold okN at h
    cases hn : ScrM.nums (ScrM.arityOf (bl x)) (r.map bl) with
    | none => rfl
    | some l => rw [hn] at h; simp at h; omega

theorem stage_no {x : ByteArray} {r : List ByteArray} {al : List Int} (hals : ∀ l, ScrM.nums (ScrM.arityOf (bl x)) (r.map bl) = some l → al = l) (hh : (r.drop (ScrM.arityOf (bl x))).head? ≠ some cutB) :
    StageC x r (okN x r (ScrM.arityOf (bl x))) al (-1) 0 (r.drop (ScrM.arityOf (bl x))) := by
  refine ⟨fun h => ?_, okN_false⟩
  obtain ⟨h1, h2⟩ := okN_true h
  obtain ⟨l, hl⟩ := Option.isSome_iff_exists.1 h2
  refine ⟨h1, by rw [hl, hals l hl], ?_⟩
  rw [← List.map_drop]
  exact ScrM.cutOf_no (head_map hh)

theorem cutOf_map (t : List ByteArray) : ScrM.cutOf ((cutB :: t).map bl) = match ScrM.hd 65535 (t.map bl), ScrM.hd 256 (t.tail.map bl) with
    | some n, some m => some ((n : Int), (m : Int), t.tail.tail.map bl)
    | _, _ => none := by
  rw [List.map_cons]
  show ScrM.cutOf (ScrM.wCut :: _) = _
  rw [ScrM.cutOf_yes, ← List.map_tail, ← List.map_tail]
  cases ScrM.hd 65535 (t.map bl) <;> cases ScrM.hd 256 (t.tail.map bl) <;> rfl

theorem stage_yes {x : ByteArray} {r t : List ByteArray} {al : List Int} {ha hb : Option Nat} {v1 v2 : Int} (hals : ∀ l, ScrM.nums (ScrM.arityOf (bl x)) (r.map bl) = some l → al = l) (ht : r.drop (ScrM.arityOf (bl x)) = cutB :: t)
    (h1 : ScrM.hd 65535 (t.map bl) = ha) (h2 : ScrM.hd 256 (t.tail.map bl) = hb) (e1 : ∀ v, ha = some v → v1 = (v : Int)) (e2 : ∀ v, hb = some v → v2 = (v : Int)) :
    StageC x r (okN x r (ScrM.arityOf (bl x)) && ha.isSome && hb.isSome) al v1 v2 t.tail.tail := by
  have hcut := cutOf_map t
  rw [← ht, List.map_drop, h1, h2] at hcut
  refine ⟨fun h => ?_, fun h => ?_⟩
  · simp only [Bool.and_eq_true] at h
    obtain ⟨⟨h3, h4⟩, h5⟩ := h
    obtain ⟨h6, h7⟩ := okN_true h3
    obtain ⟨l, hl⟩ := Option.isSome_iff_exists.1 h7
    obtain ⟨a, rfl⟩ := Option.isSome_iff_exists.1 h4
    obtain ⟨b, rfl⟩ := Option.isSome_iff_exists.1 h5
    exact ⟨h6, by rw [hl, hals l hl], by rw [hcut, e1 a rfl, e2 b rfl]⟩
  · by_cases h3 : okN x r (ScrM.arityOf (bl x)) = false
    · exact okN_false h3
    · rw [Bool.not_eq_false] at h3
      rw [h3] at h
      rw [List.map_cons, ScrM.command_eq, if_neg (okN_true h3).1, hcut]
      cases ha with
      | none => cases ScrM.nums (ScrM.arityOf (bl x)) (r.map bl) <;> rfl
      | some a =>
        cases hb with
        | none => cases ScrM.nums (ScrM.arityOf (bl x)) (r.map bl) <;> rfl
        | some b => simp at h

theorem fin_no {x : ByteArray} {r rest : List ByteArray} {okc : Bool} {al : List Int} {cut bytes : Int} (h : StageC x r okc al cut bytes rest) (hh : rest.head? ≠ some noiseB) :
    (ScrM.command ((x :: r).map bl)).isSome = (okc && (rest.length : Int) == 0) ∧ ∀ cm, ScrM.command ((x :: r).map bl) = some cm → cm = ⟨(ScrM.opOf (bl x) : Int), al, cut, bytes, 0⟩ := by
  cases okc with
  | false => rw [h.2 rfl]; exact ⟨rfl, fun cm h => nomatch h⟩
  | true =>
    obtain ⟨h1, h2, h3⟩ := h.1 rfl
    rw [List.map_cons, ScrM.command_eq, if_neg h1, h2, h3]
    simp only [ScrM.noiseOf_no (head_map hh)]
    cases rest with
    | nil => exact ⟨rfl, fun cm h => by injection h with h; exact h.symm⟩
    | cons y t =>
      refine ⟨?_, fun cm h => by simp at h⟩
      simp
      omega

theorem fin_yes {x : ByteArray} {r : List ByteArray} {okc : Bool} {al : List Int} {cut bytes v : Int} {u : List ByteArray} (h : StageC x r okc al cut bytes (noiseB :: u)) (hv : ∀ n, ScrM.hd 65535 (u.map bl) = some n → v = (n : Int)) :
    (ScrM.command ((x :: r).map bl)).isSome = ((okc && (ScrM.hd 65535 (u.map bl)).isSome && decide (0 < v)) && (u.tail.length : Int) == 0) ∧ ∀ cm, ScrM.command ((x :: r).map bl) = some cm → cm = ⟨(ScrM.opOf (bl x) : Int), al, cut, bytes, v⟩ := by
  cases okc with
  | false => rw [h.2 rfl]; exact ⟨rfl, fun cm h => nomatch h⟩
  | true =>
    obtain ⟨h1, h2, h3⟩ := h.1 rfl
    have e : (noiseB :: u).map bl = ScrM.wNoise :: u.map bl := rfl
    rw [List.map_cons, ScrM.command_eq, if_neg h1, h2, h3, e]
    simp only [ScrM.noiseOf_yes]
    cases hd : ScrM.hd 65535 (u.map bl) with
    | none => exact ⟨rfl, fun cm h => by simp at h⟩
    | some n =>
      have hn := hv n hd
      subst hn
      have ht : (u.map bl).tail = [] ↔ (u.tail.length : Int) = 0 := by
        rw [← List.map_tail, List.map_eq_nil_iff, ← List.length_eq_zero_iff]
        omega
      by_cases h4 : 1 ≤ n ∧ (u.map bl).tail = []
      · simp only [if_pos h4]
        refine ⟨?_, fun cm h => by injection h with h; exact h.symm⟩
        have := ht.1 h4.2
        rw [this]
        simp
        omega
      · simp only [if_neg h4]
        refine ⟨?_, fun cm h => by simp at h⟩
        symm
        simp only [Option.isSome_none, Option.isSome_some, Bool.and_true, Bool.true_and, Bool.and_eq_false_iff, decide_eq_false_iff_not, beq_eq_false_iff_ne]
        by_cases h6 : (0 : Int) < (n : Int)
        · exact .inr fun h7 => h4 ⟨by omega, ht.2 h7⟩
        · exact .inl h6

/-- The command's value is handed back: its row stays. -/
theorem CmdAt.fin {w w' : World} {b C : Nat} {ws : List ByteArray} {op cut bytes noise : Int} {sv : Value} {al : List Int} (h : CmdAt w b C ws op sv al cut bytes noise w') (v0 v1 v2 v3 v4 : Value) :
    w.grownBy (((((w'.setCell ⟨w.heap.size, 0, none⟩ v0).setCell ⟨w.heap.size, 1, none⟩ v1).setCell ⟨w.heap.size, 2, none⟩ v2).setCell ⟨w.heap.size, 3, none⟩ v3).setCell ⟨w.heap.size, 4, none⟩ v4) (some b) ∧
    (((((w'.setCell ⟨w.heap.size, 0, none⟩ v0).setCell ⟨w.heap.size, 1, none⟩ v1).setCell ⟨w.heap.size, 2, none⟩ v2).setCell ⟨w.heap.size, 3, none⟩ v3).setCell ⟨w.heap.size, 4, none⟩ v4).ownsRow w.heap.size 3 1 sv al.length (intsV al) := by
  have hr : ∀ (k : Nat), sv.ownBlock = some k → k ≠ w.heap.size := fun k hk e => by
    subst e
    rcases h.row.2 with ⟨rfl, _⟩ | ⟨g, cap, cur, rfl, h2, h3, h4⟩
    · cases hk
    · injection hk with hk
      have hk' : g = w.heap.size := hk
      rw [hk', h.res] at h3
      injection h3 with h3
      injection h3 with _ h3 _
      exact absurd h3 (by decide)
  have step : ∀ (W : World) (j : Nat) (v : Value), w.grownBy W (some b) ∧ W.ownsRow w.heap.size 3 1 sv al.length (intsV al) → w.grownBy (W.setCell ⟨w.heap.size, j, none⟩ v) (some b) ∧ (W.setCell ⟨w.heap.size, j, none⟩ v).ownsRow w.heap.size 3 1 sv al.length (intsV al) := fun W j v ⟨hg, ho⟩ => by
    refine ⟨grown_far hg ((Below.refl _ _).setCell (p := ⟨w.heap.size, j, none⟩) (Nat.le_refl _) v), ho.1, ?_⟩
    rcases ho.2 with hn | ⟨g, cap, cur, h1, h2, h3, h4⟩
    · exact .inl hn
    · refine .inr ⟨g, cap, cur, h1, h2, ?_, h4⟩
      rw [heap_setCell_other W ⟨w.heap.size, j, none⟩ g v (hr g (by rw [h1]; rfl))]
      exact h3
  exact step _ 4 v4 (step _ 3 v3 (step _ 2 v2 (step _ 1 v1 (step _ 0 v0 ⟨h.grown, h.row⟩))))

/-- What line.command answers. -/
def CmdPost (b : Nat) (ws : List ByteArray) (w : World) (e : Ending) (w' : World) : Prop :=
  ∃ (op cut bytes noise : Int) (A : Option Addr) (m c : Nat), e = .returned (.tuple #[.agg (cmArr op (.slice A m c) cut bytes noise), .bool (ScrM.command (ws.map bl)).isSome]) ∧
    (∀ cm, ScrM.command (ws.map bl) = some cm → op = cm.op ∧ cut = cm.cut ∧ bytes = cm.bytes ∧ noise = cm.noise ∧ w'.ownsRow w.heap.size 3 1 (.slice A m c) cm.args.length (intsV cm.args)) ∧ w.grownBy w' (some b)

end Go.Proofs.YtnanhebepjdlcabDoor
