/- Parse: its rows of commands; the closure; bounds. -/
import Derived.Test.YtnanhebepjdlcabDoorWalkH
import Derived.Test.YtnanhebepjdlcabDoorWords
namespace ScrM

theorem wordsA_len : ∀ (l cur : List UInt8), (wordsA cur l).length ≤ cur.length + l.length
  | [], cur => by
    rw [wordsA]
    split
    · simp
    · rename_i h
      cases cur with
      | nil => simp at h
      | cons a t => simp
  | c :: l, cur => by
    rw [wordsA]
    split
    · split
      · have := wordsA_len l []; simp at this ⊢; omega
      · rename_i h
        have := wordsA_len l []
        cases cur with
        | nil => simp at h
        | cons a t => simp at this ⊢; omega
    · have := wordsA_len l (cur ++ [c]); simp at this ⊢; omega

theorem wordsA_mem : ∀ (l cur : List UInt8), ∀ x ∈ wordsA cur l, x.length ≤ cur.length + l.length
  | [], cur, x, hx => by
    rw [wordsA] at hx
    split at hx
    · simp at hx
    · simp at hx; subst hx; simp
  | c :: l, cur, x, hx => by
    rw [wordsA] at hx
    split at hx
    · split at hx
      · have := wordsA_mem l [] x hx; simp at this ⊢; omega
      · rcases List.mem_cons.1 hx with rfl | hx
        · simp
        · have := wordsA_mem l [] x hx; simp at this ⊢; omega
    · have := wordsA_mem l (cur ++ [c]) x hx; simp at this ⊢; omega

theorem lines_len : ∀ l : List UInt8, (lines l).length ≤ l.length + 1
  | [] => by simp [lines]
  | c :: l => by
    have ih := lines_len l
    rw [lines]
    split
    · simp; omega
    · split
      · simp
      · rename_i x r h
        rw [h] at ih
        simp at ih ⊢; omega

theorem lines_mem : ∀ l : List UInt8, ∀ x ∈ lines l, x.length ≤ l.length
  | [], x, hx => by simp [lines] at hx; subst hx; simp
  | c :: l, x, hx => by
    have ih := lines_mem l
    rw [lines] at hx
    split at hx
    · rcases List.mem_cons.1 hx with rfl | hx
      · simp
      · have := ih x hx; simp; omega
    · split at hx
      · simp at hx; subst hx; simp
      · rename_i y r h
        rw [h] at ih
        rcases List.mem_cons.1 hx with rfl | hx
        · have := ih y (by simp); simp; omega
        · have := ih x (by simp [hx]); simp; omega

theorem cmds_snoc {a : List (List UInt8)} {L : List Cm} (h : cmds a = some L) (s : List UInt8) : cmds (a ++ [s]) = if words s = [] then some L else (command (words s)).map fun c => L ++ [c] := by
  rw [cmds_append, h]
  by_cases hw : words s = []
  · have e : cmds [s] = some [] := by simp [cmds, hw]
    rw [e, if_pos hw]
    simp
  · cases hc : command (words s) with
    | none =>
      have e : cmds [s] = none := by simp [cmds, hw, hc]
      rw [e, if_neg hw]
      rfl
    | some c =>
      have e : cmds [s] = some [c] := by simp [cmds, hw, hc]
      rw [e, if_neg hw]
      rfl

theorem cmds_stop {a r : List (List UInt8)} {s : List UInt8} (hw : words s ≠ []) (h : command (words s) = none) : cmds (a ++ s :: r) = none := by
  rw [cmds_append, cmds, if_neg hw, h]
  cases cmds a <;> rfl

end ScrM
namespace Go.Proofs.YtnanhebepjdlcabDoor
open Go.RowKit

/-- A command with where its arguments lie. -/
abbrev CmA := ScrM.Cm × Option Addr × Nat

def cmRow (M : List CmA) : List Value := M.flatMap fun p => cmCells p.1 p.2.1 p.2.2

theorem cmRow_length (M : List CmA) : (cmRow M).length = M.length * 5 := by
  induction M with
  | nil => rfl
  | cons p t ih =>
    simp only [cmRow, List.flatMap_cons, List.length_append, List.length_cons] at ih ⊢
    rw [ih]
    simp [cmCells]
    omega

/-- v is a row of the commands M, each with its own row of arguments, from block B on. -/
def OwnCmds (w : World) (B : Nat) (v : Value) (M : List CmA) : Prop :=
  w.ownsRow B 31 5 v M.length (cmRow M) ∧ ∀ p ∈ M, w.ownsRow B 3 1 (.slice p.2.1 p.1.args.length p.2.2) p.1.args.length (intsV p.1.args)

theorem OwnCmds.nil (w : World) (B : Nat) : OwnCmds w B (.slice none 0 0) [] := ⟨World.ownsRow_nil _ _ _ _, fun _ hp => nomatch hp⟩

theorem own_below {w w' : World} {B k n : Nat} {e : TypeId} {v : Value} {xs : List Value} (h : w.ownsRow B e k v n xs) (hb : Below w.heap.size w w') : w'.ownsRow B e k v n xs := by
  refine h.kept (row := none) (grown_below hb _) ?_
  cases hv : v.ownBlock with
  | none => exact .inl rfl
  | some k => exact .inr (by simp)

theorem OwnCmds.below {w w' : World} {B : Nat} {v : Value} {M : List CmA} (h : OwnCmds w B v M) (hb : Below w.heap.size w w') : OwnCmds w' B v M :=
  ⟨own_below h.1 hb, fun p hp => own_below (h.2 p hp) hb⟩

theorem own_less {w : World} {B B' k n : Nat} {e : TypeId} {v : Value} {xs : List Value} (h : w.ownsRow B e k v n xs) (hB : B' ≤ B) : w.ownsRow B' e k v n xs := by
  refine ⟨h.1, ?_⟩
  rcases h.2 with hn | ⟨g, cap, cur, h1, h2, h3⟩
  · exact .inl hn
  · exact .inr ⟨g, cap, cur, h1, Nat.le_trans hB h2, h3⟩

/-- Rows of other types lie in other blocks. -/
theorem own_apart {w : World} {B B' k k' n n' : Nat} {e e' : TypeId} {v v' : Value} {xs xs' : List Value} (h : w.ownsRow B e k v n xs) (h' : w.ownsRow B' e' k' v' n' xs') (hne : e ≠ e') : v.ownBlock = none ∨ v.ownBlock ≠ v'.ownBlock := by
  rcases h.2 with ⟨rfl, _⟩ | ⟨g, cap, cur, rfl, h2, h3, _⟩
  · exact .inl rfl
  · refine .inr fun e0 => ?_
    rcases h'.2 with ⟨rfl, _⟩ | ⟨g', cap', cur', rfl, h2', h3', _⟩
    · cases e0
    · have e1 : g = g' := by injection e0
      subst e1
      rw [h3] at h3'
      injection h3' with h3'
      injection h3' with _ h3' _
      exact hne h3'

/-- An append of one command. -/
theorem OwnCmds.app {w w3 : World} {B : Nat} {v v' : Value} {M : List CmA} (h : OwnCmds w B v M) (o : Obj) (hg : (w.alloc o).grownBy w3 v.ownBlock) (p : CmA) (hp : w.ownsRow B 3 1 (.slice p.2.1 p.1.args.length p.2.2) p.1.args.length (intsV p.1.args))
    (hr : w3.ownsRow B 31 5 v' (M.length + 1) (cmRow M ++ cmCells p.1 p.2.1 p.2.2)) : OwnCmds w3 B v' (M ++ [p]) := by
  refine ⟨?_, fun q hq => ?_⟩
  · have e1 : (M ++ [p]).length = M.length + 1 := by simp
    have e2 : cmRow (M ++ [p]) = cmRow M ++ cmCells p.1 p.2.1 p.2.2 := by simp [cmRow]
    rw [e1, e2]; exact hr
  · have hq' : w.ownsRow B 3 1 (.slice q.2.1 q.1.args.length q.2.2) q.1.args.length (intsV q.1.args) := by
      rcases List.mem_append.1 hq with hq | hq
      · exact h.2 q hq
      · have : q = p := by simpa using hq
        rw [this]; exact hp
    exact (hq'.alloc o).kept hg (own_apart hq' h.1 (by decide))

set_option maxHeartbeats 1000000 in
/-- Parse's closure tells spaces and tabs. -/
theorem clo_pays (w : World) : PredGrows Tryd.prog 25 #[] ScrM.sepR w := by
  intro W x hx hb
  show Calls Tryd.prog 25 #[.int .i32 (x : Int)] W _
  have e32 : ((x : Int) == 32) = (x == 32) := by rw [Bool.eq_iff_iff]; simp; omega
  have e9 : ((x : Int) == 9) = (x == 9) := by rw [Bool.eq_iff_iff]; simp; omega
  unfold ScrM.sepR
  cases h1 : x == 32 <;> cases h2 : x == 9 <;> rw [h1] at e32 <;> rw [h2] at e9
  all_goals
    clear h1 h2
    go_enter Tryd.func25, Tryd.ntmps25
    go_wp2_with fail
    go_ret
    exact ⟨rfl, Below.refl _ _⟩

theorem fields_any (y : ByteArray) (hy : y.size ≤ 1000000) (w : World) :
    Calls Tryd.prog 24 #[.string y, .func (.func 25) #[] #[]] w fun e w' => ∃ A, e = .returned (.slice (some ⟨A, 0, none⟩) (Lib.goFieldsP ScrM.sepR y).length (Lib.goFieldsP ScrM.sepR y).length) ∧ w.heap.size ≤ A ∧
      w'.ownsRow w.heap.size 9 1 (.slice (some ⟨A, 0, none⟩) (Lib.goFieldsP ScrM.sepR y).length (Lib.goFieldsP ScrM.sepR y).length) (Lib.goFieldsP ScrM.sepR y).length ((Lib.goFieldsP ScrM.sepR y).map Value.string) ∧ Below w.heap.size w w' :=
  Tryd.strings_FieldsFunc_grows 25 #[] (enters_of Tryd.func25 (by kernel_rfl) rfl) ScrM.sepR y w (by omega) (clo_pays w)

end Go.Proofs.YtnanhebepjdlcabDoor
