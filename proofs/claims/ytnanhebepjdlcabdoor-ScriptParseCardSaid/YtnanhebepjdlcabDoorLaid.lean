/- What a row's list of variables gives the walks; a world that meets it. -/
import Derived.Test.YtnanhebepjdlcabDoorWalkA
import Derived.Test.YtnanhebepjdlcabDoorCards
import Derived.Test.YtnanhebepjdlcabDoorTie
import Derived.ProofKit
import Derived.LaidMore
import Derived.OpenShut
import Derived.Stop.Joined
import Derived.Stop.LaidErr
import Derived.Lib.LaidTab
import Derived.Shelf.Vars
import Derived.Handed
namespace Go.Proofs.YtnanhebepjdlcabDoor
open Go.ChangeShapes Go.WideShapes Go.ChangeAt Go.RowKit

theorem own : ownKnob Tryd.prog.godebug = none := by kernel_rfl
theorem gTabType : (Tryd.prog.globals[2]?).map (·.type) = some 109 := by kernel_rfl
theorem gRngType : (Tryd.prog.globals[6]?).map (·.type) = some 68 := by kernel_rfl
theorem gSynType : (Tryd.prog.globals[5]?).map (·.type) = some 68 := by kernel_rfl
theorem gOps : Tryd.prog.globalNamed "bootchain/script.operations" = some 0 := by kernel_rfl
theorem gLast : Tryd.prog.globalNamed "math/bits.deBruijn64tab" = some 8 := by kernel_rfl
theorem gOpsType : (Tryd.prog.globals[0]?).map (·.type) = some 60 := by kernel_rfl
theorem cellsTab : Tryd.prog.cellsOf 109 = 20 := by kernel_rfl
theorem cellsU64 : Tryd.prog.cellsOf 95 = 1 := by kernel_rfl
theorem cellsEs : Tryd.prog.cellsOf 130 = 1 := by kernel_rfl
theorem cellsStr : Tryd.prog.cellsOf 9 = 1 := by kernel_rfl
theorem cellsInt : Tryd.prog.cellsOf 3 = 1 := by kernel_rfl
theorem cellsOp : Tryd.prog.cellsOf 59 = 2 := by kernel_rfl
theorem cellsOps : Tryd.prog.cellsOf 60 = 42 := by kernel_rfl
theorem starEs : "*" ++ "errors.errorString" = "*errors.errorString" := by decide
theorem rowEs (u : TypeId) (h : Tryd.prog.typeName? 3 u = some "*errors.errorString") : u = 128 :=
  typeName_ptr_named (nm := "errors.errorString") (by rw [starEs]; kernel_rfl) (by kernel_rfl) (by decide) u (by rw [starEs]; exact h)

/-- The list that every row of this seat bears. -/
def laid7 : List (String × DataW Unit) := Rows.scriptLinesRow.laid

theorem tab_eq : (Rows.laid_internal_strconv_uint64pow10 : DataW Unit) = Lib.tabData .u64 Lib.pow10Tab := by kernel_rfl

/-- The operations' datum. -/
def opsData : List (DataW Unit) := (List.range 21).map fun i => .agg [.lit (.string (ScrM.nameOf i)), .lit (.int .i64 (ScrM.arityN i : Int))]
theorem ops_eq : (Rows.laid_bootchain_script_operations : DataW Unit) = .agg opsData := by kernel_rfl

theorem bl_inj0 {a : ByteArray} {l : List UInt8} (h : a.data.toList = l) : a = strOf l := by
  obtain ⟨⟨a⟩⟩ := a
  have : a = l := h
  rw [this]
  rfl

theorem ops_of_trod {w : World} {fuel : Nat} {cs : List Value} {p : List MemPlace} (h : DataW.trod (fun _ => ()) Tryd.prog w 0 (fun _ => true) false fuel 60 cs = some (.agg opsData, p)) (i : Nat) (hi : i < 21) :
    cs[i * 2]? = some (.string (strOf (ScrM.nameOf i))) ∧ cs[i * 2 + 1]? = some (.int .i64 (ScrM.arityN i : Int)) := by
  obtain ⟨xs, m, rfl, hx, hl, hxl, hel⟩ := DataW.trod_array Tryd.underlying60 h
  have hE : opsData = xs.map (·.1) := by
    have := congrArg Prod.fst hx
    simpa using this
  have h1 := hel i hi
  rw [cellsOp] at h1
  obtain ⟨b, hb⟩ : ∃ b, xs[i]? = some b := ⟨xs[i]'(by omega), List.getElem?_eq_getElem (by omega)⟩
  rw [hb] at h1
  have hb1 : b.1 = .agg [.lit (.string (ScrM.nameOf i)), .lit (.int .i64 (ScrM.arityN i : Int))] := by
    have h2 : opsData[i]? = some b.1 := by rw [hE]; simp [hb]
    have h3 : opsData[i]? = some (.agg [.lit (.string (ScrM.nameOf i)), .lit (.int .i64 (ScrM.arityN i : Int))]) := by simp [opsData, hi]
    exact Option.some.inj (h2.symm.trans h3)
  obtain ⟨ys, n, _, hy, hyl, hyn, hf⟩ := DataW.trod_struct Tryd.underlying59 h1
  have hyE : ys.map (·.1) = [.lit (.string (ScrM.nameOf i)), .lit (.int .i64 (ScrM.arityN i : Int))] := by
    rw [hy] at hb1
    exact DataW.agg.inj hb1
  match ys, hyE with
  | [y0, y1], hyE =>
    simp only [List.map_cons, List.map_nil, List.cons.injEq, and_true] at hyE
    obtain ⟨e0, e1⟩ := hyE
    have f0 : DataW.trod (fun _ => ()) Tryd.prog w 0 (fun _ => true) false n 9 (((((cs.drop (i * 2)).take 2).drop 0)).take (Tryd.prog.cellsOf 9)) = some y0 := hf 0 _ rfl
    have f1 : DataW.trod (fun _ => ()) Tryd.prog w 0 (fun _ => true) false n 3 (((((cs.drop (i * 2)).take 2).drop 1)).take (Tryd.prog.cellsOf 3)) = some y1 := hf 1 _ rfl
    rw [cellsStr] at f0
    rw [cellsInt] at f1
    obtain ⟨s, hs, hsx, _⟩ := DataW.trod_string Tryd.underlying9 f0
    obtain ⟨z, hz, hzx, _⟩ := DataW.trod_int Tryd.underlying3 f1
    have c0 : cs[i * 2]? = some (.string s) := by
      have := congrArg (·[0]?) hs
      simpa [List.getElem?_take, List.getElem?_drop] using this
    have c1 : cs[i * 2 + 1]? = some (.int .i64 z) := by
      have := congrArg (·[0]?) hz
      simpa [List.getElem?_take, List.getElem?_drop] using this
    rw [hsx] at e0
    rw [hzx] at e1
    have d0 : s.data.toList = ScrM.nameOf i := by
      have := DataW.lit.inj e0
      injection this
    have d1 : z = (ScrM.arityN i : Int) := by
      have := DataW.lit.inj e1
      injection this
    rw [c0, c1, d1]
    refine ⟨?_, rfl⟩
    rw [show s = strOf (ScrM.nameOf i) from bl_inj0 d0]

theorem max_of_shape {W : World} (h : W.ShapedOpen Tryd.prog) : ∃ m, W.cell? ⟨1, 0, none⟩ = some (.int .i64 m) :=
  cell_of_shapedOpen_int (g := 1) (t := 3) (zero := #[.int .i64 0]) h (by decide) (by kernel_rfl) rfl (by kernel_rfl) (by kernel_rfl) Tryd.underlying3

/-- WHAT THE LIST GIVES. -/
theorem wok_of_laid {W : World} (h : laidMetH Tryd.prog laid7 W) (hs : W.ShapedOpen Tryd.prog) : WOk W := by
  rw [MakeChecks.laidMetH_plain _ _ _ (by kernel_rfl)] at h
  have h2 := h.tail.tail
  have h4 := h2.tail.tail
  have h5 := h4.tail
  have h6 := h5.tail
  have ht : Lib.TabIs Tryd.prog W "internal/strconv.uint64pow10" .u64 Lib.pow10Tab :=
    Lib.tabIs_of_head (rest := [("unicode/utf8.acceptRanges", Rows.laid_unicode_utf8_acceptRanges), ("strconv.ErrRange", Rows.laid_strconv_ErrRange), ("strconv.ErrSyntax", Rows.laid_strconv_ErrSyntax), ("bootchain/script.operations", Rows.laid_bootchain_script_operations), ("unicode/utf8.first", Rows.laid_unicode_utf8_first)])
      gTab gTabType Tryd.underlying109 Tryd.underlying95 cellsU64 cellsTab (by rw [← tab_eq]; exact h2)
  obtain ⟨a, s, hv, -, -, -⟩ := laid_sentinel h4 gRng gRngType Tryd.underlying68 rowEs Tryd.underlying128 Tryd.underlying130 rfl rfl Tryd.underlying9 cellsEs cellsStr
  obtain ⟨a', s', hv', -, -, -⟩ := laid_sentinel h5 gSyn gSynType Tryd.underlying68 rowEs Tryd.underlying128 Tryd.underlying130 rfl rfl Tryd.underlying9 cellsEs cellsStr
  refine ⟨ht, ⟨_, _, hv⟩, ⟨_, _, hv'⟩, ?_, max_of_shape hs, ?_⟩
  · intro i hi
    obtain ⟨ps, ⟨g', t', cs, fuel, p, q, hg', ht', hvar, hd, _, _⟩, _⟩ := h6
    obtain rfl := Option.some.inj (gOps.symm.trans hg')
    obtain rfl := Option.some.inj (gOpsType.symm.trans ht')
    rw [ops_eq] at hd
    obtain ⟨c0, c1⟩ := ops_of_trod hd i hi
    have k0 := World.var?_cell gOps hvar (i * 2)
    have k1 := World.var?_cell gOps hvar (i * 2 + 1)
    rw [List.getElem?_toArray] at k0 k1
    exact ⟨k0.trans c0, k1.trans c1⟩
  · obtain ⟨ps, ⟨g0, t0, cs0, f0, p0, q0, hg0, ht0, hv0, _⟩, _⟩ := h.tail
    obtain rfl := Option.some.inj (gLast.symm.trans hg0)
    unfold World.var? at hv0
    rw [gLast] at hv0
    have hlt : 8 < W.heap.size := by
      rcases Nat.lt_or_ge 8 W.heap.size with hl | hl
      · exact hl
      · simp [Array.getElem?_eq_none hl] at hv0
    omega

/-- A start for the witness: the heap that the door's own run leaves, the pinned table laid in its block. -/
noncomputable def laidWorld (os : Os) : World :=
  { World.doorLaid Tryd.prog 400 os with heap := (World.doorLaid Tryd.prog 400 os).heap.modify 3 fun
      | .cells _ t frozen => .cells (Pinned.utf8FirstZ.map fun (n : Nat) => Value.int .u8 (Int.ofNat n)).toArray t frozen
      | o => o }

theorem laidWorld_met (os : Os) (args : Array Value) : laidMetH Tryd.prog laid7 ((laidWorld os).forCall (fun _ _ => 0) ⟨#[], args, []⟩).memory :=
  laidMetH_of_parts3 (fuel := 8) (laidMet_of_run' 8 (by kernel_rfl) (by kernel_rfl)) (by kernel_rfl) (by kernel_rfl)

end Go.Proofs.YtnanhebepjdlcabDoor
