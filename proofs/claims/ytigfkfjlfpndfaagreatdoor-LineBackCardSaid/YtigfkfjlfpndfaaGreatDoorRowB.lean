/-
  WHAT EVERY ROW OF THE LINE CHAPTER HANDS ITS WALK: the variables' facts ('Vars') off the row's own condition; a world that meets the condition; a command by value opened. By an AI agent.
-/
import Derived.Test.YtigfkfjlfpndfaaGreatDoorRows
import Derived.Test.YtigfkfjlfpndfaaGreatDoorBack
import Derived.Deep.DeepHandedRow
import Derived.Deep.DeepWitnessRowRef
import Derived.ProofKit
import Derived.SizedLaws
import Derived.RowKit
import Derived.RowKitTokens
import Derived.Carry
import Derived.OpenShut
import Derived.Lib.LaidU8
import Derived.Shelf.Vars
namespace Go.Proofs.YtigfkfjlfpndfaaGreatDoor
open Go.ChangeShapes Go.WideShapes Go.ChangeAt Go.RowKit
set_option maxRecDepth 100000
theorem Tryz.own : ownKnob Tryz.prog.godebug = none := by kernel_rfl
theorem Tryz.laidOut : laidOutB Tryz.prog = true := by kernel_rfl
theorem g_syn : Tryz.prog.globalNamed "strconv.ErrSyntax" = some 1 := by kernel_rfl
theorem g_rng : Tryz.prog.globalNamed "strconv.ErrRange" = some 2 := by kernel_rfl
theorem y_syn : (Tryz.prog.globals[1]?).map (·.type) = some 97 := by kernel_rfl
theorem y_rng : (Tryz.prog.globals[2]?).map (·.type) = some 97 := by kernel_rfl
theorem y_pow : (Tryz.prog.globals[3]?).map (·.type) = some 157 := by kernel_rfl
theorem gsize : Tryz.prog.globals.size = 8 := by kernel_rfl
theorem c5 : Tryz.prog.cellsOf 5 = 1 := by kernel_rfl
theorem c9 : Tryz.prog.cellsOf 9 = 1 := by kernel_rfl
theorem c3 : Tryz.prog.cellsOf 3 = 1 := by kernel_rfl
theorem c25 : Tryz.prog.cellsOf 25 = 32 := by kernel_rfl
theorem c27 : Tryz.prog.cellsOf 27 = 36 := by kernel_rfl
theorem c157 : Tryz.prog.cellsOf 157 = 20 := by kernel_rfl
theorem u97 : ∃ ms, Tryz.prog.underlying 97 = some (.interface ms) := ⟨_, Tryz.underlying97⟩
/-- the list that each of the eight rows bears -/
abbrev lay : List (String × DataW Unit) := Rows.lineBackRow.laid
theorem lay_plain {W : World} (h : laidMetH Tryz.prog lay W) : laidMet Tryz.prog lay W := by
  unfold laidMetH at h
  have e : lay.filter (fun x => x.2.handleName?.isSome) = [] := by kernel_rfl
  rw [e] at h
  exact h
theorem pow_tab : (Rows.laid_internal_strconv_uint64pow10 : DataW Unit) = Lib.tabData .u64 Lib.pow10Tab := by kernel_rfl
theorem vars_of {W : World} (hL : laidMetH Tryz.prog lay W) (hsh : W.ShapedOpen Tryz.prog) : Vars W := by
  have h := lay_plain hL
  have r3 := Lib.laidMet.reads h (n := "internal/strconv.uint64pow10") (d := Rows.laid_internal_strconv_uint64pow10) (.tail _ (.tail _ (.head _)))
  have r2 := Lib.laidMet.reads h (n := "strconv.ErrRange") (d := Rows.laid_strconv_ErrRange) (.tail _ (.tail _ (.tail _ (.tail _ (.head _)))))
  have r1 := Lib.laidMet.reads h (n := "strconv.ErrSyntax") (d := Rows.laid_strconv_ErrSyntax) (.tail _ (.tail _ (.tail _ (.tail _ (.tail _ (.head _))))))
  obtain ⟨ms, hu⟩ := u97
  refine ⟨?_, ?_, ?_, ?_, ?_⟩
  · exact cell_of_shapedOpen_int (t := 3) (zero := #[.int .i64 0]) (k := .i64) hsh (by rw [gsize]; omega) (by kernel_rfl) rfl (by kernel_rfl) (by kernel_rfl) (by kernel_rfl)
  · obtain ⟨g, t, cs, fuel, p, hg, hty, hvar, hd⟩ := r1
    obtain rfl := Option.some.inj (g_syn.symm.trans hg)
    obtain rfl := Option.some.inj (y_syn.symm.trans hty)
    obtain ⟨f1, u, v, hcs, _⟩ := iface_of_trod hu hd
    have hc := World.var?_cell hg hvar 0
    rw [← Array.getElem?_toList, hcs] at hc
    exact ⟨u, v, hc⟩
  · obtain ⟨g, t, cs, fuel, p, hg, hty, hvar, hd⟩ := r2
    obtain rfl := Option.some.inj (g_rng.symm.trans hg)
    obtain rfl := Option.some.inj (y_rng.symm.trans hty)
    obtain ⟨f1, u, v, hcs, _⟩ := iface_of_trod hu hd
    have hc := World.var?_cell hg hvar 0
    rw [← Array.getElem?_toList, hcs] at hc
    exact ⟨u, v, hc⟩
  · obtain ⟨g, t, cs, fuel, p, hg, hty, hvar, hd⟩ := r3
    obtain rfl := Option.some.inj (glob3.symm.trans hg)
    obtain rfl := Option.some.inj (y_pow.symm.trans hty)
    rw [pow_tab] at hd
    unfold Lib.TabIs
    rw [hvar, ← Lib.cells_of_tab Tryz.underlying157 (by kernel_rfl) (by kernel_rfl) c157 hd]
  · obtain ⟨ps, hv, _, _⟩ := h
    obtain ⟨g0, t0, cs0, f0, p0, q0, hg0, _, _, _, ⟨g1, t1, cs1, f1, p1, q1, hg1, _, hv1, _⟩, _⟩ := hv
    have h7 : ∃ zero, ((begin Tryz.prog (fun _ _ => 0) default).world.heap[7]?).bind Obj.row? = some zero := by
      refine Option.isSome_iff_exists.1 ?_
      kernel_rfl
    obtain ⟨⟨zero, t⟩, hz⟩ := h7
    obtain ⟨cs, hh, _, _⟩ := hsh.1 7 zero t (by rw [gsize]; omega) hz
    have := (Array.getElem?_eq_some_iff.1 hh).1
    omega
/-! ## a world that meets the condition -/
def cell1 : DataW Unit → Value
  | .lit (.int k n) => .int k n
  | _ => .bool false
def cells1 : DataW Unit → Array Value
  | .agg ds => (ds.map cell1).toArray
  | _ => #[]
def cells2 : DataW Unit → Array Value
  | .agg ds => (ds.flatMap fun d => (cells1 d).toList).toArray
  | _ => #[]
noncomputable def low : Nat := (World.holding Tryz.prog default ⟨#[], #[], []⟩).heap.size
abbrev rngS : ByteArray := { data := #[118, 97, 108, 117, 101, 32, 111, 117, 116, 32, 111, 102, 32, 114, 97, 110, 103, 101] }
abbrev synS : ByteArray := { data := #[105, 110, 118, 97, 108, 105, 100, 32, 115, 121, 110, 116, 97, 120] }
def putG (h : Array Obj) (g : Nat) (cs : Array Value) : Array Obj := h.modify g fun
  | .cells _ t frozen => .cells cs t frozen
  | o => o
noncomputable def laidWorld (os : Os) : World :=
  let w0 := World.holding Tryz.prog os ⟨#[.cells #[.string synS] 168, .cells #[.string rngS] 168], #[], []⟩
  let h1 := putG w0.heap 1 #[.iface 166 (.pointer (some ⟨low, 0, none⟩))]
  let h2 := putG h1 2 #[.iface 166 (.pointer (some ⟨low + 1, 0, none⟩))]
  let h3 := putG h2 3 (cells1 Rows.laid_internal_strconv_uint64pow10)
  let h4 := putG h3 ((Tryz.prog.globalNamed "math/bits.deBruijn32tab").getD 99) (cells1 Rows.laid_math_bits_deBruijn32tab)
  let h5 := putG h4 ((Tryz.prog.globalNamed "math/bits.deBruijn64tab").getD 99) (cells1 Rows.laid_math_bits_deBruijn64tab)
  let h6 := putG h5 ((Tryz.prog.globalNamed "unicode/utf8.first").getD 99) (cells1 Rows.laid_unicode_utf8_first)
  let h7 := putG h6 ((Tryz.prog.globalNamed "unicode/utf8.acceptRanges").getD 99) (cells2 Rows.laid_unicode_utf8_acceptRanges)
  { w0 with heap := h7 }
theorem laid_met (os : Os) (args : Array Value) : laidMet Tryz.prog lay ((laidWorld os).forCall (fun _ _ => 0) ⟨#[], args, []⟩).memory :=
  laidMet_of_run' 8 (by kernel_rfl) (by kernel_rfl)
theorem laid_metH (os : Os) (args : Array Value) : laidMetH Tryz.prog lay ((laidWorld os).forCall (fun _ _ => 0) ⟨#[], args, []⟩).memory := by
  unfold laidMetH
  have e : lay.filter (fun x => x.2.handleName?.isSome) = [] := by kernel_rfl
  rw [e]
  exact laid_met os args
end Go.Proofs.YtigfkfjlfpndfaaGreatDoor
