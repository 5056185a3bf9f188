/-
  line.Print.
-/
import Derived.Test.YtigfkfjlfpndfaaGreatDoorCheck
namespace Go.Proofs.YtigfkfjlfpndfaaGreatDoor
open Go.RowKit Sp

set_option maxHeartbeats 4000000 in
set_option maxRecDepth 100000 in
/-- line.Print -/
theorem Print_any (c : Cmd) (h : CmdR c) (hw : CmdW c) (hd : ∀ d, cmdOf (lineOf c) = .ok d → CmdW d) (w : World) (hv : Vars w) :
    Calls Tryz.prog 31 #[.agg (ccell c)] w fun e w' => e = .returned (.tuple #[.string (if okCmd c then lineOf c else ⟨#[]⟩), .int .i64 (if okCmd c then 0 else 2)]) ∧ Ext w w' := by
  have hwrite := fun w' h' => write_any c h w' h'
  have hcheck := fun w' h' => Check_any c h hw hd w' h'
  clear hd
  generalize lineOf c = L at *
  have hb : Blk (w.alloc (.cells (ccell c) 27)) w.heap.size (ccell c) 27 := Blk.new w _ 27
  have HX := Lib.hid (Ext.alloc (Below.refl _ w) (.cells (ccell c) 27))
  have HV := Lib.hid hv; clear hv
  cases hok : okCmd c with
  | true =>
    have HOK := Lib.hid hok; clear hok
    go_enter Tryz.func31, Tryz.ntmps31
    go_wp2_with (first
      | ((with_reducible show wpList _ _ _ (⟨some 5, .load 27 (.tmp 1), _, _, _, none⟩ :: _) _ _); refine wpList_load_blk rfl 27 _ rfl w.heap.size 0 rfl (ccell c).toList _ hb (fun j hj => by simp) Tryz.underlying27 rfl (by rw [Array.length_toList]; exact i27k _) ?_; simp only [Array.toArray_toList])
      | ((with_reducible show wpList _ _ _ (⟨some 10, .load 27 (.tmp 1), _, _, _, none⟩ :: _) _ _); refine wpList_load_blk rfl 27 _ rfl w.heap.size 0 rfl (ccell c).toList _ hb1 (fun j hj => by simp) Tryz.underlying27 rfl (by rw [Array.length_toList]; exact i27k _) ?_; simp only [Array.toArray_toList])
      | ((with_reducible show Calls _ 33 _ _ _); refine (hcheck _ (HV.out.ext HX.out)).mono ?_; rintro e1 w1 ⟨rfl, hx1⟩; rw [HOK.out]; simp only [if_true]; have hb1 := hb.below hx1 hb.lt)
      | ((with_reducible show Calls _ 60 _ _ _); refine (hwrite _ (HV.out.ext (HX.out.go hx1))).mono ?_; rintro e2 w2 ⟨rfl, hx2⟩))
    go_ret2
    exact ⟨rfl, (HX.out.go hx1).go hx2⟩
  | false =>
    have HOK := Lib.hid hok; clear hok
    go_enter Tryz.func31, Tryz.ntmps31
    go_wp2_with (first
      | ((with_reducible show wpList _ _ _ (⟨some 5, .load 27 (.tmp 1), _, _, _, none⟩ :: _) _ _); refine wpList_load_blk rfl 27 _ rfl w.heap.size 0 rfl (ccell c).toList _ hb (fun j hj => by simp) Tryz.underlying27 rfl (by rw [Array.length_toList]; exact i27k _) ?_; simp only [Array.toArray_toList])
      | ((with_reducible show Calls _ 33 _ _ _); refine (hcheck _ (HV.out.ext HX.out)).mono ?_; rintro e1 w1 ⟨rfl, hx1⟩; rw [HOK.out]; simp only [if_false, Bool.false_eq_true]))
    go_ret2
    exact ⟨rfl, HX.out.go hx1⟩

end Go.Proofs.YtigfkfjlfpndfaaGreatDoor
