/-
  line.Check and line.Print.
-/
import Derived.Test.YtigfkfjlfpndfaaGreatDoorCmdEq
namespace Go.Proofs.YtigfkfjlfpndfaaGreatDoor
open Go.RowKit Sp

/-- a guarded load that is wanted -/
theorem wpList_load_want {P : Program} {ops : Array Oper} {rest : List Oper} {op : Oper} {a : Act} {w : World} {Q : Exit → Act → World → Prop} (hw : Region.wanted op (yielded ops a.tmps) = true) (ty : TypeId) (x : Operand) (ho : op.op = .load ty x) (b o : Nat) (hx : a.eval x = .pointer (some ⟨b, o, none⟩)) (cs : List Value) (d : TypeDesc)
    {C : Array Value} {t : TypeId} (hb : Blk w b C t) (hc : ∀ j, j < cs.length → C[o + j]? = cs[j]?) (hu : P.underlying ty = some d) (hd : d.isRow = true) (hi : (P.info? ty).map (·.size) = some cs.length)
    (h : wpList P ops Q rest (a.put op.dst (.agg cs.toArray)) w) : wpList P ops Q (op :: rest) a w :=
  BigFrame.wpList_want hw fun _ hK => wp_load_mid ty x ho b o hx cs d (hb.rangeIn hc) hu hd hi (hK _ _ h)

theorem takeP_err {s : ByteArray} {at_ : Nat} {R : ByteArray → Bool} {e : Int × Int} (h : takeP s at_ R = .error e) : e.1 = 340 := by
  unfold takeP at h
  split at h
  · injection h with h; rw [← h]
  · simp only at h
    split at h
    · cases h
    · injection h with h; rw [← h]
theorem takeT_err {s : ByteArray} {at_ : Nat} {e : Int × Int} (h : takeT s at_ = .error e) : e.1 = 340 ∨ e.1 = 3 := by
  unfold takeT at h
  split at h
  · injection h with h; rw [← h]; exact .inl rfl
  · simp only at h
    split at h
    · injection h with h; rw [← h]; exact .inl rfl
    · split at h
      · injection h with h; rw [← h]; exact .inr rfl
      · split at h
        · injection h with h; rw [← h]; exact .inl rfl
        · cases h
theorem restS_err {k : Nat} {s : ByteArray} {at_ : Nat} {c : Cmd} {e : Int × Int} (h : restS k s at_ c = .error e) : e.1 = 340 ∨ e.1 = 3 := by
  unfold restS at h
  split at h
  · cases h
  · split at h
    · rename_i hT; injection h with h; exact .inl (h ▸ takeP_err hT)
    · split at h
      · split at h
        · rename_i hT; injection h with h; exact .inl (h ▸ takeP_err hT)
        · cases h
      · split at h
        · split at h
          · rename_i hT; injection h with h; exact .inl (h ▸ takeP_err hT)
          · cases h
        · split at h
          · split at h
            · rename_i hT; injection h with h; exact h ▸ takeT_err hT
            · cases h
          · cases h
theorem cmdOf_err {s : ByteArray} {e : Int × Int} (h : cmdOf s = .error e) : e.1 = 340 ∨ e.1 = 3 := by
  unfold cmdOf at h
  split at h
  · injection h with h; rw [← h]; exact .inr rfl
  · simp only at h
    split at h
    · injection h with h; rw [← h]; exact .inl rfl
    · split at h
      · rename_i hT; injection h with h; exact h ▸ restS_err hT
      · split at h
        · injection h with h; rw [← h]; exact .inl rfl
        · cases h

set_option maxHeartbeats 4000000 in
set_option maxRecDepth 100000 in
theorem check_bad (c : Cmd) (h : CmdR c) (d : Cmd) (er a_ : Int) (he : er ≠ 0) (hR : cmdRes (lineOf c) = (d, er, a_)) (w : World) (hv : Vars w) : Calls Tryz.prog 33 #[.agg (ccell c)] w fun e w' => e = .returned (.int .i64 2) ∧ Ext w w' := by
  have hwrite := fun w' h' => write_any c h w' h'
  have hcmd := fun w' h' => Command_any (lineOf c) w' h'
  have heb : (er == 0) = false := by simpa using he
  generalize lineOf c = L at *
  have hb : Blk (w.alloc (.cells (ccell c) 27)) w.heap.size (ccell c) 27 := Blk.new w _ 27
  have HX := Lib.hid (Ext.alloc (Below.refl _ w) (.cells (ccell c) 27))
  have HV := Lib.hid hv; clear hv
  have HR := Lib.hid hR; clear hR
  go_enter Tryz.func33, Tryz.ntmps33
  go_wp2_with (first
    | ((with_reducible show wpList _ _ _ (⟨some 6, .load 27 (.tmp 1), _, _, _, none⟩ :: _) _ _); refine wpList_load_blk rfl 27 _ rfl w.heap.size 0 rfl (ccell c).toList _ hb (fun j hj => by simp) Tryz.underlying27 rfl (by rw [Array.length_toList]; exact i27k _) ?_; simp only [Array.toArray_toList])
    | ((with_reducible show Calls _ 60 _ _ _); refine (hwrite _ (HV.out.ext HX.out)).mono ?_; rintro e1 w1 ⟨rfl, hx1⟩)
    | ((with_reducible show Calls _ 13 _ _ _); refine (hcmd _ (HV.out.ext (HX.out.go hx1))).mono ?_; rintro e3 w3 ⟨rfl, hx3⟩; rw [HR.out]; have hb3 := (hb.below hx1 hb.lt).below hx3 (by have := hb.lt; have := hx1.size; omega); have hE3 := (HX.out.go hx1).go hx3; have hz := hb3.lt)
    | ((with_reducible show wpList _ _ _ (⟨none, .store 27 (.tmp 3) (.tmp 9), _, _, _, none⟩ :: _) _ _); refine wpList_store_new rfl 27 _ _ rfl w3.heap.size 0 (ccell d) rfl rfl (((Blk.new w3 (ccell Cmd.zero) 27).alloc _).congr (ccell_lit 0)) (by rw [ccell_size]; decide) (i27k _) (ccell_one _) ?_; intro w4 hb4 hk4 hm4; replace hb4 := hb4.congr (D := ccell d) (by rw [putCells_whole (by rw [Array.length_toList, ccell_size]; rfl)]); have hbs := hk4 _ _ _ (by omega) (Blk.new' (w3.alloc _) #[.int .i64 0, .int .i64 0] 30 (w3.heap.size + 1) (by rw [sz_alloc])); have hb5 := hk4 _ _ _ (by omega) ((hb3.alloc _).alloc _); have c0 : w4.cell? ⟨w3.heap.size + 1, 0, none⟩ = some (.int .i64 0) := hbs.cell rfl; have c1 : w4.cell? ⟨w3.heap.size + 1, 1, none⟩ = some (.int .i64 0) := hbs.cell rfl; have f0 := hbs.free 0; have f1 := hbs.free 1; have hd6 := (hb4.setOther ⟨w3.heap.size + 1, 0, none⟩ (.int .i64 er) (show w3.heap.size ≠ w3.heap.size + 1 by omega)).setOther ⟨w3.heap.size + 1, 1, none⟩ (.int .i64 a_) (show w3.heap.size ≠ w3.heap.size + 1 by omega); have hc6 := (hb5.setOther ⟨w3.heap.size + 1, 0, none⟩ (.int .i64 er) (show w.heap.size ≠ w3.heap.size + 1 by omega)).setOther ⟨w3.heap.size + 1, 1, none⟩ (.int .i64 a_) (show w.heap.size ≠ w3.heap.size + 1 by omega))
    )
  go_ret
  refine ⟨rfl, ?_⟩
  exact ((hE3.alloc _).alloc _ |>.mods hm4 (fun i hi e => by have := hE3.size; omega) |>.setCell (by show w.heap.size ≤ w3.heap.size + 1; omega) _).setCell (by show w.heap.size ≤ w3.heap.size + 1; omega) _

theorem cmd_eq_yes {c d : Cmd} (hc : CmdW c) (hd : CmdW d) (h : c.same d) (w : World) : (Op.equalIn 10000 27 (.agg (ccell c)) (.agg (ccell d))).run Tryz.prog w = .ok true w := by
  obtain ⟨r, h1, h2⟩ := cmd_eq hc hd w
  rw [h1, h2.2 h]
theorem cmd_eq_no {c d : Cmd} (hc : CmdW c) (hd : CmdW d) (h : ¬ c.same d) (w : World) : (Op.equalIn 10000 27 (.agg (ccell c)) (.agg (ccell d))).run Tryz.prog w = .ok false w := by
  obtain ⟨r, h1, h2⟩ := cmd_eq hc hd w
  cases r with
  | true => exact absurd (h2.1 rfl) h
  | false => exact h1

set_option maxHeartbeats 4000000 in
set_option maxRecDepth 100000 in
theorem check_yes (c : Cmd) (h : CmdR c) (d : Cmd) (hwc : CmdW c) (hwd : CmdW d) (hs : d.same c) (a_ : Int) (hR : cmdRes (lineOf c) = (d, 0, a_)) (w : World) (hv : Vars w) : Calls Tryz.prog 33 #[.agg (ccell c)] w fun e w' => e = .returned (.int .i64 0) ∧ Ext w w' := by
  have hwrite := fun w' h' => write_any c h w' h'
  have hcmd := fun w' h' => Command_any (lineOf c) w' h'
  have heq := cmd_eq_yes hwd hwc hs
  generalize lineOf c = L at *
  have hb : Blk (w.alloc (.cells (ccell c) 27)) w.heap.size (ccell c) 27 := Blk.new w _ 27
  have HX := Lib.hid (Ext.alloc (Below.refl _ w) (.cells (ccell c) 27))
  have HV := Lib.hid hv; clear hv
  have HR := Lib.hid hR; clear hR
  go_enter Tryz.func33, Tryz.ntmps33
  go_wp2_with (first
    | ((with_reducible show wpList _ _ _ (⟨some 6, .load 27 (.tmp 1), _, _, _, none⟩ :: _) _ _); refine wpList_load_blk rfl 27 _ rfl w.heap.size 0 rfl (ccell c).toList _ hb (fun j hj => by simp) Tryz.underlying27 rfl (by rw [Array.length_toList]; exact i27k _) ?_; simp only [Array.toArray_toList])
    | ((with_reducible show Calls _ 60 _ _ _); refine (hwrite _ (HV.out.ext HX.out)).mono ?_; rintro e1 w1 ⟨rfl, hx1⟩)
    | ((with_reducible show Calls _ 13 _ _ _); refine (hcmd _ (HV.out.ext (HX.out.go hx1))).mono ?_; rintro e3 w3 ⟨rfl, hx3⟩; rw [HR.out]; have hb3 := (hb.below hx1 hb.lt).below hx3 (by have := hb.lt; have := hx1.size; omega); have hE3 := (HX.out.go hx1).go hx3; have hz := hb3.lt)
    | ((with_reducible show wpList _ _ _ (⟨none, .store 27 (.tmp 3) (.tmp 9), _, _, _, none⟩ :: _) _ _); refine wpList_store_new rfl 27 _ _ rfl w3.heap.size 0 (ccell d) rfl rfl (((Blk.new w3 (ccell Cmd.zero) 27).alloc _).congr (ccell_lit 0)) (by rw [ccell_size]; decide) (i27k _) (ccell_one _) ?_; intro w4 hb4 hk4 hm4; replace hb4 := hb4.congr (D := ccell d) (by rw [putCells_whole (by rw [Array.length_toList, ccell_size]; rfl)]); have hbs := hk4 _ _ _ (by omega) (Blk.new' (w3.alloc _) #[.int .i64 0, .int .i64 0] 30 (w3.heap.size + 1) (by rw [sz_alloc])); have hb5 := hk4 _ _ _ (by omega) ((hb3.alloc _).alloc _); have c0 : w4.cell? ⟨w3.heap.size + 1, 0, none⟩ = some (.int .i64 0) := hbs.cell rfl; have c1 : w4.cell? ⟨w3.heap.size + 1, 1, none⟩ = some (.int .i64 0) := hbs.cell rfl; have f0 := hbs.free 0; have f1 := hbs.free 1; have hd6 := (hb4.setOther ⟨w3.heap.size + 1, 0, none⟩ (.int .i64 0) (show w3.heap.size ≠ w3.heap.size + 1 by omega)).setOther ⟨w3.heap.size + 1, 1, none⟩ (.int .i64 a_) (show w3.heap.size ≠ w3.heap.size + 1 by omega); have hc6 := (hb5.setOther ⟨w3.heap.size + 1, 0, none⟩ (.int .i64 0) (show w.heap.size ≠ w3.heap.size + 1 by omega)).setOther ⟨w3.heap.size + 1, 1, none⟩ (.int .i64 a_) (show w.heap.size ≠ w3.heap.size + 1 by omega))
    | ((with_reducible show wpList _ _ _ (⟨some 15, .load 27 (.tmp 3), _, _, _, _⟩ :: _) _ _); refine wpList_load_want rfl 27 _ rfl w3.heap.size 0 rfl (ccell d).toList _ hd6 (fun j hj => by simp) Tryz.underlying27 rfl (by rw [Array.length_toList]; exact i27k _) ?_; simp only [Array.toArray_toList])
    | ((with_reducible show wpList _ _ _ (⟨some 16, .load 27 (.tmp 1), _, _, _, _⟩ :: _) _ _); refine wpList_load_want rfl 27 _ rfl w.heap.size 0 rfl (ccell c).toList _ hc6 (fun j hj => by simp) Tryz.underlying27 rfl (by rw [Array.length_toList]; exact i27k _) ?_; simp only [Array.toArray_toList])
    )
  go_ret
  refine ⟨rfl, ?_⟩
  exact ((hE3.alloc _).alloc _ |>.mods hm4 (fun i hi e => by have := hE3.size; omega) |>.setCell (by show w.heap.size ≤ w3.heap.size + 1; omega) _).setCell (by show w.heap.size ≤ w3.heap.size + 1; omega) _

set_option maxHeartbeats 4000000 in
set_option maxRecDepth 100000 in
theorem check_no (c : Cmd) (h : CmdR c) (d : Cmd) (hwc : CmdW c) (hwd : CmdW d) (hs : ¬ d.same c) (a_ : Int) (hR : cmdRes (lineOf c) = (d, 0, a_)) (w : World) (hv : Vars w) : Calls Tryz.prog 33 #[.agg (ccell c)] w fun e w' => e = .returned (.int .i64 2) ∧ Ext w w' := by
  have hwrite := fun w' h' => write_any c h w' h'
  have hcmd := fun w' h' => Command_any (lineOf c) w' h'
  have heq := cmd_eq_no hwd hwc hs
  generalize lineOf c = L at *
  have hb : Blk (w.alloc (.cells (ccell c) 27)) w.heap.size (ccell c) 27 := Blk.new w _ 27
  have HX := Lib.hid (Ext.alloc (Below.refl _ w) (.cells (ccell c) 27))
  have HV := Lib.hid hv; clear hv
  have HR := Lib.hid hR; clear hR
  go_enter Tryz.func33, Tryz.ntmps33
  go_wp2_with (first
    | ((with_reducible show wpList _ _ _ (⟨some 6, .load 27 (.tmp 1), _, _, _, none⟩ :: _) _ _); refine wpList_load_blk rfl 27 _ rfl w.heap.size 0 rfl (ccell c).toList _ hb (fun j hj => by simp) Tryz.underlying27 rfl (by rw [Array.length_toList]; exact i27k _) ?_; simp only [Array.toArray_toList])
    | ((with_reducible show Calls _ 60 _ _ _); refine (hwrite _ (HV.out.ext HX.out)).mono ?_; rintro e1 w1 ⟨rfl, hx1⟩)
    | ((with_reducible show Calls _ 13 _ _ _); refine (hcmd _ (HV.out.ext (HX.out.go hx1))).mono ?_; rintro e3 w3 ⟨rfl, hx3⟩; rw [HR.out]; have hb3 := (hb.below hx1 hb.lt).below hx3 (by have := hb.lt; have := hx1.size; omega); have hE3 := (HX.out.go hx1).go hx3; have hz := hb3.lt)
    | ((with_reducible show wpList _ _ _ (⟨none, .store 27 (.tmp 3) (.tmp 9), _, _, _, none⟩ :: _) _ _); refine wpList_store_new rfl 27 _ _ rfl w3.heap.size 0 (ccell d) rfl rfl (((Blk.new w3 (ccell Cmd.zero) 27).alloc _).congr (ccell_lit 0)) (by rw [ccell_size]; decide) (i27k _) (ccell_one _) ?_; intro w4 hb4 hk4 hm4; replace hb4 := hb4.congr (D := ccell d) (by rw [putCells_whole (by rw [Array.length_toList, ccell_size]; rfl)]); have hbs := hk4 _ _ _ (by omega) (Blk.new' (w3.alloc _) #[.int .i64 0, .int .i64 0] 30 (w3.heap.size + 1) (by rw [sz_alloc])); have hb5 := hk4 _ _ _ (by omega) ((hb3.alloc _).alloc _); have c0 : w4.cell? ⟨w3.heap.size + 1, 0, none⟩ = some (.int .i64 0) := hbs.cell rfl; have c1 : w4.cell? ⟨w3.heap.size + 1, 1, none⟩ = some (.int .i64 0) := hbs.cell rfl; have f0 := hbs.free 0; have f1 := hbs.free 1; have hd6 := (hb4.setOther ⟨w3.heap.size + 1, 0, none⟩ (.int .i64 0) (show w3.heap.size ≠ w3.heap.size + 1 by omega)).setOther ⟨w3.heap.size + 1, 1, none⟩ (.int .i64 a_) (show w3.heap.size ≠ w3.heap.size + 1 by omega); have hc6 := (hb5.setOther ⟨w3.heap.size + 1, 0, none⟩ (.int .i64 0) (show w.heap.size ≠ w3.heap.size + 1 by omega)).setOther ⟨w3.heap.size + 1, 1, none⟩ (.int .i64 a_) (show w.heap.size ≠ w3.heap.size + 1 by omega))
    | ((with_reducible show wpList _ _ _ (⟨some 15, .load 27 (.tmp 3), _, _, _, _⟩ :: _) _ _); refine wpList_load_want rfl 27 _ rfl w3.heap.size 0 rfl (ccell d).toList _ hd6 (fun j hj => by simp) Tryz.underlying27 rfl (by rw [Array.length_toList]; exact i27k _) ?_; simp only [Array.toArray_toList])
    | ((with_reducible show wpList _ _ _ (⟨some 16, .load 27 (.tmp 1), _, _, _, _⟩ :: _) _ _); refine wpList_load_want rfl 27 _ rfl w.heap.size 0 rfl (ccell c).toList _ hc6 (fun j hj => by simp) Tryz.underlying27 rfl (by rw [Array.length_toList]; exact i27k _) ?_; simp only [Array.toArray_toList])
    )
  go_ret
  refine ⟨rfl, ?_⟩
  exact ((hE3.alloc _).alloc _ |>.mods hm4 (fun i hi e => by have := hE3.size; omega) |>.setCell (by show w.heap.size ≤ w3.heap.size + 1; omega) _).setCell (by show w.heap.size ≤ w3.heap.size + 1; omega) _

open Classical in
/-- may a command be: its line says it -/
noncomputable def okCmd (c : Cmd) : Bool := match cmdOf (lineOf c) with | .ok d => decide (d.same c) | .error _ => false
/-- line.Check -/
theorem Check_any (c : Cmd) (h : CmdR c) (hw : CmdW c) (hd : ∀ d, cmdOf (lineOf c) = .ok d → CmdW d) (w : World) (hv : Vars w) : Calls Tryz.prog 33 #[.agg (ccell c)] w fun e w' => e = .returned (.int .i64 (if okCmd c then 0 else 2)) ∧ Ext w w' := by
  cases hc : cmdOf (lineOf c) with
  | error e =>
    have h1 := cmdOf_err hc
    have hR : cmdRes (lineOf c) = (Cmd.zero, e.1, e.2) := by unfold cmdRes; rw [hc]
    have hok : okCmd c = false := by unfold okCmd; rw [hc]
    rw [hok]
    exact check_bad c h Cmd.zero e.1 e.2 (by omega) hR w hv
  | ok d =>
    have hR : cmdRes (lineOf c) = (d, 0, 0) := by unfold cmdRes; rw [hc]
    by_cases hs : d.same c
    · have hok : okCmd c = true := by unfold okCmd; rw [hc]; simp [hs]
      rw [hok]
      exact check_yes c h d hw (hd d hc) hs 0 hR w hv
    · have hok : okCmd c = false := by unfold okCmd; rw [hc]; simp [hs]
      rw [hok]
      exact check_no c h d hw (hd d hc) hs 0 hR w hv

end Go.Proofs.YtigfkfjlfpndfaaGreatDoor
