/-
  The law LineBack, walked.
-/
import Derived.Test.YtigfkfjlfpndfaaGreatDoorWakes
import Derived.StillTailTactics
namespace Go.Proofs.YtigfkfjlfpndfaaGreatDoor
open Go.RowKit Sp
/-- a text that can be played in time -/
def cutB (s : ByteArray) : ByteArray := s.extract 0 (min s.size 700)
theorem cutB_size (s : ByteArray) : (cutB s).size ≤ 700 := by unfold cutB; rw [ByteArray.size_extract]; omega
set_option maxHeartbeats 400000 in
theorem cutB_any (s : ByteArray) (hs : s.size ≤ 140737488351232) (w : World) : Calls Tryz.prog 12 #[.string s] w fun e w' => e = .returned (.string (cutB s)) ∧ w' = w := by
  unfold cutB
  have e : (min (s.size : Int) 700).toNat = min s.size 700 := by omega
  have E := Lib.hid e; clear e
  have h0 : 0 ≤ min (s.size : Int) 700 := by omega
  have h1 : min (s.size : Int) 700 ≤ (s.size : Int) := by omega
  go_enter Tryz.func12, Tryz.ntmps12
  go_wp2
  go_ret
  exact ⟨by rw [← E.out]; rfl, rfl⟩
/-- .. and a command -/
def cutC (c : Cmd) : Cmd := { c with name := cutB c.name, text := cutB c.text }
theorem cutC_fold (c : Cmd) : ccell { kind := c.kind, name := cutB c.name, key := c.key, text := cutB c.text, count := c.count } = ccell (cutC c) := rfl
theorem cutC_r {c : Cmd} (h : CmdW c) : CmdR (cutC c) := ⟨by have := cutB_size c.name; show (cutB c.name).size ≤ _; omega, by have := cutB_size c.text; show (cutB c.text).size ≤ _; omega, h.key, h.count.1, h.count.2⟩
theorem cutC_w {c : Cmd} (h : CmdW c) : CmdW (cutC c) := ⟨h.kind, by have := cutB_size c.name; show (cutB c.name).size ≤ _; unfold maxLen; omega, h.key, by have := cutB_size c.text; show (cutB c.text).size ≤ _; unfold maxLen; omega, h.count⟩
theorem zero_lit : #[.int .i64 0, .string ⟨#[]⟩, cz, cz, cz, cz, cz, cz, cz, cz, cz, cz, cz, cz, cz, cz, cz, cz, cz, cz, cz, cz, cz, cz, cz, cz, cz, cz, cz, cz, cz, cz, cz, cz, .string ⟨#[]⟩, .int .i64 0] = ccell Cmd.zero := by
  apply Array.toList_inj.1
  simp only [ccell, kcell, Cmd.zero, Array.toList_append]
  rfl
theorem zero_w : CmdW Cmd.zero := ⟨by show _ ≤ (0 : Int) ∧ (0 : Int) ≤ _; omega, by show 0 ≤ maxLen; omega, fun j _ => ⟨Int.le_refl _, by show (0 : Int) < 256; decide⟩, by show 0 ≤ maxLen; omega, by show _ ≤ (0 : Int) ∧ (0 : Int) ≤ _; omega⟩
theorem zero_eq (w : World) : (Op.equalIn 10000 27 (.agg (ccell Cmd.zero)) (.agg #[.int .i64 0, .string ⟨#[]⟩, cz, cz, cz, cz, cz, cz, cz, cz, cz, cz, cz, cz, cz, cz, cz, cz, cz, cz, cz, cz, cz, cz, cz, cz, cz, cz, cz, cz, cz, cz, cz, cz, .string ⟨#[]⟩, .int .i64 0])).run Tryz.prog w = .ok true w := by
  rw [zero_lit]; exact cmd_eq_yes zero_w zero_w (same_refl _) w
/-- what line.Command tells, at a line that is one, and at one that is none -/
theorem cmd_yes {s : ByteArray} {d : Cmd} (h : cmdOf s = .ok d) (w : World) (hv : Vars w) : Calls Tryz.prog 13 #[.string s] w fun e w' => e = .returned (.tuple #[.agg (ccell d), .agg #[.int .i64 0, .int .i64 0]]) ∧ Ext w w' :=
  (Command_any s w hv).mono fun e w' h' => by
    obtain ⟨h1, h2⟩ := h'
    rw [show cmdRes s = (d, 0, 0) from by unfold cmdRes; rw [h]] at h1
    exact ⟨h1, h2⟩
theorem cmd_none {s : ByteArray} {e0 a0 : Int} (h : cmdOf s = .error (e0, a0)) (w : World) (hv : Vars w) : Calls Tryz.prog 13 #[.string s] w fun e w' => e = .returned (.tuple #[.agg (ccell Cmd.zero), .agg #[.int .i64 e0, .int .i64 a0]]) ∧ Ext w w' :=
  (Command_any s w hv).mono fun e w' h' => by
    obtain ⟨h1, h2⟩ := h'
    rw [show cmdRes s = (Cmd.zero, e0, a0) from by unfold cmdRes; rw [h]] at h1
    exact ⟨h1, h2⟩
theorem hd_of (c : Cmd) : ∀ d, cmdOf (lineOf c) = .ok d → CmdW d := fun d h => ((cmdOf_ok h).1).w
theorem print_at {c : Cmd} (h : CmdR c) (hw : CmdW c) {b : Bool} (hb : okCmd c = b) (w : World) (hv : Vars w) : Calls Tryz.prog 31 #[.agg (ccell c)] w fun e w' => e = .returned (.tuple #[.string (if b then lineOf c else ⟨#[]⟩), .int .i64 (if b then 0 else 2)]) ∧ Ext w w' := by
  rw [← hb]; exact Print_any c h hw (hd_of c) w hv
theorem check_at {c : Cmd} (h : CmdR c) (hw : CmdW c) {b : Bool} (hb : okCmd c = b) (w : World) (hv : Vars w) : Calls Tryz.prog 33 #[.agg (ccell c)] w fun e w' => e = .returned (.int .i64 (if b then 0 else 2)) ∧ Ext w w' := by
  rw [← hb]; exact Check_any c h hw (hd_of c) w hv
theorem ok_read {s : ByteArray} {d : Cmd} (h : cmdOf s = .ok d) : okCmd d = true := by
  unfold okCmd
  rw [(cmdOf_ok h).2.1, h]
  simp [same_refl]
theorem ok_line {c : Cmd} (h : okCmd c = true) : ∃ d, cmdOf (lineOf c) = .ok d ∧ d.same c := by
  unfold okCmd at h
  split at h
  · rename_i d hd; exact ⟨d, hd, by simpa using h⟩
  · cases h
theorem takeP_place {s : ByteArray} {k : Nat} {R : ByteArray → Bool} {e : Int × Int} (hk : k ≤ s.size) (h : takeP s k R = .error e) : 0 ≤ e.2 ∧ e.2 ≤ (s.size : Int) := by
  unfold takeP at h
  split at h
  · injection h with h; rw [← h]; simp only; omega
  · simp only at h
    split at h
    · cases h
    · injection h with h; rw [← h]; simp only; omega
theorem takeT_place {s : ByteArray} {k : Nat} {e : Int × Int} (hk : k ≤ s.size) (h : takeT s k = .error e) : 0 ≤ e.2 ∧ e.2 ≤ (s.size : Int) := by
  unfold takeT at h
  split at h
  · injection h with h; rw [← h]; simp only; omega
  · simp only at h
    split at h
    · injection h with h; rw [← h]; simp only; omega
    · split at h
      · injection h with h; rw [← h]; simp only; omega
      · split at h
        · rename_i h1 h2 h3
          injection h with h; rw [← h]; simp only
          have := oddOf_range (s.extract (k + 1) s.size).data.toList
          have hsz : (s.extract (k + 1) s.size).data.toList.length = s.size - (k + 1) := by rw [size_list, ByteArray.size_extract]; omega
          rw [hsz] at this
          omega
        · cases h
theorem cmdOf_place {s : ByteArray} {e : Int × Int} (h : cmdOf s = .error e) : 0 ≤ e.2 ∧ e.2 ≤ (s.size : Int) := by
  unfold cmdOf at h
  split at h
  · injection h with h; rw [← h]; simp only; omega
  · simp only at h
    split at h
    · injection h with h; rw [← h]; simp only; omega
    · rename_i hl hk
      have hst : Stop (bl s) (blank s.data.toList) := stop_word s
      have hle : blank s.data.toList ≤ s.size := hst.le
      split at h
      · rename_i e' hR
        injection h with h
        subst h
        unfold restS at hR
        split at hR
        · cases hR
        · split at hR
          · rename_i hT; injection hR with hR; subst hR; exact takeP_place hle hT
          · rename_i p b hT
            have hb := (takeP_ok hst hT).2.1.le
            have hb' : b ≤ s.size := hb
            split at hR
            · split at hR
              · rename_i hT2; injection hR with hR; subst hR; exact takeP_place hb' hT2
              · cases hR
            · split at hR
              · split at hR
                · rename_i hT2; injection hR with hR; subst hR; exact takeP_place hb' hT2
                · cases hR
              · split at hR
                · split at hR
                  · rename_i hT2; injection hR with hR; subst hR; exact takeT_place hb' hT2
                  · cases hR
                · cases hR
      · rename_i c d hR
        split at h
        · injection h with h; rw [← h]; simp only; omega
        · cases h
set_option maxHeartbeats 1000000 in
set_option maxRecDepth 100000 in
theorem back_ok_t (s : ByteArray) (hs : s.size ≤ 140737488351232) (c : Cmd) (hc : CmdW c) (hcn : c.name.size ≤ 140737488351232) (hct : c.text.size ≤ 140737488351232) (T : ByteArray) (hT : cutB s = T) (d : Cmd) (ho : cmdOf T = .ok d) (hb : okCmd (cutC c) = true) (L : ByteArray) (hL : lineOf (cutC c) = L) (d' : Cmd) (hd' : cmdOf L = .ok d') (hsm : d'.same (cutC c)) (w : World) (hv : Vars w) : Calls Tryz.prog 10 #[.string s, .agg (ccell c)] w fun e w' => e = .returned (.bool true) ∧ Ext w w' := by
  have hline := (cmdOf_ok ho).2.1
  have hok := ok_read ho
  have hfit := (cmdOf_ok ho).1
  have hc1 := fun w' h' => cmd_yes ho w' h'
  have hp1 : ∀ w', Vars w' → Calls Tryz.prog 31 #[.agg (ccell d)] w' fun e w'' => e = .returned (.tuple #[.string T, .int .i64 0]) ∧ Ext w' w'' := fun w' h' => by
    have := print_at hfit.r hfit.w hok w' h'
    rw [if_pos rfl, if_pos rfl, hline] at this
    exact this
  have hk1 : ∀ w', Vars w' → Calls Tryz.prog 33 #[.agg (ccell d)] w' fun e w'' => e = .returned (.int .i64 0) ∧ Ext w' w'' := fun w' h' => check_at hfit.r hfit.w hok w' h'
  clear hline hok hfit ho
  have hx1 : ∀ w', Vars w' → Calls Tryz.prog 31 #[.agg (ccell (cutC c))] w' fun e w'' => e = .returned (.tuple #[.string L, .int .i64 0]) ∧ Ext w' w'' := fun w' h' => by
    have := print_at (cutC_r hc) (cutC_w hc) hb w' h'
    rw [if_pos rfl, if_pos rfl, hL] at this
    exact this
  have hx2 := fun w' h' => cmd_yes hd' w' h'
  have hlen : (L.size : Int) ≤ 640 := by have := (cmdOf_ok hd').2.2; omega
  have heq := cmd_eq_yes ((cmdOf_ok hd').1).w (cutC_w hc) hsm
  clear hd' hsm hL hb
  have HT := Lib.hid hT; clear hT
  have HV := Lib.hid hv; clear hv
  clear hc
  have hM := Mem.start w NoS
  go_enter Tryz.func10, Tryz.ntmps10
  go_wp2_with (first
    | ((with_reducible show wpList _ _ _ _ _ (World.alloc _ (Obj.cells _ _))); apply wpList_named hM; clear hM; intro _ hM) | ((with_reducible show wpList _ _ _ (⟨_, .load _ _, _, _, _, _⟩ :: _) _ _); apply wpList_load1 hM; rfl; rfl; rfl; (focus (repeat (first | exact List.Mem.head _ | refine List.Mem.tail _ ?_))); (decide +kernel); (first | (focus fail) | rfl)) | ((with_reducible show wpList _ _ _ (⟨_, .load _ _, _, _, _, _⟩ :: _) _ _); apply wpList_loadA hM; rfl; rfl; rfl; (focus (repeat (first | exact List.Mem.head _ | refine List.Mem.tail _ ?_))); (decide +kernel); (first | (focus (first | with_reducible exact i27k _ | with_reducible exact i30 | kernel_rfl)) | kernel_rfl)) | ((with_reducible show wpList _ _ _ (⟨_, .store _ _ _, _, _, _, _⟩ :: _) _ _); apply wpList_store1 hM; rfl; rfl; rfl; (conv => lhs; whnf); (focus (repeat (first | exact Hole.head | apply Hole.tail))); (first | (focus (with_reducible rw [ccell_size]; decide)) | exact Nat.le_of_ble_eq_true rfl | (simp; done)); (decide +kernel); (first | rfl | assumption | (apply Mem.rowOne hM; (focus (repeat (first | exact List.Mem.head _ | refine List.Mem.tail _ ?_))))); clear hM; intro _ hM; (try dsimp only at hM); (try simp only [ccell_set1, ccell_set34, List.setIfInBounds_toArray, List.set_cons_zero, List.set_cons_succ] at hM); (try rw [cutC_fold] at hM)) | ((with_reducible show wpList _ _ _ (⟨_, .store _ _ _, _, _, _, _⟩ :: _) _ _); apply wpList_storeA hM; rfl; rfl; rfl; (first | rfl | (conv => lhs; whnf)); (focus (repeat (first | exact Hole.head | apply Hole.tail))); (first | (focus (first | (rw [ccell_size, ccell_size]; done) | (rw [ccell_size]; rfl) | rfl)) | rfl); (first | (focus (first | with_reducible exact i27k _ | with_reducible exact i30 | kernel_rfl)) | kernel_rfl); (first | (focus (first | with_reducible exact ccell_one _ | exact all_mk rfl)) | exact all_mk rfl); clear hM; intro _ hM; (try dsimp only at hM))
    | ((with_reducible show Calls _ 11 _ _ _); refine (wakes_any _ (hM.vars HV.out)).mono ?_; rintro e _ ⟨rfl, hx2⟩; replace hM := hM.ext hx2; clear hx2)
    | ((with_reducible show Calls _ 12 _ _ _); refine (cutB_any s (by omega) _).mono ?_; rintro e _ ⟨rfl, rfl⟩; rw [HT.out])
    | ((with_reducible show Calls _ 13 #[.string T] _ _); refine (hc1 _ (hM.vars HV.out)).mono ?_; rintro e _ ⟨rfl, hx2⟩; replace hM := hM.ext hx2; clear hx2)
    | ((with_reducible show Calls _ 31 _ _ _); refine (hp1 _ (hM.vars HV.out)).mono ?_; rintro e _ ⟨rfl, hx2⟩; replace hM := hM.ext hx2; clear hx2; simp only [if_true])
    | ((with_reducible show Calls _ 33 _ _ _); refine (hk1 _ (hM.vars HV.out)).mono ?_; rintro e _ ⟨rfl, hx2⟩; replace hM := hM.ext hx2; clear hx2; simp only [if_true]))
  have hbk := (hM.blk (List.Mem.tail _ (List.Mem.tail _ (List.Mem.head _))))
  have c1 := hbk.cell (ccell_1 c)
  have c34 := hbk.cell (ccell_34 c)
  clear hbk
  refine wp_region_still_tail 7 (by kernel_rfl) (by kernel_rfl) ?_
  simp only [List.take_succ_cons, List.take_zero, List.drop_succ_cons, List.drop_zero]
  repeat still_step
  still_call (cutB_any c.name hcn _)
  repeat still_step
  still_call (cutB_any c.text hct _)
  repeat still_step
  refine wpStill_nil ?_
  replace hM := hM.drew
  go_wp2_with (first
    | ((with_reducible show wpList _ _ _ _ _ (World.alloc _ (Obj.cells _ _))); apply wpList_named hM; clear hM; intro _ hM) | ((with_reducible show wpList _ _ _ (⟨_, .load _ _, _, _, _, _⟩ :: _) _ _); apply wpList_load1 hM; rfl; rfl; rfl; (focus (repeat (first | exact List.Mem.head _ | refine List.Mem.tail _ ?_))); (decide +kernel); (first | (focus fail) | rfl)) | ((with_reducible show wpList _ _ _ (⟨_, .load _ _, _, _, _, _⟩ :: _) _ _); apply wpList_loadA hM; rfl; rfl; rfl; (focus (repeat (first | exact List.Mem.head _ | refine List.Mem.tail _ ?_))); (decide +kernel); (first | (focus (first | with_reducible exact i27k _ | with_reducible exact i30 | kernel_rfl)) | kernel_rfl)) | ((with_reducible show wpList _ _ _ (⟨_, .store _ _ _, _, _, _, _⟩ :: _) _ _); apply wpList_store1 hM; rfl; rfl; rfl; (conv => lhs; whnf); (focus (repeat (first | exact Hole.head | apply Hole.tail))); (first | (focus (with_reducible rw [ccell_size]; decide)) | exact Nat.le_of_ble_eq_true rfl | (simp; done)); (decide +kernel); (first | rfl | assumption | (apply Mem.rowOne hM; (focus (repeat (first | exact List.Mem.head _ | refine List.Mem.tail _ ?_))))); clear hM; intro _ hM; (try dsimp only at hM); (try simp only [ccell_set1, ccell_set34, List.setIfInBounds_toArray, List.set_cons_zero, List.set_cons_succ] at hM); (try rw [cutC_fold] at hM)) | ((with_reducible show wpList _ _ _ (⟨_, .store _ _ _, _, _, _, _⟩ :: _) _ _); apply wpList_storeA hM; rfl; rfl; rfl; (first | rfl | (conv => lhs; whnf)); (focus (repeat (first | exact Hole.head | apply Hole.tail))); (first | (focus (first | (rw [ccell_size, ccell_size]; done) | (rw [ccell_size]; rfl) | rfl)) | rfl); (first | (focus (first | with_reducible exact i27k _ | with_reducible exact i30 | kernel_rfl)) | kernel_rfl); (first | (focus (first | with_reducible exact ccell_one _ | exact all_mk rfl)) | exact all_mk rfl); clear hM; intro _ hM; (try dsimp only at hM))
    | ((with_reducible show Calls _ 31 _ _ _); refine (hx1 _ (hM.vars HV.out)).mono ?_; rintro e _ ⟨rfl, hxx⟩; replace hM := hM.ext hxx; clear hxx)
    | ((with_reducible show Calls _ 13 _ _ _); refine (hx2 _ (hM.vars HV.out)).mono ?_; rintro e _ ⟨rfl, hxx⟩; replace hM := hM.ext hxx; clear hxx))
  go_ret
  exact ⟨rfl, hM.ext0⟩
set_option maxHeartbeats 1000000 in
set_option maxRecDepth 100000 in
theorem back_ok_f (s : ByteArray) (hs : s.size ≤ 140737488351232) (c : Cmd) (hc : CmdW c) (hcn : c.name.size ≤ 140737488351232) (hct : c.text.size ≤ 140737488351232) (T : ByteArray) (hT : cutB s = T) (d : Cmd) (ho : cmdOf T = .ok d) (hb : okCmd (cutC c) = false) (w : World) (hv : Vars w) : Calls Tryz.prog 10 #[.string s, .agg (ccell c)] w fun e w' => e = .returned (.bool true) ∧ Ext w w' := by
  have hline := (cmdOf_ok ho).2.1
  have hok := ok_read ho
  have hfit := (cmdOf_ok ho).1
  have hc1 := fun w' h' => cmd_yes ho w' h'
  have hp1 : ∀ w', Vars w' → Calls Tryz.prog 31 #[.agg (ccell d)] w' fun e w'' => e = .returned (.tuple #[.string T, .int .i64 0]) ∧ Ext w' w'' := fun w' h' => by
    have := print_at hfit.r hfit.w hok w' h'
    rw [if_pos rfl, if_pos rfl, hline] at this
    exact this
  have hk1 : ∀ w', Vars w' → Calls Tryz.prog 33 #[.agg (ccell d)] w' fun e w'' => e = .returned (.int .i64 0) ∧ Ext w' w'' := fun w' h' => check_at hfit.r hfit.w hok w' h'
  clear hline hok hfit ho
  have hx1 : ∀ w', Vars w' → Calls Tryz.prog 31 #[.agg (ccell (cutC c))] w' fun e w'' => e = .returned (.tuple #[.string ⟨#[]⟩, .int .i64 2]) ∧ Ext w' w'' := fun w' h' => by
    have := print_at (cutC_r hc) (cutC_w hc) hb w' h'
    simpa using this
  have hx3 : ∀ w', Vars w' → Calls Tryz.prog 33 #[.agg (ccell (cutC c))] w' fun e w'' => e = .returned (.int .i64 2) ∧ Ext w' w'' := fun w' h' => by
    have := check_at (cutC_r hc) (cutC_w hc) hb w' h'
    simpa using this
  clear hb
  have HT := Lib.hid hT; clear hT
  have HV := Lib.hid hv; clear hv
  clear hc
  have hM := Mem.start w NoS
  go_enter Tryz.func10, Tryz.ntmps10
  go_wp2_with (first
    | ((with_reducible show wpList _ _ _ _ _ (World.alloc _ (Obj.cells _ _))); apply wpList_named hM; clear hM; intro _ hM) | ((with_reducible show wpList _ _ _ (⟨_, .load _ _, _, _, _, _⟩ :: _) _ _); apply wpList_load1 hM; rfl; rfl; rfl; (focus (repeat (first | exact List.Mem.head _ | refine List.Mem.tail _ ?_))); (decide +kernel); (first | (focus fail) | rfl)) | ((with_reducible show wpList _ _ _ (⟨_, .load _ _, _, _, _, _⟩ :: _) _ _); apply wpList_loadA hM; rfl; rfl; rfl; (focus (repeat (first | exact List.Mem.head _ | refine List.Mem.tail _ ?_))); (decide +kernel); (first | (focus (first | with_reducible exact i27k _ | with_reducible exact i30 | kernel_rfl)) | kernel_rfl)) | ((with_reducible show wpList _ _ _ (⟨_, .store _ _ _, _, _, _, _⟩ :: _) _ _); apply wpList_store1 hM; rfl; rfl; rfl; (conv => lhs; whnf); (focus (repeat (first | exact Hole.head | apply Hole.tail))); (first | (focus (with_reducible rw [ccell_size]; decide)) | exact Nat.le_of_ble_eq_true rfl | (simp; done)); (decide +kernel); (first | rfl | assumption | (apply Mem.rowOne hM; (focus (repeat (first | exact List.Mem.head _ | refine List.Mem.tail _ ?_))))); clear hM; intro _ hM; (try dsimp only at hM); (try simp only [ccell_set1, ccell_set34, List.setIfInBounds_toArray, List.set_cons_zero, List.set_cons_succ] at hM); (try rw [cutC_fold] at hM)) | ((with_reducible show wpList _ _ _ (⟨_, .store _ _ _, _, _, _, _⟩ :: _) _ _); apply wpList_storeA hM; rfl; rfl; rfl; (first | rfl | (conv => lhs; whnf)); (focus (repeat (first | exact Hole.head | apply Hole.tail))); (first | (focus (first | (rw [ccell_size, ccell_size]; done) | (rw [ccell_size]; rfl) | rfl)) | rfl); (first | (focus (first | with_reducible exact i27k _ | with_reducible exact i30 | kernel_rfl)) | kernel_rfl); (first | (focus (first | with_reducible exact ccell_one _ | exact all_mk rfl)) | exact all_mk rfl); clear hM; intro _ hM; (try dsimp only at hM))
    | ((with_reducible show Calls _ 11 _ _ _); refine (wakes_any _ (hM.vars HV.out)).mono ?_; rintro e _ ⟨rfl, hx2⟩; replace hM := hM.ext hx2; clear hx2)
    | ((with_reducible show Calls _ 12 _ _ _); refine (cutB_any s (by omega) _).mono ?_; rintro e _ ⟨rfl, rfl⟩; rw [HT.out])
    | ((with_reducible show Calls _ 13 #[.string T] _ _); refine (hc1 _ (hM.vars HV.out)).mono ?_; rintro e _ ⟨rfl, hx2⟩; replace hM := hM.ext hx2; clear hx2)
    | ((with_reducible show Calls _ 31 _ _ _); refine (hp1 _ (hM.vars HV.out)).mono ?_; rintro e _ ⟨rfl, hx2⟩; replace hM := hM.ext hx2; clear hx2; simp only [if_true])
    | ((with_reducible show Calls _ 33 _ _ _); refine (hk1 _ (hM.vars HV.out)).mono ?_; rintro e _ ⟨rfl, hx2⟩; replace hM := hM.ext hx2; clear hx2; simp only [if_true]))
  have hbk := (hM.blk (List.Mem.tail _ (List.Mem.tail _ (List.Mem.head _))))
  have c1 := hbk.cell (ccell_1 c)
  have c34 := hbk.cell (ccell_34 c)
  clear hbk
  refine wp_region_still_tail 7 (by kernel_rfl) (by kernel_rfl) ?_
  simp only [List.take_succ_cons, List.take_zero, List.drop_succ_cons, List.drop_zero]
  repeat still_step
  still_call (cutB_any c.name hcn _)
  repeat still_step
  still_call (cutB_any c.text hct _)
  repeat still_step
  refine wpStill_nil ?_
  replace hM := hM.drew
  go_wp2_with (first
    | ((with_reducible show wpList _ _ _ _ _ (World.alloc _ (Obj.cells _ _))); apply wpList_named hM; clear hM; intro _ hM) | ((with_reducible show wpList _ _ _ (⟨_, .load _ _, _, _, _, _⟩ :: _) _ _); apply wpList_load1 hM; rfl; rfl; rfl; (focus (repeat (first | exact List.Mem.head _ | refine List.Mem.tail _ ?_))); (decide +kernel); (first | (focus fail) | rfl)) | ((with_reducible show wpList _ _ _ (⟨_, .load _ _, _, _, _, _⟩ :: _) _ _); apply wpList_loadA hM; rfl; rfl; rfl; (focus (repeat (first | exact List.Mem.head _ | refine List.Mem.tail _ ?_))); (decide +kernel); (first | (focus (first | with_reducible exact i27k _ | with_reducible exact i30 | kernel_rfl)) | kernel_rfl)) | ((with_reducible show wpList _ _ _ (⟨_, .store _ _ _, _, _, _, _⟩ :: _) _ _); apply wpList_store1 hM; rfl; rfl; rfl; (conv => lhs; whnf); (focus (repeat (first | exact Hole.head | apply Hole.tail))); (first | (focus (with_reducible rw [ccell_size]; decide)) | exact Nat.le_of_ble_eq_true rfl | (simp; done)); (decide +kernel); (first | rfl | assumption | (apply Mem.rowOne hM; (focus (repeat (first | exact List.Mem.head _ | refine List.Mem.tail _ ?_))))); clear hM; intro _ hM; (try dsimp only at hM); (try simp only [ccell_set1, ccell_set34, List.setIfInBounds_toArray, List.set_cons_zero, List.set_cons_succ] at hM); (try rw [cutC_fold] at hM)) | ((with_reducible show wpList _ _ _ (⟨_, .store _ _ _, _, _, _, _⟩ :: _) _ _); apply wpList_storeA hM; rfl; rfl; rfl; (first | rfl | (conv => lhs; whnf)); (focus (repeat (first | exact Hole.head | apply Hole.tail))); (first | (focus (first | (rw [ccell_size, ccell_size]; done) | (rw [ccell_size]; rfl) | rfl)) | rfl); (first | (focus (first | with_reducible exact i27k _ | with_reducible exact i30 | kernel_rfl)) | kernel_rfl); (first | (focus (first | with_reducible exact ccell_one _ | exact all_mk rfl)) | exact all_mk rfl); clear hM; intro _ hM; (try dsimp only at hM))
    | ((with_reducible show Calls _ 31 _ _ _); refine (hx1 _ (hM.vars HV.out)).mono ?_; rintro e _ ⟨rfl, hxx⟩; replace hM := hM.ext hxx; clear hxx)
    | ((with_reducible show Calls _ 33 _ _ _); refine (hx3 _ (hM.vars HV.out)).mono ?_; rintro e _ ⟨rfl, hxx⟩; replace hM := hM.ext hxx; clear hxx))
  go_ret
  exact ⟨rfl, hM.ext0⟩
set_option maxHeartbeats 1000000 in
set_option maxRecDepth 100000 in
theorem back_err_t (s : ByteArray) (hs : s.size ≤ 140737488351232) (c : Cmd) (hc : CmdW c) (hcn : c.name.size ≤ 140737488351232) (hct : c.text.size ≤ 140737488351232) (T : ByteArray) (hT : cutB s = T) (e0 a0 : Int) (ho : cmdOf T = .error (e0, a0)) (hb : okCmd (cutC c) = true) (L : ByteArray) (hL : lineOf (cutC c) = L) (d' : Cmd) (hd' : cmdOf L = .ok d') (hsm : d'.same (cutC c)) (w : World) (hv : Vars w) : Calls Tryz.prog 10 #[.string s, .agg (ccell c)] w fun e w' => e = .returned (.bool true) ∧ Ext w w' := by
  have hpl := cmdOf_place ho
  simp only at hpl
  have hne : (e0 == 0) = false := by
    rcases cmdOf_err ho with h | h <;> (simp only at h; rw [h]; rfl)
  have hc1 := fun w' h' => cmd_none ho w' h'
  have hz := zero_eq
  obtain ⟨hp0, hp1⟩ := hpl
  have hp2 : decide (a0 < 0) = false := by simp; omega
  have hp3 : decide ((T.size : Int) < a0) = false := by simp; omega
  clear ho
  have hx1 : ∀ w', Vars w' → Calls Tryz.prog 31 #[.agg (ccell (cutC c))] w' fun e w'' => e = .returned (.tuple #[.string L, .int .i64 0]) ∧ Ext w' w'' := fun w' h' => by
    have := print_at (cutC_r hc) (cutC_w hc) hb w' h'
    rw [if_pos rfl, if_pos rfl, hL] at this
    exact this
  have hx2 := fun w' h' => cmd_yes hd' w' h'
  have hlen : (L.size : Int) ≤ 640 := by have := (cmdOf_ok hd').2.2; omega
  have heq := cmd_eq_yes ((cmdOf_ok hd').1).w (cutC_w hc) hsm
  clear hd' hsm hL hb
  have HT := Lib.hid hT; clear hT
  have HV := Lib.hid hv; clear hv
  clear hc
  have hM := Mem.start w NoS
  go_enter Tryz.func10, Tryz.ntmps10
  go_wp2_with (first
    | ((with_reducible show wpList _ _ _ _ _ (World.alloc _ (Obj.cells _ _))); apply wpList_named hM; clear hM; intro _ hM) | ((with_reducible show wpList _ _ _ (⟨_, .load _ _, _, _, _, _⟩ :: _) _ _); apply wpList_load1 hM; rfl; rfl; rfl; (focus (repeat (first | exact List.Mem.head _ | refine List.Mem.tail _ ?_))); (decide +kernel); (first | (focus fail) | rfl)) | ((with_reducible show wpList _ _ _ (⟨_, .load _ _, _, _, _, _⟩ :: _) _ _); apply wpList_loadA hM; rfl; rfl; rfl; (focus (repeat (first | exact List.Mem.head _ | refine List.Mem.tail _ ?_))); (decide +kernel); (first | (focus (first | with_reducible exact i27k _ | with_reducible exact i30 | kernel_rfl)) | kernel_rfl)) | ((with_reducible show wpList _ _ _ (⟨_, .store _ _ _, _, _, _, _⟩ :: _) _ _); apply wpList_store1 hM; rfl; rfl; rfl; (conv => lhs; whnf); (focus (repeat (first | exact Hole.head | apply Hole.tail))); (first | (focus (with_reducible rw [ccell_size]; decide)) | exact Nat.le_of_ble_eq_true rfl | (simp; done)); (decide +kernel); (first | rfl | assumption | (apply Mem.rowOne hM; (focus (repeat (first | exact List.Mem.head _ | refine List.Mem.tail _ ?_))))); clear hM; intro _ hM; (try dsimp only at hM); (try simp only [ccell_set1, ccell_set34, List.setIfInBounds_toArray, List.set_cons_zero, List.set_cons_succ] at hM); (try rw [cutC_fold] at hM)) | ((with_reducible show wpList _ _ _ (⟨_, .store _ _ _, _, _, _, _⟩ :: _) _ _); apply wpList_storeA hM; rfl; rfl; rfl; (first | rfl | (conv => lhs; whnf)); (focus (repeat (first | exact Hole.head | apply Hole.tail))); (first | (focus (first | (rw [ccell_size, ccell_size]; done) | (rw [ccell_size]; rfl) | rfl)) | rfl); (first | (focus (first | with_reducible exact i27k _ | with_reducible exact i30 | kernel_rfl)) | kernel_rfl); (first | (focus (first | with_reducible exact ccell_one _ | exact all_mk rfl)) | exact all_mk rfl); clear hM; intro _ hM; (try dsimp only at hM))
    | ((with_reducible show Calls _ 11 _ _ _); refine (wakes_any _ (hM.vars HV.out)).mono ?_; rintro e _ ⟨rfl, hx2⟩; replace hM := hM.ext hx2; clear hx2)
    | ((with_reducible show Calls _ 12 _ _ _); refine (cutB_any s (by omega) _).mono ?_; rintro e _ ⟨rfl, rfl⟩; rw [HT.out])
    | ((with_reducible show Calls _ 13 #[.string T] _ _); refine (hc1 _ (hM.vars HV.out)).mono ?_; rintro e _ ⟨rfl, hx2⟩; replace hM := hM.ext hx2; clear hx2))
  have hbk := (hM.blk (List.Mem.tail _ (List.Mem.tail _ (List.Mem.head _))))
  have c1 := hbk.cell (ccell_1 c)
  have c34 := hbk.cell (ccell_34 c)
  clear hbk
  refine wp_region_still_tail 7 (by kernel_rfl) (by kernel_rfl) ?_
  simp only [List.take_succ_cons, List.take_zero, List.drop_succ_cons, List.drop_zero]
  repeat still_step
  still_call (cutB_any c.name hcn _)
  repeat still_step
  still_call (cutB_any c.text hct _)
  repeat still_step
  refine wpStill_nil ?_
  replace hM := hM.drew
  go_wp2_with (first
    | ((with_reducible show wpList _ _ _ _ _ (World.alloc _ (Obj.cells _ _))); apply wpList_named hM; clear hM; intro _ hM) | ((with_reducible show wpList _ _ _ (⟨_, .load _ _, _, _, _, _⟩ :: _) _ _); apply wpList_load1 hM; rfl; rfl; rfl; (focus (repeat (first | exact List.Mem.head _ | refine List.Mem.tail _ ?_))); (decide +kernel); (first | (focus fail) | rfl)) | ((with_reducible show wpList _ _ _ (⟨_, .load _ _, _, _, _, _⟩ :: _) _ _); apply wpList_loadA hM; rfl; rfl; rfl; (focus (repeat (first | exact List.Mem.head _ | refine List.Mem.tail _ ?_))); (decide +kernel); (first | (focus (first | with_reducible exact i27k _ | with_reducible exact i30 | kernel_rfl)) | kernel_rfl)) | ((with_reducible show wpList _ _ _ (⟨_, .store _ _ _, _, _, _, _⟩ :: _) _ _); apply wpList_store1 hM; rfl; rfl; rfl; (conv => lhs; whnf); (focus (repeat (first | exact Hole.head | apply Hole.tail))); (first | (focus (with_reducible rw [ccell_size]; decide)) | exact Nat.le_of_ble_eq_true rfl | (simp; done)); (decide +kernel); (first | rfl | assumption | (apply Mem.rowOne hM; (focus (repeat (first | exact List.Mem.head _ | refine List.Mem.tail _ ?_))))); clear hM; intro _ hM; (try dsimp only at hM); (try simp only [ccell_set1, ccell_set34, List.setIfInBounds_toArray, List.set_cons_zero, List.set_cons_succ] at hM); (try rw [cutC_fold] at hM)) | ((with_reducible show wpList _ _ _ (⟨_, .store _ _ _, _, _, _, _⟩ :: _) _ _); apply wpList_storeA hM; rfl; rfl; rfl; (first | rfl | (conv => lhs; whnf)); (focus (repeat (first | exact Hole.head | apply Hole.tail))); (first | (focus (first | (rw [ccell_size, ccell_size]; done) | (rw [ccell_size]; rfl) | rfl)) | rfl); (first | (focus (first | with_reducible exact i27k _ | with_reducible exact i30 | kernel_rfl)) | kernel_rfl); (first | (focus (first | with_reducible exact ccell_one _ | exact all_mk rfl)) | exact all_mk rfl); clear hM; intro _ hM; (try dsimp only at hM))
    | ((with_reducible show Calls _ 31 _ _ _); refine (hx1 _ (hM.vars HV.out)).mono ?_; rintro e _ ⟨rfl, hxx⟩; replace hM := hM.ext hxx; clear hxx)
    | ((with_reducible show Calls _ 13 _ _ _); refine (hx2 _ (hM.vars HV.out)).mono ?_; rintro e _ ⟨rfl, hxx⟩; replace hM := hM.ext hxx; clear hxx))
  go_ret
  exact ⟨rfl, hM.ext0⟩
set_option maxHeartbeats 1000000 in
set_option maxRecDepth 100000 in
theorem back_err_f (s : ByteArray) (hs : s.size ≤ 140737488351232) (c : Cmd) (hc : CmdW c) (hcn : c.name.size ≤ 140737488351232) (hct : c.text.size ≤ 140737488351232) (T : ByteArray) (hT : cutB s = T) (e0 a0 : Int) (ho : cmdOf T = .error (e0, a0)) (hb : okCmd (cutC c) = false) (w : World) (hv : Vars w) : Calls Tryz.prog 10 #[.string s, .agg (ccell c)] w fun e w' => e = .returned (.bool true) ∧ Ext w w' := by
  have hpl := cmdOf_place ho
  simp only at hpl
  have hne : (e0 == 0) = false := by
    rcases cmdOf_err ho with h | h <;> (simp only at h; rw [h]; rfl)
  have hc1 := fun w' h' => cmd_none ho w' h'
  have hz := zero_eq
  obtain ⟨hp0, hp1⟩ := hpl
  have hp2 : decide (a0 < 0) = false := by simp; omega
  have hp3 : decide ((T.size : Int) < a0) = false := by simp; omega
  clear ho
  have hx1 : ∀ w', Vars w' → Calls Tryz.prog 31 #[.agg (ccell (cutC c))] w' fun e w'' => e = .returned (.tuple #[.string ⟨#[]⟩, .int .i64 2]) ∧ Ext w' w'' := fun w' h' => by
    have := print_at (cutC_r hc) (cutC_w hc) hb w' h'
    simpa using this
  have hx3 : ∀ w', Vars w' → Calls Tryz.prog 33 #[.agg (ccell (cutC c))] w' fun e w'' => e = .returned (.int .i64 2) ∧ Ext w' w'' := fun w' h' => by
    have := check_at (cutC_r hc) (cutC_w hc) hb w' h'
    simpa using this
  clear hb
  have HT := Lib.hid hT; clear hT
  have HV := Lib.hid hv; clear hv
  clear hc
  have hM := Mem.start w NoS
  go_enter Tryz.func10, Tryz.ntmps10
  go_wp2_with (first
    | ((with_reducible show wpList _ _ _ _ _ (World.alloc _ (Obj.cells _ _))); apply wpList_named hM; clear hM; intro _ hM) | ((with_reducible show wpList _ _ _ (⟨_, .load _ _, _, _, _, _⟩ :: _) _ _); apply wpList_load1 hM; rfl; rfl; rfl; (focus (repeat (first | exact List.Mem.head _ | refine List.Mem.tail _ ?_))); (decide +kernel); (first | (focus fail) | rfl)) | ((with_reducible show wpList _ _ _ (⟨_, .load _ _, _, _, _, _⟩ :: _) _ _); apply wpList_loadA hM; rfl; rfl; rfl; (focus (repeat (first | exact List.Mem.head _ | refine List.Mem.tail _ ?_))); (decide +kernel); (first | (focus (first | with_reducible exact i27k _ | with_reducible exact i30 | kernel_rfl)) | kernel_rfl)) | ((with_reducible show wpList _ _ _ (⟨_, .store _ _ _, _, _, _, _⟩ :: _) _ _); apply wpList_store1 hM; rfl; rfl; rfl; (conv => lhs; whnf); (focus (repeat (first | exact Hole.head | apply Hole.tail))); (first | (focus (with_reducible rw [ccell_size]; decide)) | exact Nat.le_of_ble_eq_true rfl | (simp; done)); (decide +kernel); (first | rfl | assumption | (apply Mem.rowOne hM; (focus (repeat (first | exact List.Mem.head _ | refine List.Mem.tail _ ?_))))); clear hM; intro _ hM; (try dsimp only at hM); (try simp only [ccell_set1, ccell_set34, List.setIfInBounds_toArray, List.set_cons_zero, List.set_cons_succ] at hM); (try rw [cutC_fold] at hM)) | ((with_reducible show wpList _ _ _ (⟨_, .store _ _ _, _, _, _, _⟩ :: _) _ _); apply wpList_storeA hM; rfl; rfl; rfl; (first | rfl | (conv => lhs; whnf)); (focus (repeat (first | exact Hole.head | apply Hole.tail))); (first | (focus (first | (rw [ccell_size, ccell_size]; done) | (rw [ccell_size]; rfl) | rfl)) | rfl); (first | (focus (first | with_reducible exact i27k _ | with_reducible exact i30 | kernel_rfl)) | kernel_rfl); (first | (focus (first | with_reducible exact ccell_one _ | exact all_mk rfl)) | exact all_mk rfl); clear hM; intro _ hM; (try dsimp only at hM))
    | ((with_reducible show Calls _ 11 _ _ _); refine (wakes_any _ (hM.vars HV.out)).mono ?_; rintro e _ ⟨rfl, hx2⟩; replace hM := hM.ext hx2; clear hx2)
    | ((with_reducible show Calls _ 12 _ _ _); refine (cutB_any s (by omega) _).mono ?_; rintro e _ ⟨rfl, rfl⟩; rw [HT.out])
    | ((with_reducible show Calls _ 13 #[.string T] _ _); refine (hc1 _ (hM.vars HV.out)).mono ?_; rintro e _ ⟨rfl, hx2⟩; replace hM := hM.ext hx2; clear hx2))
  have hbk := (hM.blk (List.Mem.tail _ (List.Mem.tail _ (List.Mem.head _))))
  have c1 := hbk.cell (ccell_1 c)
  have c34 := hbk.cell (ccell_34 c)
  clear hbk
  refine wp_region_still_tail 7 (by kernel_rfl) (by kernel_rfl) ?_
  simp only [List.take_succ_cons, List.take_zero, List.drop_succ_cons, List.drop_zero]
  repeat still_step
  still_call (cutB_any c.name hcn _)
  repeat still_step
  still_call (cutB_any c.text hct _)
  repeat still_step
  refine wpStill_nil ?_
  replace hM := hM.drew
  go_wp2_with (first
    | ((with_reducible show wpList _ _ _ _ _ (World.alloc _ (Obj.cells _ _))); apply wpList_named hM; clear hM; intro _ hM) | ((with_reducible show wpList _ _ _ (⟨_, .load _ _, _, _, _, _⟩ :: _) _ _); apply wpList_load1 hM; rfl; rfl; rfl; (focus (repeat (first | exact List.Mem.head _ | refine List.Mem.tail _ ?_))); (decide +kernel); (first | (focus fail) | rfl)) | ((with_reducible show wpList _ _ _ (⟨_, .load _ _, _, _, _, _⟩ :: _) _ _); apply wpList_loadA hM; rfl; rfl; rfl; (focus (repeat (first | exact List.Mem.head _ | refine List.Mem.tail _ ?_))); (decide +kernel); (first | (focus (first | with_reducible exact i27k _ | with_reducible exact i30 | kernel_rfl)) | kernel_rfl)) | ((with_reducible show wpList _ _ _ (⟨_, .store _ _ _, _, _, _, _⟩ :: _) _ _); apply wpList_store1 hM; rfl; rfl; rfl; (conv => lhs; whnf); (focus (repeat (first | exact Hole.head | apply Hole.tail))); (first | (focus (with_reducible rw [ccell_size]; decide)) | exact Nat.le_of_ble_eq_true rfl | (simp; done)); (decide +kernel); (first | rfl | assumption | (apply Mem.rowOne hM; (focus (repeat (first | exact List.Mem.head _ | refine List.Mem.tail _ ?_))))); clear hM; intro _ hM; (try dsimp only at hM); (try simp only [ccell_set1, ccell_set34, List.setIfInBounds_toArray, List.set_cons_zero, List.set_cons_succ] at hM); (try rw [cutC_fold] at hM)) | ((with_reducible show wpList _ _ _ (⟨_, .store _ _ _, _, _, _, _⟩ :: _) _ _); apply wpList_storeA hM; rfl; rfl; rfl; (first | rfl | (conv => lhs; whnf)); (focus (repeat (first | exact Hole.head | apply Hole.tail))); (first | (focus (first | (rw [ccell_size, ccell_size]; done) | (rw [ccell_size]; rfl) | rfl)) | rfl); (first | (focus (first | with_reducible exact i27k _ | with_reducible exact i30 | kernel_rfl)) | kernel_rfl); (first | (focus (first | with_reducible exact ccell_one _ | exact all_mk rfl)) | exact all_mk rfl); clear hM; intro _ hM; (try dsimp only at hM))
    | ((with_reducible show Calls _ 31 _ _ _); refine (hx1 _ (hM.vars HV.out)).mono ?_; rintro e _ ⟨rfl, hxx⟩; replace hM := hM.ext hxx; clear hxx)
    | ((with_reducible show Calls _ 33 _ _ _); refine (hx3 _ (hM.vars HV.out)).mono ?_; rintro e _ ⟨rfl, hxx⟩; replace hM := hM.ext hxx; clear hxx))
  go_ret
  exact ⟨rfl, hM.ext0⟩
/-- LineBack -/
theorem LineBack_any (s : ByteArray) (hs : s.size ≤ 140737488351232) (c : Cmd) (hc : CmdW c) (hcn : c.name.size ≤ 140737488351232) (hct : c.text.size ≤ 140737488351232) (w : World) (hv : Vars w) : Calls Tryz.prog 10 #[.string s, .agg (ccell c)] w fun e w' => e = .returned (.bool true) ∧ Ext w w' := by
  cases hb : okCmd (cutC c) with
  | true =>
    obtain ⟨d', hd', hsm⟩ := ok_line hb
    cases ho : cmdOf (cutB s) with
    | ok d => exact back_ok_t s hs c hc hcn hct _ rfl d ho hb _ rfl d' hd' hsm w hv
    | error p => exact back_err_t s hs c hc hcn hct _ rfl p.1 p.2 ho hb _ rfl d' hd' hsm w hv
  | false =>
    cases ho : cmdOf (cutB s) with
    | ok d => exact back_ok_f s hs c hc hcn hct _ rfl d ho hb w hv
    | error p => exact back_err_f s hs c hc hcn hct _ rfl p.1 p.2 ho hb w hv
end Go.Proofs.YtigfkfjlfpndfaaGreatDoor
