/-
  The law's wakes and cut.
-/
import Derived.Test.YtigfkfjlfpndfaaGreatDoorPRep
import Derived.Test.YtigfkfjlfpndfaaGreatDoorPrint
namespace Go.Proofs.YtigfkfjlfpndfaaGreatDoor
open Go.RowKit Sp
abbrev sSend : ByteArray := ⟨#[115, 101, 110, 100, 32, 98, 111, 32, 104, 105, 32, 32, 116, 104, 101, 114, 101]⟩
def cSend : Cmd := { Cmd.zero with kind := 4, name := ⟨#[98, 111]⟩, text := ⟨#[104, 105, 32, 32, 116, 104, 101, 114, 101]⟩ }
theorem wake_cmd : cmdOf sSend = .ok cSend := by kernel_rfl
theorem wake_res : cmdRes sSend = (cSend, 0, 0) := by unfold cmdRes; rw [wake_cmd]
theorem cSend_lit : #[.int .i64 4, .string ⟨#[98, 111]⟩, cz, cz, cz, cz, cz, cz, cz, cz, cz, cz, cz, cz, cz, cz, cz, cz, cz, cz, cz, cz, cz, cz, cz, cz, cz, cz, cz, cz, cz, cz, cz, cz, .string ⟨#[104, 105, 32, 32, 116, 104, 101, 114, 101]⟩, .int .i64 0] = ccell cSend := by
  apply Array.toList_inj.1
  simp only [ccell, kcell, cSend, Cmd.zero, Array.toList_append]
  rfl
theorem rWake_lit : #[.int .i64 7, cz, cz, cz, cz, cz, cz, cz, cz, cz, cz, cz, cz, cz, cz, cz, cz, cz, cz, cz, cz, cz, cz, cz, cz, cz, cz, cz, cz, cz, cz, cz, cz, nilV, nilV, .int .i64 0, .int .i64 2, .int .i64 1, .int .i64 0, .int .i64 0] = pcell rWake nilV nilV := by
  apply Array.toList_inj.1
  simp only [pcell, kcell, rWake, Rep.zero, Array.toList_append]
  rfl
theorem cSend_w : CmdW cSend := ((cmdOf_ok wake_cmd).1).w
set_option maxHeartbeats 2000000 in
set_option maxRecDepth 100000 in
theorem wakes_any (w : World) (hv : Vars w) : Calls Tryz.prog 11 #[] w fun e w' => e = .returned (.bool true) ∧ Ext w w' := by
  have hcmd : ∀ w', Ext w w' → Calls Tryz.prog 13 #[.string sSend] w' fun e w'' => e = .returned (.tuple #[.agg (ccell cSend), .agg #[.int .i64 0, .int .i64 0]]) ∧ Ext w' w'' := fun w' h => (Command_any sSend w' (hv.ext h)).mono fun e w'' h' => by
    obtain ⟨h1, h2⟩ := h'
    rw [wake_res] at h1
    exact ⟨h1, h2⟩
  have hrep : ∀ w', Ext w w' → Calls Tryz.prog 16 #[.agg #[.int .i64 7, cz, cz, cz, cz, cz, cz, cz, cz, cz, cz, cz, cz, cz, cz, cz, cz, cz, cz, cz, cz, cz, cz, cz, cz, cz, cz, cz, cz, cz, cz, cz, cz, nilV, nilV, .int .i64 0, .int .i64 2, .int .i64 1, .int .i64 0, .int .i64 0]] w' fun e w'' => e = .returned (.tuple #[strV [115, 116, 97, 116, 117, 115, 32, 50, 32, 49, 32, 48], .int .i64 0]) ∧ Ext w' w'' := fun w' h => by
    rw [rWake_lit]; exact wake_reply w' (hv.ext h)
  have heq : ∀ w', (Op.equalIn 10000 27 (.agg (ccell cSend)) (.agg #[.int .i64 4, .string ⟨#[98, 111]⟩, cz, cz, cz, cz, cz, cz, cz, cz, cz, cz, cz, cz, cz, cz, cz, cz, cz, cz, cz, cz, cz, cz, cz, cz, cz, cz, cz, cz, cz, cz, cz, cz, .string ⟨#[104, 105, 32, 32, 116, 104, 101, 114, 101]⟩, .int .i64 0])).run Tryz.prog w' = .ok true w' := fun w' => by
    rw [cSend_lit]; exact cmd_eq_yes cSend_w cSend_w (same_refl _) w'
  have hM := Mem.start w NoS
  clear hv
  generalize hKK : ccell cSend = KK at *
  have HKK := Lib.hid hKK; clear hKK
  go_enter Tryz.func11, Tryz.ntmps11
  go_wp2_with (first
    | ((with_reducible show wpList _ _ _ _ _ (World.alloc _ (Obj.cells _ _))); apply wpList_named hM; clear hM; intro _ hM) | ((with_reducible show wpList _ _ _ (⟨_, .load _ _, _, _, _, _⟩ :: _) _ _); apply wpList_load1 hM; rfl; rfl; rfl; (focus (repeat (first | exact List.Mem.head _ | refine List.Mem.tail _ ?_))); (decide +kernel); (first | (focus fail) | rfl)) | ((with_reducible show wpList _ _ _ (⟨_, .load _ _, _, _, _, _⟩ :: _) _ _); apply wpList_loadA hM; rfl; rfl; rfl; (focus (repeat (first | exact List.Mem.head _ | refine List.Mem.tail _ ?_))); (decide +kernel); (first | (focus (first | exact (HKK.out ▸ i27k cSend) | with_reducible exact i27k _ | with_reducible exact i30 | kernel_rfl)) | kernel_rfl)) | ((with_reducible show wpList _ _ _ (⟨_, .store _ _ _, _, _, _, _⟩ :: _) _ _); apply wpList_store1 hM; rfl; rfl; rfl; (conv => lhs; whnf); (focus (repeat (first | exact Hole.head | apply Hole.tail))); (first | (focus fail) | exact Nat.le_of_ble_eq_true rfl | (simp; done)); (decide +kernel); (first | rfl | assumption | (apply Mem.rowOne hM; (focus (repeat (first | exact List.Mem.head _ | refine List.Mem.tail _ ?_))))); clear hM; intro _ hM; (try dsimp only at hM); (try simp only [List.setIfInBounds_toArray, List.set_cons_zero, List.set_cons_succ, List.nil_append, List.cons_append, List.length_map] at hM)) | ((with_reducible show wpList _ _ _ (⟨_, .store _ _ _, _, _, _, _⟩ :: _) _ _); apply wpList_storeA hM; rfl; rfl; rfl; (first | rfl | (conv => lhs; whnf)); (focus (repeat (first | exact Hole.head | apply Hole.tail))); (first | (focus (first | (rw [← HKK.out, ccell_size]; rfl) | rfl)) | rfl); (first | (focus (first | exact (HKK.out ▸ i27k cSend) | with_reducible exact i27k _ | with_reducible exact i30 | kernel_rfl)) | kernel_rfl); (first | (focus (first | exact (HKK.out ▸ ccell_one cSend) | exact all_mk rfl)) | exact all_mk rfl); clear hM; intro _ hM; (try dsimp only at hM))
    | ((with_reducible show Calls _ 13 _ _ _); refine (hcmd _ hM.ext0).mono ?_; rintro e _ ⟨rfl, hx2⟩; replace hM := hM.ext hx2; clear hx2)
    | ((with_reducible show Calls _ 16 _ _ _); refine (hrep _ hM.ext0).mono ?_; rintro e _ ⟨rfl, hx2⟩; replace hM := hM.ext hx2; clear hx2))
  go_ret
  exact ⟨rfl, hM.ext0⟩
end Go.Proofs.YtigfkfjlfpndfaaGreatDoor
