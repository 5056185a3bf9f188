/-
  printReply's closure put; strings.Builder's WriteByte, with memory as a list.
-/
import Derived.Test.YtigfkfjlfpndfaaGreatDoorHeap
import Derived.Test.YtigfkfjlfpndfaaGreatDoorBuild
import Derived.Test.YtigfkfjlfpndfaaGreatDoorWrite
namespace Go.Proofs.YtigfkfjlfpndfaaGreatDoor
open Go.RowKit Sp

set_option maxRecDepth 100000 in
/-- put: words behind a list -/
theorem put_any {w0 : World} {S : Nat → Prop} {L : List Ent} (kb g c : Nat) (v : Value) (xs : List Value) (own : Bool) (C : Array Value) (ty : TypeId) (w : World) (hM : Mem w0 S w (.blk true kb #[v] 34 :: .row w0.heap.size 9 v xs :: L)) 
    (hi : Ent.blk own g C ty ∈ L) (h1 : C.all (·.oneCell') = true) (hp : 0 < C.size) (hl : xs.length + C.size ≤ 1000000) :
    Calls Tryz.prog 72 #[.slice (some ⟨g, 0, none⟩) C.size c, .pointer (some ⟨kb, 0, none⟩)] w fun e w' => e = .returned (.tuple #[]) ∧ ∃ v', Mem w0 S w' (.blk true kb #[v'] 34 :: .row w0.heap.size 9 v' (xs ++ C.toList) :: L) := by
  go_enter Tryz.func72, Tryz.ntmps72
  go_wp2_with (first
    | ((with_reducible show wpList _ _ _ _ _ (World.alloc _ (Obj.cells _ _))); apply wpList_named hM; clear hM; intro _ hM) | ((with_reducible show wpList _ _ _ (⟨_, .load _ _, _, _, _, _⟩ :: _) _ _); apply wpList_load1 hM; rfl; rfl; rfl; (focus (repeat (first | exact List.Mem.head _ | refine List.Mem.tail _ ?_))); (decide +kernel); (first | (focus fail) | rfl)) | ((with_reducible show wpList _ _ _ (⟨_, .load _ _, _, _, _, _⟩ :: _) _ _); apply wpList_loadA hM; rfl; rfl; rfl; (focus (repeat (first | exact List.Mem.head _ | refine List.Mem.tail _ ?_))); (decide +kernel); (first | (focus fail) | kernel_rfl)) | ((with_reducible show wpList _ _ _ (⟨_, .store _ _ _, _, _, _, _⟩ :: _) _ _); apply wpList_store1 hM; rfl; rfl; rfl; (conv => lhs; whnf); (focus (repeat (first | exact Hole.head | apply Hole.tail))); (first | (focus fail) | exact Nat.le_of_ble_eq_true rfl | (simp; done)); (decide +kernel); (first | rfl | assumption | (apply Mem.rowOne hM; (focus (repeat (first | exact List.Mem.head _ | refine List.Mem.tail _ ?_))))); clear hM; intro _ hM; (try dsimp only at hM); (try simp only [List.setIfInBounds_toArray, List.set_cons_zero, List.set_cons_succ, List.nil_append, List.cons_append, List.length_map] at hM)) | ((with_reducible show wpList _ _ _ (⟨_, .store _ _ _, _, _, _, _⟩ :: _) _ _); apply wpList_storeA hM; rfl; rfl; rfl; (first | rfl | (conv => lhs; whnf)); (focus (repeat (first | exact Hole.head | apply Hole.tail))); (first | (focus fail) | rfl); (first | (focus fail) | kernel_rfl); (first | (focus exact h1) | exact all_mk rfl); clear hM; intro _ hM; (try dsimp only at hM))
    | (at_builtin; apply wpList_appB hM; rfl; rfl; (conv => lhs; whnf); rfl; (focus exact el34); (first | (focus exact List.Mem.tail _ (List.Mem.tail _ hi)) | (focus (repeat (first | exact List.Mem.head _ | refine List.Mem.tail _ ?_)))); (focus (repeat (first | exact Hole.head | apply Hole.tail))); rfl; (first | (focus exact hp) | decide | (simp; done)); (first | (focus exact h1) | exact all_mk rfl); (first | omega | (focus fail)); decide; clear hM; intro _ _ _ hM; (try dsimp only at hM); (try simp only [List.setIfInBounds_toArray, List.set_cons_zero, List.set_cons_succ, List.nil_append, List.cons_append, List.length_map] at hM))
    )
  go_end0
  exact ⟨rfl, _, hM⟩

theorem shape_of_blk {w : World} {b : Nat} {C : Array Value} {t : TypeId} (h : Blk w b C t) : w.shape? b = some (t, C.size) := by
  simp [World.shape?, h.out]
set_option maxRecDepth 100000 in
set_option maxHeartbeats 1000000 in
theorem wb_mem {w0 : World} {S : Nat → Prop} {L : List Ent} (b : Nat) (p v : Value) (bs : List Value) (c : Int) (w : World) (hM : Mem w0 S w (.blk true b #[p, v] 95 :: .row w0.heap.size 5 v bs :: L)) (hp : p = .pointer none ∨ p = .pointer (some ⟨b, 0, none⟩)) (hl : bs.length + 1 ≤ 1000000000) :
    Calls Tryz.prog 54 #[.pointer (some ⟨b, 0, none⟩), .int .u8 c] w fun e w' => e = .returned .nilIface ∧ ∃ v', Mem w0 S w' (.blk true b #[.pointer (some ⟨b, 0, none⟩), v'] 95 :: .row w0.heap.size 5 v' (bs ++ [.int .u8 c]) :: L) := by
  have hcc : Calls Tryz.prog 78 #[.pointer (some ⟨b, 0, none⟩)] w fun e w' => e = .returned (.tuple #[]) ∧ Mem w0 S w' (.blk true b #[.pointer (some ⟨b, 0, none⟩), v] 95 :: .row w0.heap.size 5 v bs :: L) := by
    have hb := hM.blk (List.Mem.head _)
    rcases hp with rfl | rfl
    · refine (copyCheck_fresh b w (hb.cell rfl) (shape_of_blk hb) (hb.free 0)).mono ?_
      rintro e w' ⟨rfl, rfl⟩
      exact ⟨rfl, hM.set 0 _ Upd.head⟩
    · refine (copyCheck_used b w (hb.cell rfl)).mono ?_
      rintro e w' ⟨rfl, rfl⟩
      exact ⟨rfl, hM⟩
  clear hM hp
  go_enter Tryz.func54, Tryz.ntmps54
  go_wp2_with (first
    | ((with_reducible show wpList _ _ _ _ _ (World.alloc _ (Obj.cells _ _))); apply wpList_named hM; clear hM; intro _ hM) | ((with_reducible show wpList _ _ _ (⟨_, .load _ _, _, _, _, _⟩ :: _) _ _); apply wpList_load1 hM; rfl; rfl; rfl; (focus (repeat (first | exact List.Mem.head _ | refine List.Mem.tail _ ?_))); (decide +kernel); (first | (focus fail) | rfl)) | ((with_reducible show wpList _ _ _ (⟨_, .load _ _, _, _, _, _⟩ :: _) _ _); apply wpList_loadA hM; rfl; rfl; rfl; (focus (repeat (first | exact List.Mem.head _ | refine List.Mem.tail _ ?_))); (decide +kernel); (first | (focus fail) | kernel_rfl)) | ((with_reducible show wpList _ _ _ (⟨_, .store _ _ _, _, _, _, _⟩ :: _) _ _); apply wpList_store1 hM; rfl; rfl; rfl; (conv => lhs; whnf); (focus (repeat (first | exact Hole.head | apply Hole.tail))); (first | (focus fail) | exact Nat.le_of_ble_eq_true rfl | (simp; done)); (decide +kernel); (first | rfl | assumption | (apply Mem.rowOne hM; (focus (repeat (first | exact List.Mem.head _ | refine List.Mem.tail _ ?_))))); clear hM; intro _ hM; (try dsimp only at hM); (try simp only [List.setIfInBounds_toArray, List.set_cons_zero, List.set_cons_succ, List.nil_append, List.cons_append, List.length_map] at hM)) | ((with_reducible show wpList _ _ _ (⟨_, .store _ _ _, _, _, _, _⟩ :: _) _ _); apply wpList_storeA hM; rfl; rfl; rfl; (first | rfl | (conv => lhs; whnf)); (focus (repeat (first | exact Hole.head | apply Hole.tail))); (first | (focus fail) | rfl); (first | (focus fail) | kernel_rfl); (first | (focus fail) | exact all_mk rfl); clear hM; intro _ hM; (try dsimp only at hM))
    | (at_builtin; apply wpList_appB hM; rfl; rfl; (conv => lhs; whnf); rfl; (focus exact el83); (first | (focus fail) | (focus (repeat (first | exact List.Mem.head _ | refine List.Mem.tail _ ?_)))); (focus (repeat (first | exact Hole.head | apply Hole.tail))); rfl; (first | (focus fail) | decide | (simp; done)); (first | (focus fail) | exact all_mk rfl); (first | omega | (focus fail)); decide; clear hM; intro _ _ _ hM; (try dsimp only at hM); (try simp only [List.setIfInBounds_toArray, List.set_cons_zero, List.set_cons_succ, List.nil_append, List.cons_append, List.length_map] at hM))
    | (go_at_call 78; refine hcc.mono ?_; rintro e w1 ⟨rfl, hM⟩)
    )
  go_ret
  exact ⟨rfl, _, hM.drop1⟩
end Go.Proofs.YtigfkfjlfpndfaaGreatDoor
