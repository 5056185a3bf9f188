/-
  line.printReply.
-/
import Derived.Test.YtigfkfjlfpndfaaGreatDoorReply
namespace Go.Proofs.YtigfkfjlfpndfaaGreatDoor
open Go.RowKit Sp
/-- the parts of a reply's line -/
def partsR (r : Rep) : List (List UInt8) :=
  if r.kind = 1 then [wMe, keyT r.key 32]
  else if r.kind = 2 then [wAdded]
  else if r.kind = 3 then wContacts :: Lib.itoa r.names.length :: r.names
  else if r.kind = 4 then [wQueued, Lib.itoa r.seq]
  else if r.kind = 5 then wInbox :: Lib.itoa r.texts.length :: r.texts.map quote
  else if r.kind = 6 then [wPurged]
  else if r.kind = 7 then [wStatus, Lib.itoa r.out, Lib.itoa r.acked, Lib.itoa r.inn]
  else if r.kind = 8 then [wError, (wordS r.err).getD []]
  else []
def lineR (r : Rep) : List UInt8 := Lib.join (partsR r) [32]
/-- a reply that is printed in time -/
structure RepR (r : Rep) : Prop where
  key : KeyR r.key
  seq : -9223372036854775808 ≤ r.seq ∧ r.seq ≤ 9223372036854775807
  out : -9223372036854775808 ≤ r.out ∧ r.out ≤ 9223372036854775807
  acked : -9223372036854775808 ≤ r.acked ∧ r.acked ≤ 9223372036854775807
  inn : -9223372036854775808 ≤ r.inn ∧ r.inn ≤ 9223372036854775807
  names : r.names.length ≤ 1000 ∧ ∀ p ∈ r.names, p.length ≤ 1000
  texts : r.texts.length ≤ 1000 ∧ ∀ p ∈ r.texts, p.length ≤ 1000


/-- the cells of a reply, told one by one -/
structure PC (r : Rep) (nv tv : Value) (K : Array Value) : Prop where
  i0 : K[0]? = some (.int .i64 r.kind)
  key : ∀ j, j < 32 → K[1 + j]? = (kcell r.key)[j]?
  i33 : K[33]? = some nv
  i34 : K[34]? = some tv
  i35 : K[35]? = some (.int .i64 r.seq)
  i36 : K[36]? = some (.int .i64 r.out)
  i37 : K[37]? = some (.int .i64 r.acked)
  i38 : K[38]? = some (.int .i64 r.inn)
  i39 : K[39]? = some (.int .i64 r.err)
  size : K.size = 40
theorem pc_of (r : Rep) (nv tv : Value) : PC r nv tv (pcell r nv tv) where
  i0 := by rw [pcell_get]; rfl
  key := fun j hj => by rw [pcell_get, kcell_at _ _ hj]; unfold pget; rw [if_neg (by omega), if_pos (by omega)]; congr 3; omega
  i33 := by rw [pcell_get]; rfl
  i34 := by rw [pcell_get]; rfl
  i35 := by rw [pcell_get]; rfl
  i36 := by rw [pcell_get]; rfl
  i37 := by rw [pcell_get]; rfl
  i38 := by rw [pcell_get]; rfl
  i39 := by rw [pcell_get]; rfl
  size := pcell_size r nv tv
theorem hmf (fn : Fn) (first cap : Array Value) (w : World) : (Instr.makeFunc fn first cap).run Tryz.prog w = .ok (.func fn first cap) w := rfl
/-- put, the words in a new block -/
theorem put_new {w0 : World} {S : Nat → Prop} {L : List Ent} {kb g c n : Nat} {v : Value} {xs : List Value} {own : Bool} {C : Array Value} {ty : TypeId} {w : World} (hM : Mem w0 S w (.blk own g C ty :: .blk true kb #[v] 34 :: .row w0.heap.size 9 v xs :: L)) 
    (hn : C.size = n) (h1 : (C.all fun x => x.oneCell') = true) (hp : 0 < n) (hl : xs.length + n ≤ 1000000) :
    Calls Tryz.prog 72 #[.slice (some ⟨g, 0, none⟩) n c, .pointer (some ⟨kb, 0, none⟩)] w fun e w' => e = .returned (.tuple #[]) ∧ ∃ v', Mem w0 S w' (.blk true kb #[v'] 34 :: .row w0.heap.size 9 v' (xs ++ C.toList) :: L) := by
  subst hn
  refine (put_any kb g c v xs own C ty _ hM.rot (List.Mem.head _) h1 hp hl).mono ?_
  rintro e w' ⟨rfl, v', h⟩
  exact ⟨rfl, v', h.rot.rot.drop1⟩
theorem join_mem {w0 : World} {S : Nat → Prop} {L : List Ent} {v : Value} {xs : List (List UInt8)} {w : World} (hM : Mem w0 S w L) (hi : Ent.row w0.heap.size 9 v (xs.map strV) ∈ L) (hl : (Lib.join xs [32]).length ≤ 100000000) (hn : xs.length ≤ 1000000) :
    Calls Tryz.prog 75 #[v, .string ⟨#[32]⟩] w fun e w' => e = .returned (strV (Lib.join xs [32])) ∧ Ext w w' := by
  have h : Own w w0.heap.size 9 v (strs (bas xs)) := by
    have := hM.theRow hi
    rwa [show strs (bas xs) = xs.map strV from by simp [strs, bas]]
  have e : (bas xs).map (·.data.toList) = xs := by unfold bas; rw [List.map_map]; exact List.map_id' xs
  refine (join_own w h (by rw [e]; exact hl) (by rw [bas_len]; exact hn)).mono ?_
  rintro e' w' ⟨rfl, hx⟩
  refine ⟨?_, hx⟩
  unfold joinB
  rw [e]
set_option maxHeartbeats 1000000 in
set_option maxRecDepth 100000 in
theorem pr_2 (r : Rep) (nv tv : Value) (hk : r.kind = 2) (w : World) : Calls Tryz.prog 46 #[.agg (pcell r nv tv)] w fun e w' => e = .returned (strV (lineR r)) ∧ Ext w w' := by
  have hM := Mem.start w NoS
  have HR := Lib.hid (show lineR r = Lib.join ([wAdded]) [32] by unfold lineR partsR; simp [hk])
  have HK := pc_of r nv tv
  have HK0 := Lib.hid HK.i0
  rw [hk] at HK0
  generalize pcell r nv tv = K at *
  clear hk
  have hmf := hmf
  go_enter Tryz.func46, Tryz.ntmps46
  go_wp2_with (first
    | ((with_reducible show wpList _ _ _ _ _ (World.alloc _ (Obj.cells #[Value.slice none 0 0] 34))); apply wpList_named hM; clear hM; intro _ hM; replace hM := (hM.nilRow 9 w.heap.size).swap)
    | ((with_reducible show wpList _ _ _ _ _ (World.alloc _ (Obj.cells _ _))); apply wpList_named hM; clear hM; intro _ hM) | ((with_reducible show wpList _ _ _ (⟨_, .load _ _, _, _, _, _⟩ :: _) _ _); apply wpList_load1 hM; rfl; rfl; rfl; (focus (repeat (first | exact List.Mem.head _ | refine List.Mem.tail _ ?_))); (decide +kernel); (first | (focus (first | exact HK0.out | exact HK.i33 | exact HK.i34 | exact HK.i35 | exact HK.i36 | exact HK.i37 | exact HK.i38 | exact HK.i39)) | rfl)) | ((with_reducible show wpList _ _ _ (⟨_, .load _ _, _, _, _, _⟩ :: _) _ _); apply wpList_loadA hM; rfl; rfl; rfl; (focus (repeat (first | exact List.Mem.head _ | refine List.Mem.tail _ ?_))); (decide +kernel); (first | (focus (first | with_reducible exact i36p _ _ _ | with_reducible exact i25k _)) | kernel_rfl)) | ((with_reducible show wpList _ _ _ (⟨_, .store _ _ _, _, _, _, _⟩ :: _) _ _); apply wpList_store1 hM; rfl; rfl; rfl; (conv => lhs; whnf); (focus (repeat (first | exact Hole.head | apply Hole.tail))); (first | (focus fail) | exact Nat.le_of_ble_eq_true rfl | (simp; done)); (decide +kernel); (first | rfl | assumption | (apply Mem.rowOne hM; (focus (repeat (first | exact List.Mem.head _ | refine List.Mem.tail _ ?_))))); clear hM; intro _ hM; (try dsimp only at hM); (try simp only [List.setIfInBounds_toArray, List.set_cons_zero, List.set_cons_succ, List.nil_append, List.cons_append, List.length_map] at hM)) | ((with_reducible show wpList _ _ _ (⟨_, .store _ _ _, _, _, _, _⟩ :: _) _ _); apply wpList_storeA hM; rfl; rfl; rfl; (first | rfl | (conv => lhs; whnf)); (focus (repeat (first | exact Hole.head | apply Hole.tail))); (first | (focus fail) | rfl); (first | (focus (first | with_reducible exact i36p _ _ _ | with_reducible exact i25k _)) | kernel_rfl); (first | (focus fail) | exact all_mk rfl); clear hM; intro _ hM; (try dsimp only at hM))
    | ((with_reducible show Calls _ 72 _ _ _); refine (put_new hM rfl (all_mk rfl) (Nat.le_of_ble_eq_true rfl) (Nat.le_of_ble_eq_true rfl)).mono ?_; rintro e _ ⟨rfl, v', hM⟩; (try simp only [List.nil_append, List.cons_append] at hM))
    | ((with_reducible show Calls _ 75 _ _ _); refine (join_mem (xs := [wAdded]) hM (List.Mem.tail _ (List.Mem.head _)) (by decide) (by decide)).mono ?_; rintro e w3 ⟨rfl, hx3⟩))
  go_ret
  exact ⟨by rw [HR.out]; rfl, hM.ext0.go hx3⟩
set_option maxHeartbeats 1000000 in
set_option maxRecDepth 100000 in
theorem pr_6 (r : Rep) (nv tv : Value) (hk : r.kind = 6) (w : World) : Calls Tryz.prog 46 #[.agg (pcell r nv tv)] w fun e w' => e = .returned (strV (lineR r)) ∧ Ext w w' := by
  have hM := Mem.start w NoS
  have HR := Lib.hid (show lineR r = Lib.join ([wPurged]) [32] by unfold lineR partsR; simp [hk])
  have HK := pc_of r nv tv
  have HK0 := Lib.hid HK.i0
  rw [hk] at HK0
  generalize pcell r nv tv = K at *
  clear hk
  have hmf := hmf
  go_enter Tryz.func46, Tryz.ntmps46
  go_wp2_with (first
    | ((with_reducible show wpList _ _ _ _ _ (World.alloc _ (Obj.cells #[Value.slice none 0 0] 34))); apply wpList_named hM; clear hM; intro _ hM; replace hM := (hM.nilRow 9 w.heap.size).swap)
    | ((with_reducible show wpList _ _ _ _ _ (World.alloc _ (Obj.cells _ _))); apply wpList_named hM; clear hM; intro _ hM) | ((with_reducible show wpList _ _ _ (⟨_, .load _ _, _, _, _, _⟩ :: _) _ _); apply wpList_load1 hM; rfl; rfl; rfl; (focus (repeat (first | exact List.Mem.head _ | refine List.Mem.tail _ ?_))); (decide +kernel); (first | (focus (first | exact HK0.out | exact HK.i33 | exact HK.i34 | exact HK.i35 | exact HK.i36 | exact HK.i37 | exact HK.i38 | exact HK.i39)) | rfl)) | ((with_reducible show wpList _ _ _ (⟨_, .load _ _, _, _, _, _⟩ :: _) _ _); apply wpList_loadA hM; rfl; rfl; rfl; (focus (repeat (first | exact List.Mem.head _ | refine List.Mem.tail _ ?_))); (decide +kernel); (first | (focus (first | with_reducible exact i36p _ _ _ | with_reducible exact i25k _)) | kernel_rfl)) | ((with_reducible show wpList _ _ _ (⟨_, .store _ _ _, _, _, _, _⟩ :: _) _ _); apply wpList_store1 hM; rfl; rfl; rfl; (conv => lhs; whnf); (focus (repeat (first | exact Hole.head | apply Hole.tail))); (first | (focus fail) | exact Nat.le_of_ble_eq_true rfl | (simp; done)); (decide +kernel); (first | rfl | assumption | (apply Mem.rowOne hM; (focus (repeat (first | exact List.Mem.head _ | refine List.Mem.tail _ ?_))))); clear hM; intro _ hM; (try dsimp only at hM); (try simp only [List.setIfInBounds_toArray, List.set_cons_zero, List.set_cons_succ, List.nil_append, List.cons_append, List.length_map] at hM)) | ((with_reducible show wpList _ _ _ (⟨_, .store _ _ _, _, _, _, _⟩ :: _) _ _); apply wpList_storeA hM; rfl; rfl; rfl; (first | rfl | (conv => lhs; whnf)); (focus (repeat (first | exact Hole.head | apply Hole.tail))); (first | (focus fail) | rfl); (first | (focus (first | with_reducible exact i36p _ _ _ | with_reducible exact i25k _)) | kernel_rfl); (first | (focus fail) | exact all_mk rfl); clear hM; intro _ hM; (try dsimp only at hM))
    | ((with_reducible show Calls _ 72 _ _ _); refine (put_new hM rfl (all_mk rfl) (Nat.le_of_ble_eq_true rfl) (Nat.le_of_ble_eq_true rfl)).mono ?_; rintro e _ ⟨rfl, v', hM⟩; (try simp only [List.nil_append, List.cons_append] at hM))
    | ((with_reducible show Calls _ 75 _ _ _); refine (join_mem (xs := [wPurged]) hM (List.Mem.tail _ (List.Mem.head _)) (by decide) (by decide)).mono ?_; rintro e w3 ⟨rfl, hx3⟩))
  go_ret
  exact ⟨by rw [HR.out]; rfl, hM.ext0.go hx3⟩
theorem itoa_short (n : Int) (h : -9223372036854775808 ≤ n ∧ n ≤ 9223372036854775807) : (Lib.itoa n).length ≤ 1000 := itoa_len n h.1 h.2
theorem join_short {xs : List (List UInt8)} (h : ∀ x ∈ xs, x.length ≤ 2100) (hn : xs.length ≤ 2000) : (Lib.join xs [32]).length ≤ 100000000 := by
  have := join_len xs 2100 h
  have : xs.length * (2100 + 1) ≤ 2000 * 2101 := Nat.mul_le_mul_right _ hn
  omega
set_option maxHeartbeats 1000000 in
set_option maxRecDepth 100000 in
theorem pr_4 (r : Rep) (nv tv : Value) (hk : r.kind = 4) (hs : -9223372036854775808 ≤ r.seq ∧ r.seq ≤ 9223372036854775807) (w : World) (hv : Vars w) : Calls Tryz.prog 46 #[.agg (pcell r nv tv)] w fun e w' => e = .returned (strV (lineR r)) ∧ Ext w w' := by
  have hM := Mem.start w NoS
  have HR := Lib.hid (show lineR r = Lib.join ([wQueued, Lib.itoa r.seq]) [32] by unfold lineR partsR; simp [hk])
  have HK := pc_of r nv tv
  have HK0 := Lib.hid HK.i0
  rw [hk] at HK0
  generalize pcell r nv tv = K at *
  clear hk
  have HV := Lib.hid hv; clear hv
  have hmf := hmf
  go_enter Tryz.func46, Tryz.ntmps46
  go_wp2_with (first
    | ((with_reducible show wpList _ _ _ _ _ (World.alloc _ (Obj.cells #[Value.slice none 0 0] 34))); apply wpList_named hM; clear hM; intro _ hM; replace hM := (hM.nilRow 9 w.heap.size).swap)
    | ((with_reducible show wpList _ _ _ _ _ (World.alloc _ (Obj.cells _ _))); apply wpList_named hM; clear hM; intro _ hM) | ((with_reducible show wpList _ _ _ (⟨_, .load _ _, _, _, _, _⟩ :: _) _ _); apply wpList_load1 hM; rfl; rfl; rfl; (focus (repeat (first | exact List.Mem.head _ | refine List.Mem.tail _ ?_))); (decide +kernel); (first | (focus (first | exact HK0.out | exact HK.i33 | exact HK.i34 | exact HK.i35 | exact HK.i36 | exact HK.i37 | exact HK.i38 | exact HK.i39)) | rfl)) | ((with_reducible show wpList _ _ _ (⟨_, .load _ _, _, _, _, _⟩ :: _) _ _); apply wpList_loadA hM; rfl; rfl; rfl; (focus (repeat (first | exact List.Mem.head _ | refine List.Mem.tail _ ?_))); (decide +kernel); (first | (focus (first | with_reducible exact i36p _ _ _ | with_reducible exact i25k _)) | kernel_rfl)) | ((with_reducible show wpList _ _ _ (⟨_, .store _ _ _, _, _, _, _⟩ :: _) _ _); apply wpList_store1 hM; rfl; rfl; rfl; (conv => lhs; whnf); (focus (repeat (first | exact Hole.head | apply Hole.tail))); (first | (focus fail) | exact Nat.le_of_ble_eq_true rfl | (simp; done)); (decide +kernel); (first | rfl | assumption | (apply Mem.rowOne hM; (focus (repeat (first | exact List.Mem.head _ | refine List.Mem.tail _ ?_))))); clear hM; intro _ hM; (try dsimp only at hM); (try simp only [List.setIfInBounds_toArray, List.set_cons_zero, List.set_cons_succ, List.nil_append, List.cons_append, List.length_map] at hM)) | ((with_reducible show wpList _ _ _ (⟨_, .store _ _ _, _, _, _, _⟩ :: _) _ _); apply wpList_storeA hM; rfl; rfl; rfl; (first | rfl | (conv => lhs; whnf)); (focus (repeat (first | exact Hole.head | apply Hole.tail))); (first | (focus fail) | rfl); (first | (focus (first | with_reducible exact i36p _ _ _ | with_reducible exact i25k _)) | kernel_rfl); (first | (focus fail) | exact all_mk rfl); clear hM; intro _ hM; (try dsimp only at hM))
    | ((with_reducible show Calls _ 72 _ _ _); refine (put_new hM rfl (all_mk rfl) (Nat.le_of_ble_eq_true rfl) (Nat.le_of_ble_eq_true rfl)).mono ?_; rintro e _ ⟨rfl, v', hM⟩; (try simp only [List.nil_append, List.cons_append] at hM))
    | ((with_reducible show Calls _ 74 _ _ _); refine (itoa_any _ hs.1 hs.2 _ (hM.vars HV.out)).mono ?_; rintro e w2 ⟨rfl, hx2⟩; replace hM := hM.ext hx2; clear hx2)
    | ((with_reducible show Calls _ 75 _ _ _); refine (join_mem (xs := [wQueued, Lib.itoa r.seq]) hM (List.Mem.tail _ (List.Mem.head _)) (join_short (by intro x hx; have := itoa_short _ hs; simp only [List.mem_cons, List.not_mem_nil, or_false] at hx; rcases hx with rfl | rfl; decide; omega) (by simp)) (by simp)).mono ?_; rintro e w3 ⟨rfl, hx3⟩))
  go_ret
  exact ⟨by rw [HR.out]; rfl, hM.ext0.go hx3⟩
set_option maxHeartbeats 1000000 in
set_option maxRecDepth 100000 in
theorem pr_1 (r : Rep) (nv tv : Value) (hk : r.kind = 1) (hf : KeyR r.key) (w : World) : Calls Tryz.prog 46 #[.agg (pcell r nv tv)] w fun e w' => e = .returned (strV (lineR r)) ∧ Ext w w' := by
  have hM := Mem.start w NoS
  have HR := Lib.hid (show lineR r = Lib.join ([wMe, keyT r.key 32]) [32] by unfold lineR partsR; simp [hk])
  have HK := pc_of r nv tv
  have HK0 := Lib.hid HK.i0
  rw [hk] at HK0
  generalize pcell r nv tv = K at *
  clear hk
  have hmf := hmf
  go_enter Tryz.func46, Tryz.ntmps46
  go_wp2_with (first
    | ((with_reducible show wpList _ _ _ _ _ (World.alloc _ (Obj.cells #[Value.slice none 0 0] 34))); apply wpList_named hM; clear hM; intro _ hM; replace hM := (hM.nilRow 9 w.heap.size).swap)
    | ((with_reducible show wpList _ _ _ (⟨_, .load 25 _, _, _, _, _⟩ :: _) _ _); apply wpList_loadN hM; rfl; rfl; rfl; (focus (repeat (first | exact List.Mem.head _ | refine List.Mem.tail _ ?_))); (decide +kernel); (exact i25k r.key); (intro j hj; rw [kcell_size] at hj; exact HK.key j hj))
    | ((with_reducible show wpList _ _ _ _ _ (World.alloc _ (Obj.cells _ _))); apply wpList_named hM; clear hM; intro _ hM) | ((with_reducible show wpList _ _ _ (⟨_, .load _ _, _, _, _, _⟩ :: _) _ _); apply wpList_load1 hM; rfl; rfl; rfl; (focus (repeat (first | exact List.Mem.head _ | refine List.Mem.tail _ ?_))); (decide +kernel); (first | (focus (first | exact HK0.out | exact HK.i33 | exact HK.i34 | exact HK.i35 | exact HK.i36 | exact HK.i37 | exact HK.i38 | exact HK.i39)) | rfl)) | ((with_reducible show wpList _ _ _ (⟨_, .load _ _, _, _, _, _⟩ :: _) _ _); apply wpList_loadA hM; rfl; rfl; rfl; (focus (repeat (first | exact List.Mem.head _ | refine List.Mem.tail _ ?_))); (decide +kernel); (first | (focus (first | with_reducible exact i36p _ _ _ | with_reducible exact i25k _)) | kernel_rfl)) | ((with_reducible show wpList _ _ _ (⟨_, .store _ _ _, _, _, _, _⟩ :: _) _ _); apply wpList_store1 hM; rfl; rfl; rfl; (conv => lhs; whnf); (focus (repeat (first | exact Hole.head | apply Hole.tail))); (first | (focus fail) | exact Nat.le_of_ble_eq_true rfl | (simp; done)); (decide +kernel); (first | rfl | assumption | (apply Mem.rowOne hM; (focus (repeat (first | exact List.Mem.head _ | refine List.Mem.tail _ ?_))))); clear hM; intro _ hM; (try dsimp only at hM); (try simp only [List.setIfInBounds_toArray, List.set_cons_zero, List.set_cons_succ, List.nil_append, List.cons_append, List.length_map] at hM)) | ((with_reducible show wpList _ _ _ (⟨_, .store _ _ _, _, _, _, _⟩ :: _) _ _); apply wpList_storeA hM; rfl; rfl; rfl; (first | rfl | (conv => lhs; whnf)); (focus (repeat (first | exact Hole.head | apply Hole.tail))); (first | (focus fail) | rfl); (first | (focus (first | with_reducible exact i36p _ _ _ | with_reducible exact i25k _)) | kernel_rfl); (first | (focus fail) | exact all_mk rfl); clear hM; intro _ hM; (try dsimp only at hM))
    | ((with_reducible show Calls _ 72 _ _ _); refine (put_new hM rfl (all_mk rfl) (Nat.le_of_ble_eq_true rfl) (Nat.le_of_ble_eq_true rfl)).mono ?_; rintro e _ ⟨rfl, v', hM⟩; (try simp only [List.nil_append, List.cons_append] at hM))
    | ((with_reducible show Calls _ 73 _ _ _); refine (Text_any _ hf _).mono ?_; rintro e w2 ⟨rfl, hx2⟩; replace hM := hM.ext hx2; clear hx2)
    | ((with_reducible show Calls _ 75 _ _ _); refine (join_mem (xs := [wMe, keyT r.key 32]) hM (List.Mem.tail _ (List.Mem.head _)) (join_short (by intro x hx; have := keyT_len r.key 32; simp only [List.mem_cons, List.not_mem_nil, or_false] at hx; rcases hx with rfl | rfl; decide; omega) (by simp)) (by simp)).mono ?_; rintro e w3 ⟨rfl, hx3⟩))
  go_ret
  exact ⟨by rw [HR.out]; rfl, hM.ext0.go hx3⟩
theorem kept7 {r : Rep} {nv tv : Value} {K : Array Value} (HK : PC r nv tv K) {w w' : World} {L : List Ent} {b : Nat} {o : Bool} (hM : Mem w NoS w' L) (hi : Ent.blk o b K 36 ∈ L) : w'.cell? ⟨b, 36, none⟩ = some (.int .i64 r.out) ∧ w'.cell? ⟨b, 37, none⟩ = some (.int .i64 r.acked) ∧ w'.cell? ⟨b, 38, none⟩ = some (.int .i64 r.inn) :=
  ⟨(hM.blk hi).cell HK.i36, (hM.blk hi).cell HK.i37, (hM.blk hi).cell HK.i38⟩
set_option maxHeartbeats 2000000 in
set_option maxRecDepth 100000 in
theorem pr_7 (r : Rep) (nv tv : Value) (hk : r.kind = 7) (ho : -9223372036854775808 ≤ r.out ∧ r.out ≤ 9223372036854775807) (ha : -9223372036854775808 ≤ r.acked ∧ r.acked ≤ 9223372036854775807) (hn : -9223372036854775808 ≤ r.inn ∧ r.inn ≤ 9223372036854775807) (w : World) (hv : Vars w) : Calls Tryz.prog 46 #[.agg (pcell r nv tv)] w fun e w' => e = .returned (strV (lineR r)) ∧ Ext w w' := by
  have hM := Mem.start w NoS
  have HR := Lib.hid (show lineR r = Lib.join [wStatus, Lib.itoa r.out, Lib.itoa r.acked, Lib.itoa r.inn] [32] by unfold lineR partsR; simp [hk])
  have HK := pc_of r nv tv
  have HK0 := Lib.hid HK.i0
  rw [hk] at HK0
  generalize pcell r nv tv = K at *
  clear hk
  have HV := Lib.hid hv; clear hv
  have hmf := hmf
  go_enter Tryz.func46, Tryz.ntmps46
  go_wp2_with (first
    | ((with_reducible show wpList _ _ _ _ _ (World.alloc _ (Obj.cells #[Value.slice none 0 0] 34))); apply wpList_named hM; clear hM; intro _ hM; replace hM := (hM.nilRow 9 w.heap.size).swap)
    | ((with_reducible show wpList _ _ _ _ _ (World.alloc _ (Obj.cells _ _))); apply wpList_named hM; clear hM; intro _ hM) | ((with_reducible show wpList _ _ _ (⟨_, .load _ _, _, _, _, _⟩ :: _) _ _); apply wpList_load1 hM; rfl; rfl; rfl; (focus (repeat (first | exact List.Mem.head _ | refine List.Mem.tail _ ?_))); (decide +kernel); (first | (focus (first | exact HK0.out | exact HK.i33 | exact HK.i34 | exact HK.i35 | exact HK.i36 | exact HK.i37 | exact HK.i38 | exact HK.i39)) | rfl)) | ((with_reducible show wpList _ _ _ (⟨_, .load _ _, _, _, _, _⟩ :: _) _ _); apply wpList_loadA hM; rfl; rfl; rfl; (focus (repeat (first | exact List.Mem.head _ | refine List.Mem.tail _ ?_))); (decide +kernel); (first | (focus (first | with_reducible exact i36p _ _ _ | with_reducible exact i25k _)) | kernel_rfl)) | ((with_reducible show wpList _ _ _ (⟨_, .store _ _ _, _, _, _, _⟩ :: _) _ _); apply wpList_store1 hM; rfl; rfl; rfl; (conv => lhs; whnf); (focus (repeat (first | exact Hole.head | apply Hole.tail))); (first | (focus fail) | exact Nat.le_of_ble_eq_true rfl | (simp; done)); (decide +kernel); (first | rfl | assumption | (apply Mem.rowOne hM; (focus (repeat (first | exact List.Mem.head _ | refine List.Mem.tail _ ?_))))); clear hM; intro _ hM; (try dsimp only at hM); (try simp only [List.setIfInBounds_toArray, List.set_cons_zero, List.set_cons_succ, List.nil_append, List.cons_append, List.length_map] at hM)) | ((with_reducible show wpList _ _ _ (⟨_, .store _ _ _, _, _, _, _⟩ :: _) _ _); apply wpList_storeA hM; rfl; rfl; rfl; (first | rfl | (conv => lhs; whnf)); (focus (repeat (first | exact Hole.head | apply Hole.tail))); (first | (focus fail) | rfl); (first | (focus (first | with_reducible exact i36p _ _ _ | with_reducible exact i25k _)) | kernel_rfl); (first | (focus fail) | exact all_mk rfl); clear hM; intro _ hM; (try dsimp only at hM)))
  have hM1 := hM.drew
  have hl1 := itoa_short _ ho
  have hl2 := itoa_short _ ha
  have hl3 := itoa_short _ hn
  go_region_held3 (fun w' => w'.cell? ⟨w.heap.size, 36, none⟩ = some (.int .i64 r.out) ∧ w'.cell? ⟨w.heap.size, 37, none⟩ = some (.int .i64 r.acked) ∧ w'.cell? ⟨w.heap.size, 38, none⟩ = some (.int .i64 r.inn))
    (first | exact kept7 HK hM1 (List.Mem.tail _ (List.Mem.tail _ (List.Mem.head _))) | exact kept7 HK (hM1.alloc _ _) (List.Mem.tail _ (List.Mem.tail _ (List.Mem.tail _ (List.Mem.head _)))))
    (first
      | ((with_reducible show Calls _ 74 _ _ _); refine (itoa_any _ (by omega) (by omega) _ (hM1.vars HV.out)).mono ?_; rintro e w2 ⟨rfl, hx2⟩; replace hM1 := hM1.ext hx2; clear hx2)
      | ((with_reducible show Calls _ 72 _ _ _); refine (put_new (hM1.alloc _ _) rfl (all_mk rfl) (Nat.le_of_ble_eq_true rfl) (Nat.le_of_ble_eq_true rfl)).mono ?_; rintro e _ ⟨rfl, v', hM1⟩))
  all_goals
    have hM := hM1
    (try simp only [List.nil_append] at hM)
    go_wp2_with (first
      | ((with_reducible show wpList _ _ _ _ _ (World.alloc _ (Obj.cells _ _))); apply wpList_named hM; clear hM; intro _ hM) | ((with_reducible show wpList _ _ _ (⟨_, .load _ _, _, _, _, _⟩ :: _) _ _); apply wpList_load1 hM; rfl; rfl; rfl; (focus (repeat (first | exact List.Mem.head _ | refine List.Mem.tail _ ?_))); (decide +kernel); (first | (focus (first | exact HK0.out | exact HK.i33 | exact HK.i34 | exact HK.i35 | exact HK.i36 | exact HK.i37 | exact HK.i38 | exact HK.i39)) | rfl)) | ((with_reducible show wpList _ _ _ (⟨_, .load _ _, _, _, _, _⟩ :: _) _ _); apply wpList_loadA hM; rfl; rfl; rfl; (focus (repeat (first | exact List.Mem.head _ | refine List.Mem.tail _ ?_))); (decide +kernel); (first | (focus (first | with_reducible exact i36p _ _ _ | with_reducible exact i25k _)) | kernel_rfl)) | ((with_reducible show wpList _ _ _ (⟨_, .store _ _ _, _, _, _, _⟩ :: _) _ _); apply wpList_store1 hM; rfl; rfl; rfl; (conv => lhs; whnf); (focus (repeat (first | exact Hole.head | apply Hole.tail))); (first | (focus fail) | exact Nat.le_of_ble_eq_true rfl | (simp; done)); (decide +kernel); (first | rfl | assumption | (apply Mem.rowOne hM; (focus (repeat (first | exact List.Mem.head _ | refine List.Mem.tail _ ?_))))); clear hM; intro _ hM; (try dsimp only at hM); (try simp only [List.setIfInBounds_toArray, List.set_cons_zero, List.set_cons_succ, List.nil_append, List.cons_append, List.length_map] at hM)) | ((with_reducible show wpList _ _ _ (⟨_, .store _ _ _, _, _, _, _⟩ :: _) _ _); apply wpList_storeA hM; rfl; rfl; rfl; (first | rfl | (conv => lhs; whnf)); (focus (repeat (first | exact Hole.head | apply Hole.tail))); (first | (focus fail) | rfl); (first | (focus (first | with_reducible exact i36p _ _ _ | with_reducible exact i25k _)) | kernel_rfl); (first | (focus fail) | exact all_mk rfl); clear hM; intro _ hM; (try dsimp only at hM))
      | ((with_reducible show Calls _ 75 _ _ _); refine (join_mem (xs := [wStatus, Lib.itoa r.out, Lib.itoa r.acked, Lib.itoa r.inn]) hM (List.Mem.tail _ (List.Mem.head _)) (join_short (by intro x hx; simp only [List.mem_cons, List.not_mem_nil, or_false] at hx; rcases hx with rfl | rfl | rfl | rfl; decide; omega; omega; omega) (by simp)) (by simp)).mono ?_; rintro e w3 ⟨rfl, hx3⟩))
    go_ret
    exact ⟨by rw [HR.out]; rfl, hM.ext0.go hx3⟩
set_option maxHeartbeats 2000000 in
set_option maxRecDepth 100000 in
theorem pr_none (r : Rep) (nv tv : Value) (hk : ¬ (1 ≤ r.kind ∧ r.kind ≤ 8)) (w : World) : Calls Tryz.prog 46 #[.agg (pcell r nv tv)] w fun e w' => e = .returned (strV (lineR r)) ∧ Ext w w' := by
  have hM := Mem.start w NoS
  have HR := Lib.hid (show lineR r = Lib.join [] [32] by
    unfold lineR partsR
    rw [if_neg (by omega), if_neg (by omega), if_neg (by omega), if_neg (by omega), if_neg (by omega), if_neg (by omega), if_neg (by omega), if_neg (by omega)])
  have HK := pc_of r nv tv
  have HK0 := Lib.hid HK.i0
  generalize pcell r nv tv = K at *
  have k1 : (r.kind == 1) = false := by simp; omega
  have k2 : (r.kind == 2) = false := by simp; omega
  have k3 : (r.kind == 3) = false := by simp; omega
  have k4 : (r.kind == 4) = false := by simp; omega
  have k5 : (r.kind == 5) = false := by simp; omega
  have k6 : (r.kind == 6) = false := by simp; omega
  have k7 : (r.kind == 7) = false := by simp; omega
  have k8 : (r.kind == 8) = false := by simp; omega
  clear hk
  have hmf := hmf
  go_enter Tryz.func46, Tryz.ntmps46
  go_wp2_with (first
    | ((with_reducible show wpList _ _ _ _ _ (World.alloc _ (Obj.cells #[Value.slice none 0 0] 34))); apply wpList_named hM; clear hM; intro _ hM; replace hM := (hM.nilRow 9 w.heap.size).swap)
    | ((with_reducible show wpList _ _ _ _ _ (World.alloc _ (Obj.cells _ _))); apply wpList_named hM; clear hM; intro _ hM) | ((with_reducible show wpList _ _ _ (⟨_, .load _ _, _, _, _, _⟩ :: _) _ _); apply wpList_load1 hM; rfl; rfl; rfl; (focus (repeat (first | exact List.Mem.head _ | refine List.Mem.tail _ ?_))); (decide +kernel); (first | (focus (first | exact HK0.out | exact HK.i33 | exact HK.i34 | exact HK.i35 | exact HK.i36 | exact HK.i37 | exact HK.i38 | exact HK.i39)) | rfl)) | ((with_reducible show wpList _ _ _ (⟨_, .load _ _, _, _, _, _⟩ :: _) _ _); apply wpList_loadA hM; rfl; rfl; rfl; (focus (repeat (first | exact List.Mem.head _ | refine List.Mem.tail _ ?_))); (decide +kernel); (first | (focus (first | with_reducible exact i36p _ _ _ | with_reducible exact i25k _)) | kernel_rfl)) | ((with_reducible show wpList _ _ _ (⟨_, .store _ _ _, _, _, _, _⟩ :: _) _ _); apply wpList_store1 hM; rfl; rfl; rfl; (conv => lhs; whnf); (focus (repeat (first | exact Hole.head | apply Hole.tail))); (first | (focus fail) | exact Nat.le_of_ble_eq_true rfl | (simp; done)); (decide +kernel); (first | rfl | assumption | (apply Mem.rowOne hM; (focus (repeat (first | exact List.Mem.head _ | refine List.Mem.tail _ ?_))))); clear hM; intro _ hM; (try dsimp only at hM); (try simp only [List.setIfInBounds_toArray, List.set_cons_zero, List.set_cons_succ, List.nil_append, List.cons_append, List.length_map] at hM)) | ((with_reducible show wpList _ _ _ (⟨_, .store _ _ _, _, _, _, _⟩ :: _) _ _); apply wpList_storeA hM; rfl; rfl; rfl; (first | rfl | (conv => lhs; whnf)); (focus (repeat (first | exact Hole.head | apply Hole.tail))); (first | (focus fail) | rfl); (first | (focus (first | with_reducible exact i36p _ _ _ | with_reducible exact i25k _)) | kernel_rfl); (first | (focus fail) | exact all_mk rfl); clear hM; intro _ hM; (try dsimp only at hM))
    | ((with_reducible show Calls _ 75 _ _ _); refine (join_mem (xs := []) hM (List.Mem.tail _ (List.Mem.head _)) (by decide) (by decide)).mono ?_; rintro e w3 ⟨rfl, hx3⟩))
  go_ret
  exact ⟨by rw [HR.out]; rfl, hM.ext0.go hx3⟩
end Go.Proofs.YtigfkfjlfpndfaaGreatDoor
