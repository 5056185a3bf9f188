/-
  line.reply and line.Reply, their second part.
-/
import Derived.Test.YtigfkfjlfpndfaaGreatDoorReply1
namespace Go.Proofs.YtigfkfjlfpndfaaGreatDoor
open Go.RowKit Sp
set_option maxHeartbeats 2000000 in
set_option maxRecDepth 100000 in
theorem reply_status3y (wd rest : ByteArray) (hl : rest.size ≤ 1000000) (more : Bool) (h0 : ¬ wd.data.toList = wAdded) (h1 : ¬ wd.data.toList = wPurged) (h2 : ¬ wd.data.toList = wMe) (h3 : ¬ wd.data.toList = wContacts) (h4 : ¬ wd.data.toList = wQueued) (h5 : ¬ wd.data.toList = wInbox) (h6 : wd.data.toList = wStatus) (a b c : List UInt8) (hs : spl (bl rest) = [a, b, c]) (ha : numB a = true) (hb : numB b = true) (hc : numB c = true) (w : World) (hv : Vars w) : Calls Tryz.prog 57 #[.string wd, .string rest, .bool more] w (RepP (some { Rep.zero with kind := 7, out := decV a, acked := decV b, inn := decV c }) w) := by
  have e0 := wEq_no h0
  have e1 := wEq_no h1
  have e2 := wEq_no h2
  have e3 := wEq_no h3
  have e4 := wEq_no h4
  have e5 := wEq_no h5
  have e6 := wEq_yes h6
  unfold wAdded at e0
  unfold wPurged at e1
  unfold wMe at e2
  unfold wContacts at e3
  unfold wQueued at e4
  unfold wInbox at e5
  unfold wStatus at e6
  clear h0 h1 h2 h3 h4 h5 h6
  have HV := Lib.hid hv; clear hv
  have hspl := fun w' h' => split_any rest hl w' h'
  have hlen : ∀ p ∈ spl (bl rest), p.length ≤ 1000000 := fun p hp => Nat.le_trans (spl_len (bl rest) p hp) hl
  rw [hs] at hspl hlen
  have hla := hlen a (by simp)
  have hlb := hlen b (by simp)
  have hlc := hlen c (by simp)
  clear hs hlen
  have Ha := Lib.hid ha; have Hb := Lib.hid hb; have Hc := Lib.hid hc; clear ha hb hc
  have hnuma : ∀ w', Vars w' → Calls Tryz.prog 69 #[strV a] w' fun e w'' => e = .returned (.tuple #[.int .i64 (decV a), .bool true]) ∧ Ext w' w'' := fun w' h' => (number_list a hla w' h').mono fun e w'' ⟨n, h1, h2, h3⟩ => ⟨by rw [h1, h2 Ha.out, Ha.out], h3⟩
  have hnumb : ∀ w', Vars w' → Calls Tryz.prog 69 #[strV b] w' fun e w'' => e = .returned (.tuple #[.int .i64 (decV b), .bool true]) ∧ Ext w' w'' := fun w' h' => (number_list b hlb w' h').mono fun e w'' ⟨n, h1, h2, h3⟩ => ⟨by rw [h1, h2 Hb.out, Hb.out], h3⟩
  have hnumc : ∀ w', Vars w' → Calls Tryz.prog 69 #[strV c] w' fun e w'' => e = .returned (.tuple #[.int .i64 (decV c), .bool true]) ∧ Ext w' w'' := fun w' h' => (number_list c hlc w' h').mono fun e w'' ⟨n, h1, h2, h3⟩ => ⟨by rw [h1, h2 Hc.out, Hc.out], h3⟩
  generalize (decV a : Int) = na at *
  generalize (decV b : Int) = nb at *
  generalize (decV c : Int) = nc at *
  have hM := Mem.start w NoS
  go_enter Tryz.func57, Tryz.ntmps57
  go_wp2_with (first
    | ((with_reducible show wpList _ _ _ _ _ (World.alloc _ (Obj.cells _ 36))); apply wpList_named hM; clear hM; intro _ hM; rw [pcell_zero 0] at hM)
    | ((with_reducible show wpList _ _ _ _ _ (World.alloc _ (Obj.cells _ _))); apply wpList_named hM; clear hM; intro _ hM) | ((with_reducible show wpList _ _ _ (⟨_, .load _ _, _, _, _, _⟩ :: _) _ _); apply wpList_load1 hM; rfl; rfl; rfl; (focus (repeat (first | exact List.Mem.head _ | refine List.Mem.tail _ ?_))); (decide +kernel); (first | (focus fail) | rfl)) | ((with_reducible show wpList _ _ _ (⟨_, .load _ _, _, _, _, _⟩ :: _) _ _); apply wpList_loadA hM; rfl; rfl; rfl; (focus (repeat (first | exact List.Mem.head _ | refine List.Mem.tail _ ?_))); (decide +kernel); (first | (focus with_reducible exact i36p _ _ _) | kernel_rfl)) | ((with_reducible show wpList _ _ _ (⟨_, .store _ _ _, _, _, _, _⟩ :: _) _ _); apply wpList_store1 hM; rfl; rfl; rfl; (conv => lhs; whnf); (focus (repeat (first | exact Hole.head | apply Hole.tail))); (first | (focus (with_reducible rw [pcell_size]; decide)) | exact Nat.le_of_ble_eq_true rfl | (simp; done)); (decide +kernel); (first | rfl | assumption | (apply Mem.rowOne hM; (focus (repeat (first | exact List.Mem.head _ | refine List.Mem.tail _ ?_))))); clear hM; intro _ hM; (try dsimp only at hM); (try simp only [pcell_set0, pcell_set33, pcell_set34, pcell_set35, pcell_set36, pcell_set37, pcell_set38, pcell_set39, List.setIfInBounds_toArray, List.set_cons_zero, List.set_cons_succ, List.nil_append, List.cons_append, List.length_map] at hM)) | ((with_reducible show wpList _ _ _ (⟨_, .store _ _ _, _, _, _, _⟩ :: _) _ _); apply wpList_storeA hM; rfl; rfl; rfl; (first | rfl | (conv => lhs; whnf)); (focus (repeat (first | exact Hole.head | apply Hole.tail))); (first | (focus (first | (rw [pcell_size, pcell_size]; done) | (rw [pcell_size]; done) | (rw [pcell_size]; rfl))) | rfl); (first | (focus with_reducible exact i36p _ _ _) | kernel_rfl); (first | (focus ((with_reducible refine pcell_one ?_ ?_); (first | rfl | assumption); (first | rfl | assumption))) | exact all_mk rfl); clear hM; intro _ hM; (try dsimp only at hM))
    | ((with_reducible show Calls _ 58 _ _ _); refine (hspl _ (hM.vars HV.out)).mono ?_; rintro e w2 ⟨rfl, rfl⟩)
    | ((with_reducible show Calls _ 69 #[strV a] _ _); refine (hnuma _ (hM.vars HV.out)).mono ?_; rintro e _ ⟨rfl, hx2⟩; replace hM := hM.ext hx2; clear hx2)
    | ((with_reducible show Calls _ 69 #[strV b] _ _); refine (hnumb _ (hM.vars HV.out)).mono ?_; rintro e _ ⟨rfl, hx2⟩; replace hM := hM.ext hx2; clear hx2)
    | ((with_reducible show Calls _ 69 #[strV c] _ _); refine (hnumc _ (hM.vars HV.out)).mono ?_; rintro e _ ⟨rfl, hx2⟩; replace hM := hM.ext hx2; clear hx2))
  exact rep_yes rfl hM (List.Mem.tail _ (List.Mem.head _)) rfl rfl rfl (SlR.nil _ _) (SlR.nil _ _)
set_option maxHeartbeats 2000000 in
set_option maxRecDepth 100000 in
theorem reply_status3a (wd rest : ByteArray) (hl : rest.size ≤ 1000000) (more : Bool) (h0 : ¬ wd.data.toList = wAdded) (h1 : ¬ wd.data.toList = wPurged) (h2 : ¬ wd.data.toList = wMe) (h3 : ¬ wd.data.toList = wContacts) (h4 : ¬ wd.data.toList = wQueued) (h5 : ¬ wd.data.toList = wInbox) (h6 : wd.data.toList = wStatus) (a b c : List UInt8) (hs : spl (bl rest) = [a, b, c]) (ha : numB a = false) (w : World) (hv : Vars w) : Calls Tryz.prog 57 #[.string wd, .string rest, .bool more] w (RepP none w) := by
  have e0 := wEq_no h0
  have e1 := wEq_no h1
  have e2 := wEq_no h2
  have e3 := wEq_no h3
  have e4 := wEq_no h4
  have e5 := wEq_no h5
  have e6 := wEq_yes h6
  unfold wAdded at e0
  unfold wPurged at e1
  unfold wMe at e2
  unfold wContacts at e3
  unfold wQueued at e4
  unfold wInbox at e5
  unfold wStatus at e6
  clear h0 h1 h2 h3 h4 h5 h6
  have HV := Lib.hid hv; clear hv
  have hspl := fun w' h' => split_any rest hl w' h'
  have hlen : ∀ p ∈ spl (bl rest), p.length ≤ 1000000 := fun p hp => Nat.le_trans (spl_len (bl rest) p hp) hl
  rw [hs] at hspl hlen
  have hla := hlen a (by simp)
  have hlb := hlen b (by simp)
  have hlc := hlen c (by simp)
  clear hs hlen
  have Ha := Lib.hid ha; clear ha
  have hnuma : ∀ w', Vars w' → Calls Tryz.prog 69 #[strV a] w' fun e w'' => (∃ n : Int, e = .returned (.tuple #[.int .i64 n, .bool (numB a)])) ∧ Ext w' w'' := fun w' h' => (number_list a hla w' h').mono fun e w'' ⟨n, h1, h2, h3⟩ => ⟨⟨n, h1⟩, h3⟩
  have hnumb : ∀ w', Vars w' → Calls Tryz.prog 69 #[strV b] w' fun e w'' => (∃ n : Int, e = .returned (.tuple #[.int .i64 n, .bool (numB b)])) ∧ Ext w' w'' := fun w' h' => (number_list b hlb w' h').mono fun e w'' ⟨n, h1, h2, h3⟩ => ⟨⟨n, h1⟩, h3⟩
  have hnumc : ∀ w', Vars w' → Calls Tryz.prog 69 #[strV c] w' fun e w'' => (∃ n : Int, e = .returned (.tuple #[.int .i64 n, .bool (numB c)])) ∧ Ext w' w'' := fun w' h' => (number_list c hlc w' h').mono fun e w'' ⟨n, h1, h2, h3⟩ => ⟨⟨n, h1⟩, h3⟩
  rw [Ha.out] at hnuma
  have hM := Mem.start w NoS
  go_enter Tryz.func57, Tryz.ntmps57
  go_wp2_with (first
    | ((with_reducible show wpList _ _ _ _ _ (World.alloc _ (Obj.cells _ 36))); apply wpList_named hM; clear hM; intro _ hM; rw [pcell_zero 0] at hM)
    | ((with_reducible show wpList _ _ _ _ _ (World.alloc _ (Obj.cells _ _))); apply wpList_named hM; clear hM; intro _ hM) | ((with_reducible show wpList _ _ _ (⟨_, .load _ _, _, _, _, _⟩ :: _) _ _); apply wpList_load1 hM; rfl; rfl; rfl; (focus (repeat (first | exact List.Mem.head _ | refine List.Mem.tail _ ?_))); (decide +kernel); (first | (focus fail) | rfl)) | ((with_reducible show wpList _ _ _ (⟨_, .load _ _, _, _, _, _⟩ :: _) _ _); apply wpList_loadA hM; rfl; rfl; rfl; (focus (repeat (first | exact List.Mem.head _ | refine List.Mem.tail _ ?_))); (decide +kernel); (first | (focus with_reducible exact i36p _ _ _) | kernel_rfl)) | ((with_reducible show wpList _ _ _ (⟨_, .store _ _ _, _, _, _, _⟩ :: _) _ _); apply wpList_store1 hM; rfl; rfl; rfl; (conv => lhs; whnf); (focus (repeat (first | exact Hole.head | apply Hole.tail))); (first | (focus (with_reducible rw [pcell_size]; decide)) | exact Nat.le_of_ble_eq_true rfl | (simp; done)); (decide +kernel); (first | rfl | assumption | (apply Mem.rowOne hM; (focus (repeat (first | exact List.Mem.head _ | refine List.Mem.tail _ ?_))))); clear hM; intro _ hM; (try dsimp only at hM); (try simp only [pcell_set0, pcell_set33, pcell_set34, pcell_set35, pcell_set36, pcell_set37, pcell_set38, pcell_set39, List.setIfInBounds_toArray, List.set_cons_zero, List.set_cons_succ, List.nil_append, List.cons_append, List.length_map] at hM)) | ((with_reducible show wpList _ _ _ (⟨_, .store _ _ _, _, _, _, _⟩ :: _) _ _); apply wpList_storeA hM; rfl; rfl; rfl; (first | rfl | (conv => lhs; whnf)); (focus (repeat (first | exact Hole.head | apply Hole.tail))); (first | (focus (first | (rw [pcell_size, pcell_size]; done) | (rw [pcell_size]; done) | (rw [pcell_size]; rfl))) | rfl); (first | (focus with_reducible exact i36p _ _ _) | kernel_rfl); (first | (focus ((with_reducible refine pcell_one ?_ ?_); (first | rfl | assumption); (first | rfl | assumption))) | exact all_mk rfl); clear hM; intro _ hM; (try dsimp only at hM))
    | ((with_reducible show Calls _ 58 _ _ _); refine (hspl _ (hM.vars HV.out)).mono ?_; rintro e w2 ⟨rfl, rfl⟩)
    | ((with_reducible show Calls _ 69 #[strV a] _ _); refine (hnuma _ (hM.vars HV.out)).mono ?_; rintro e _ ⟨⟨na, rfl⟩, hx2⟩; replace hM := hM.ext hx2; clear hx2)
    | ((with_reducible show Calls _ 69 #[strV b] _ _); refine (hnumb _ (hM.vars HV.out)).mono ?_; rintro e _ ⟨⟨nb, rfl⟩, hx2⟩; replace hM := hM.ext hx2; clear hx2)
    | ((with_reducible show Calls _ 69 #[strV c] _ _); refine (hnumc _ (hM.vars HV.out)).mono ?_; rintro e _ ⟨⟨nc, rfl⟩, hx2⟩; replace hM := hM.ext hx2; clear hx2))
  exact rep_no rfl hM (List.Mem.tail _ (List.Mem.head _)) rfl rfl rfl rfl rfl
set_option maxHeartbeats 2000000 in
set_option maxRecDepth 100000 in
theorem reply_status3b (wd rest : ByteArray) (hl : rest.size ≤ 1000000) (more : Bool) (h0 : ¬ wd.data.toList = wAdded) (h1 : ¬ wd.data.toList = wPurged) (h2 : ¬ wd.data.toList = wMe) (h3 : ¬ wd.data.toList = wContacts) (h4 : ¬ wd.data.toList = wQueued) (h5 : ¬ wd.data.toList = wInbox) (h6 : wd.data.toList = wStatus) (a b c : List UInt8) (hs : spl (bl rest) = [a, b, c]) (ha : numB a = true) (hb : numB b = false) (w : World) (hv : Vars w) : Calls Tryz.prog 57 #[.string wd, .string rest, .bool more] w (RepP none w) := by
  have e0 := wEq_no h0
  have e1 := wEq_no h1
  have e2 := wEq_no h2
  have e3 := wEq_no h3
  have e4 := wEq_no h4
  have e5 := wEq_no h5
  have e6 := wEq_yes h6
  unfold wAdded at e0
  unfold wPurged at e1
  unfold wMe at e2
  unfold wContacts at e3
  unfold wQueued at e4
  unfold wInbox at e5
  unfold wStatus at e6
  clear h0 h1 h2 h3 h4 h5 h6
  have HV := Lib.hid hv; clear hv
  have hspl := fun w' h' => split_any rest hl w' h'
  have hlen : ∀ p ∈ spl (bl rest), p.length ≤ 1000000 := fun p hp => Nat.le_trans (spl_len (bl rest) p hp) hl
  rw [hs] at hspl hlen
  have hla := hlen a (by simp)
  have hlb := hlen b (by simp)
  have hlc := hlen c (by simp)
  clear hs hlen
  have Ha := Lib.hid ha; clear ha
  have Hb := Lib.hid hb; clear hb
  have hnuma : ∀ w', Vars w' → Calls Tryz.prog 69 #[strV a] w' fun e w'' => (∃ n : Int, e = .returned (.tuple #[.int .i64 n, .bool (numB a)])) ∧ Ext w' w'' := fun w' h' => (number_list a hla w' h').mono fun e w'' ⟨n, h1, h2, h3⟩ => ⟨⟨n, h1⟩, h3⟩
  have hnumb : ∀ w', Vars w' → Calls Tryz.prog 69 #[strV b] w' fun e w'' => (∃ n : Int, e = .returned (.tuple #[.int .i64 n, .bool (numB b)])) ∧ Ext w' w'' := fun w' h' => (number_list b hlb w' h').mono fun e w'' ⟨n, h1, h2, h3⟩ => ⟨⟨n, h1⟩, h3⟩
  have hnumc : ∀ w', Vars w' → Calls Tryz.prog 69 #[strV c] w' fun e w'' => (∃ n : Int, e = .returned (.tuple #[.int .i64 n, .bool (numB c)])) ∧ Ext w' w'' := fun w' h' => (number_list c hlc w' h').mono fun e w'' ⟨n, h1, h2, h3⟩ => ⟨⟨n, h1⟩, h3⟩
  rw [Ha.out] at hnuma
  rw [Hb.out] at hnumb
  have hM := Mem.start w NoS
  go_enter Tryz.func57, Tryz.ntmps57
  go_wp2_with (first
    | ((with_reducible show wpList _ _ _ _ _ (World.alloc _ (Obj.cells _ 36))); apply wpList_named hM; clear hM; intro _ hM; rw [pcell_zero 0] at hM)
    | ((with_reducible show wpList _ _ _ _ _ (World.alloc _ (Obj.cells _ _))); apply wpList_named hM; clear hM; intro _ hM) | ((with_reducible show wpList _ _ _ (⟨_, .load _ _, _, _, _, _⟩ :: _) _ _); apply wpList_load1 hM; rfl; rfl; rfl; (focus (repeat (first | exact List.Mem.head _ | refine List.Mem.tail _ ?_))); (decide +kernel); (first | (focus fail) | rfl)) | ((with_reducible show wpList _ _ _ (⟨_, .load _ _, _, _, _, _⟩ :: _) _ _); apply wpList_loadA hM; rfl; rfl; rfl; (focus (repeat (first | exact List.Mem.head _ | refine List.Mem.tail _ ?_))); (decide +kernel); (first | (focus with_reducible exact i36p _ _ _) | kernel_rfl)) | ((with_reducible show wpList _ _ _ (⟨_, .store _ _ _, _, _, _, _⟩ :: _) _ _); apply wpList_store1 hM; rfl; rfl; rfl; (conv => lhs; whnf); (focus (repeat (first | exact Hole.head | apply Hole.tail))); (first | (focus (with_reducible rw [pcell_size]; decide)) | exact Nat.le_of_ble_eq_true rfl | (simp; done)); (decide +kernel); (first | rfl | assumption | (apply Mem.rowOne hM; (focus (repeat (first | exact List.Mem.head _ | refine List.Mem.tail _ ?_))))); clear hM; intro _ hM; (try dsimp only at hM); (try simp only [pcell_set0, pcell_set33, pcell_set34, pcell_set35, pcell_set36, pcell_set37, pcell_set38, pcell_set39, List.setIfInBounds_toArray, List.set_cons_zero, List.set_cons_succ, List.nil_append, List.cons_append, List.length_map] at hM)) | ((with_reducible show wpList _ _ _ (⟨_, .store _ _ _, _, _, _, _⟩ :: _) _ _); apply wpList_storeA hM; rfl; rfl; rfl; (first | rfl | (conv => lhs; whnf)); (focus (repeat (first | exact Hole.head | apply Hole.tail))); (first | (focus (first | (rw [pcell_size, pcell_size]; done) | (rw [pcell_size]; done) | (rw [pcell_size]; rfl))) | rfl); (first | (focus with_reducible exact i36p _ _ _) | kernel_rfl); (first | (focus ((with_reducible refine pcell_one ?_ ?_); (first | rfl | assumption); (first | rfl | assumption))) | exact all_mk rfl); clear hM; intro _ hM; (try dsimp only at hM))
    | ((with_reducible show Calls _ 58 _ _ _); refine (hspl _ (hM.vars HV.out)).mono ?_; rintro e w2 ⟨rfl, rfl⟩)
    | ((with_reducible show Calls _ 69 #[strV a] _ _); refine (hnuma _ (hM.vars HV.out)).mono ?_; rintro e _ ⟨⟨na, rfl⟩, hx2⟩; replace hM := hM.ext hx2; clear hx2)
    | ((with_reducible show Calls _ 69 #[strV b] _ _); refine (hnumb _ (hM.vars HV.out)).mono ?_; rintro e _ ⟨⟨nb, rfl⟩, hx2⟩; replace hM := hM.ext hx2; clear hx2)
    | ((with_reducible show Calls _ 69 #[strV c] _ _); refine (hnumc _ (hM.vars HV.out)).mono ?_; rintro e _ ⟨⟨nc, rfl⟩, hx2⟩; replace hM := hM.ext hx2; clear hx2))
  exact rep_no rfl hM (List.Mem.tail _ (List.Mem.head _)) rfl rfl rfl rfl rfl
set_option maxHeartbeats 2000000 in
set_option maxRecDepth 100000 in
theorem reply_status3c (wd rest : ByteArray) (hl : rest.size ≤ 1000000) (more : Bool) (h0 : ¬ wd.data.toList = wAdded) (h1 : ¬ wd.data.toList = wPurged) (h2 : ¬ wd.data.toList = wMe) (h3 : ¬ wd.data.toList = wContacts) (h4 : ¬ wd.data.toList = wQueued) (h5 : ¬ wd.data.toList = wInbox) (h6 : wd.data.toList = wStatus) (a b c : List UInt8) (hs : spl (bl rest) = [a, b, c]) (ha : numB a = true) (hb : numB b = true) (hc : numB c = false) (w : World) (hv : Vars w) : Calls Tryz.prog 57 #[.string wd, .string rest, .bool more] w (RepP none w) := by
  have e0 := wEq_no h0
  have e1 := wEq_no h1
  have e2 := wEq_no h2
  have e3 := wEq_no h3
  have e4 := wEq_no h4
  have e5 := wEq_no h5
  have e6 := wEq_yes h6
  unfold wAdded at e0
  unfold wPurged at e1
  unfold wMe at e2
  unfold wContacts at e3
  unfold wQueued at e4
  unfold wInbox at e5
  unfold wStatus at e6
  clear h0 h1 h2 h3 h4 h5 h6
  have HV := Lib.hid hv; clear hv
  have hspl := fun w' h' => split_any rest hl w' h'
  have hlen : ∀ p ∈ spl (bl rest), p.length ≤ 1000000 := fun p hp => Nat.le_trans (spl_len (bl rest) p hp) hl
  rw [hs] at hspl hlen
  have hla := hlen a (by simp)
  have hlb := hlen b (by simp)
  have hlc := hlen c (by simp)
  clear hs hlen
  have Ha := Lib.hid ha; clear ha
  have Hb := Lib.hid hb; clear hb
  have Hc := Lib.hid hc; clear hc
  have hnuma : ∀ w', Vars w' → Calls Tryz.prog 69 #[strV a] w' fun e w'' => (∃ n : Int, e = .returned (.tuple #[.int .i64 n, .bool (numB a)])) ∧ Ext w' w'' := fun w' h' => (number_list a hla w' h').mono fun e w'' ⟨n, h1, h2, h3⟩ => ⟨⟨n, h1⟩, h3⟩
  have hnumb : ∀ w', Vars w' → Calls Tryz.prog 69 #[strV b] w' fun e w'' => (∃ n : Int, e = .returned (.tuple #[.int .i64 n, .bool (numB b)])) ∧ Ext w' w'' := fun w' h' => (number_list b hlb w' h').mono fun e w'' ⟨n, h1, h2, h3⟩ => ⟨⟨n, h1⟩, h3⟩
  have hnumc : ∀ w', Vars w' → Calls Tryz.prog 69 #[strV c] w' fun e w'' => (∃ n : Int, e = .returned (.tuple #[.int .i64 n, .bool (numB c)])) ∧ Ext w' w'' := fun w' h' => (number_list c hlc w' h').mono fun e w'' ⟨n, h1, h2, h3⟩ => ⟨⟨n, h1⟩, h3⟩
  rw [Ha.out] at hnuma
  rw [Hb.out] at hnumb
  rw [Hc.out] at hnumc
  have hM := Mem.start w NoS
  go_enter Tryz.func57, Tryz.ntmps57
  go_wp2_with (first
    | ((with_reducible show wpList _ _ _ _ _ (World.alloc _ (Obj.cells _ 36))); apply wpList_named hM; clear hM; intro _ hM; rw [pcell_zero 0] at hM)
    | ((with_reducible show wpList _ _ _ _ _ (World.alloc _ (Obj.cells _ _))); apply wpList_named hM; clear hM; intro _ hM) | ((with_reducible show wpList _ _ _ (⟨_, .load _ _, _, _, _, _⟩ :: _) _ _); apply wpList_load1 hM; rfl; rfl; rfl; (focus (repeat (first | exact List.Mem.head _ | refine List.Mem.tail _ ?_))); (decide +kernel); (first | (focus fail) | rfl)) | ((with_reducible show wpList _ _ _ (⟨_, .load _ _, _, _, _, _⟩ :: _) _ _); apply wpList_loadA hM; rfl; rfl; rfl; (focus (repeat (first | exact List.Mem.head _ | refine List.Mem.tail _ ?_))); (decide +kernel); (first | (focus with_reducible exact i36p _ _ _) | kernel_rfl)) | ((with_reducible show wpList _ _ _ (⟨_, .store _ _ _, _, _, _, _⟩ :: _) _ _); apply wpList_store1 hM; rfl; rfl; rfl; (conv => lhs; whnf); (focus (repeat (first | exact Hole.head | apply Hole.tail))); (first | (focus (with_reducible rw [pcell_size]; decide)) | exact Nat.le_of_ble_eq_true rfl | (simp; done)); (decide +kernel); (first | rfl | assumption | (apply Mem.rowOne hM; (focus (repeat (first | exact List.Mem.head _ | refine List.Mem.tail _ ?_))))); clear hM; intro _ hM; (try dsimp only at hM); (try simp only [pcell_set0, pcell_set33, pcell_set34, pcell_set35, pcell_set36, pcell_set37, pcell_set38, pcell_set39, List.setIfInBounds_toArray, List.set_cons_zero, List.set_cons_succ, List.nil_append, List.cons_append, List.length_map] at hM)) | ((with_reducible show wpList _ _ _ (⟨_, .store _ _ _, _, _, _, _⟩ :: _) _ _); apply wpList_storeA hM; rfl; rfl; rfl; (first | rfl | (conv => lhs; whnf)); (focus (repeat (first | exact Hole.head | apply Hole.tail))); (first | (focus (first | (rw [pcell_size, pcell_size]; done) | (rw [pcell_size]; done) | (rw [pcell_size]; rfl))) | rfl); (first | (focus with_reducible exact i36p _ _ _) | kernel_rfl); (first | (focus ((with_reducible refine pcell_one ?_ ?_); (first | rfl | assumption); (first | rfl | assumption))) | exact all_mk rfl); clear hM; intro _ hM; (try dsimp only at hM))
    | ((with_reducible show Calls _ 58 _ _ _); refine (hspl _ (hM.vars HV.out)).mono ?_; rintro e w2 ⟨rfl, rfl⟩)
    | ((with_reducible show Calls _ 69 #[strV a] _ _); refine (hnuma _ (hM.vars HV.out)).mono ?_; rintro e _ ⟨⟨na, rfl⟩, hx2⟩; replace hM := hM.ext hx2; clear hx2)
    | ((with_reducible show Calls _ 69 #[strV b] _ _); refine (hnumb _ (hM.vars HV.out)).mono ?_; rintro e _ ⟨⟨nb, rfl⟩, hx2⟩; replace hM := hM.ext hx2; clear hx2)
    | ((with_reducible show Calls _ 69 #[strV c] _ _); refine (hnumc _ (hM.vars HV.out)).mono ?_; rintro e _ ⟨⟨nc, rfl⟩, hx2⟩; replace hM := hM.ext hx2; clear hx2))
  exact rep_no rfl hM (List.Mem.tail _ (List.Mem.head _)) rfl rfl rfl rfl rfl
/-- a region that draws: a load of several cells may be taken first -/
theorem yields_loadN {P : Program} {ops : Array Oper} {S : World → Prop} {op : Oper} {a : Act} (hw : Region.wanted op (yielded ops a.tmps) = true) {ty : TypeId} {x : Operand} (ho : op.op = .load ty x) {b o : Nat} (hx : a.eval x = .pointer (some ⟨b, o, none⟩)) {C : Array Value} {t : TypeId} (hS : ∀ w, S w → Blk w b C t)
    (hr : (P.underlying ty).map (·.isRow) = some true) (D : Array Value) (hz : (P.info? ty).map (·.size) = some D.size) (hc : ∀ j, j < D.size → C[o + j]? = D[j]?) : YieldsIf P ops S op (.agg D) a := by
  cases hu : P.underlying ty with
  | none => simp [hu] at hr
  | some d =>
    simp only [hu, Option.map_some, Option.some.injEq] at hr
    have := yieldsIf_load_mid (P := P) (S := S) hw ty x ho b o hx D.toList d (fun w h => (hS w h).rangeIn (fun j hj => by rw [hc j (by simpa using hj), Array.getElem?_toList])) hu hr (by simpa using hz)
    simpa using this
theorem yields_load1 {P : Program} {ops : Array Oper} {S : World → Prop} {op : Oper} {a : Act} (hw : Region.wanted op (yielded ops a.tmps) = true) {ty : TypeId} {x : Operand} (ho : op.op = .load ty x) {b o : Nat} (hx : a.eval x = .pointer (some ⟨b, o, none⟩)) {C : Array Value} {t : TypeId} (hS : ∀ w, S w → Blk w b C t)
    (hr : (P.underlying ty).map (·.isRow) = some false) (v : Value) (hc : C[o]? = some v) : YieldsIf P ops S op v a :=
  .inl ⟨hw, fun w h => by
    unfold execOp
    simp only [ho, hx, Instr.loadAt, Instr.sureAddr, Sem.run_bind, Sem.run_pure, Result.andThen_ok, run_loadVar_one w b o ty v hr ((hS w h).cell hc)]⟩
theorem yields_of {P : Program} {ops : Array Oper} {S : World → Prop} {op : Oper} {a : Act} {v : Value} (hw : Region.wanted op (yielded ops a.tmps) = true) (h : ∀ w, (execOp a.eval op).run P w = .ok (.value v) w) : YieldsIf P ops S op v a := .inl ⟨hw, fun w _ => h w⟩
theorem yields_build {P : Program} {ops : Array Oper} {S : World → Prop} {op : Oper} {a : Act} {v : Value} (hw : Region.wanted op (yielded ops a.tmps) = true) {ty : TypeId} {parts : Array (Nat × Operand)} (ho : op.op = .build ty parts) {qs : Array (Nat × Value)} (hq : (parts.map fun (i, x) => (i, a.eval x)) = qs)
    (h : ∀ w, (Instr.build ty qs).run P w = .ok v w) : YieldsIf P ops S op v a := yields_of hw fun w => by
  unfold execOp
  simp only [ho, hq, Sem.run_bind, h w, Sem.run_pure, Result.andThen_ok]
theorem build_me (f : Nat → Int) (w : World) : (Instr.build 36 #[(0, .int .i64 1), (1, .agg (kcell f))]).run Tryz.prog w = .ok (.agg (pcell { Rep.zero with kind := 1, key := f } nilV nilV)) w :=
  run_build w 36 _ _ (by rw [kcell_lit]; kernel_rfl)
set_option maxHeartbeats 4000000 in
set_option maxRecDepth 100000 in
theorem reply_me (wd rest : ByteArray) (hl : rest.size ≤ 1000000) (more : Bool) (h0 : ¬ wd.data.toList = wAdded) (h1 : ¬ wd.data.toList = wPurged) (h2 : wd.data.toList = wMe) (kb : Bool) (hkb : keyB rest = kb) (o : Option Rep) (ho : o = if kb then some { Rep.zero with kind := 1, key := keyF rest } else none) (w : World) (hv : Vars w) : Calls Tryz.prog 57 #[.string wd, .string rest, .bool more] w (RepP o w) := by
  have e0 := wEq_no h0
  have e1 := wEq_no h1
  have e2 := wEq_yes h2
  unfold wAdded at e0
  unfold wPurged at e1
  unfold wMe at e2
  clear h0 h1 h2
  have HV := Lib.hid hv; clear hv
  obtain ⟨er, her, hkey⟩ : ∃ er : Int, ((er == 0) = kb) ∧ ∀ w', Calls Tryz.prog 67 #[.string rest] w' fun e w'' => ∃ at_ : Int, e = .returned (.tuple #[.agg (kcell (keyF rest)), .agg #[.int .i64 er, .int .i64 at_]]) ∧ Ext w' w'' := by
    refine ⟨if keyB rest then 0 else 261, ?_, fun w' => lKey_any rest w' (by omega)⟩
    rw [hkb]; cases kb <;> rfl
  have HO := Lib.hid ho; clear ho hkb
  generalize keyF rest = f at *
  have HE := Lib.hid her; clear her
  have hM := Mem.start w NoS
  go_enter Tryz.func57, Tryz.ntmps57
  go_wp2_with (first
    | ((with_reducible show wpList _ _ _ _ _ (World.alloc _ (Obj.cells _ 36))); apply wpList_named hM; clear hM; intro _ hM; rw [pcell_zero 0] at hM)
    | ((with_reducible show wpList _ _ _ _ _ (World.alloc _ (Obj.cells _ 25))); apply wpList_named hM; clear hM; intro w3 hM; rw [← kcell_lit0] at hM)
    | ((with_reducible show wpList _ _ _ _ _ (World.alloc _ (Obj.cells _ 30))); apply wpList_named hM; clear hM; intro w4 hM)
    | ((with_reducible show wpList _ _ _ _ _ (World.alloc _ (Obj.cells _ _))); apply wpList_named hM; clear hM; intro _ hM) | ((with_reducible show wpList _ _ _ (⟨_, .load _ _, _, _, _, _⟩ :: _) _ _); apply wpList_load1 hM; rfl; rfl; rfl; (focus (repeat (first | exact List.Mem.head _ | refine List.Mem.tail _ ?_))); (decide +kernel); (first | (focus fail) | rfl)) | ((with_reducible show wpList _ _ _ (⟨_, .load _ _, _, _, _, _⟩ :: _) _ _); apply wpList_loadA hM; rfl; rfl; rfl; (focus (repeat (first | exact List.Mem.head _ | refine List.Mem.tail _ ?_))); (decide +kernel); (first | (focus (first | with_reducible exact i36p _ _ _ | with_reducible exact i25k _)) | kernel_rfl)) | ((with_reducible show wpList _ _ _ (⟨_, .store _ _ _, _, _, _, _⟩ :: _) _ _); apply wpList_store1 hM; rfl; rfl; rfl; (conv => lhs; whnf); (focus (repeat (first | exact Hole.head | apply Hole.tail))); (first | (focus (with_reducible rw [pcell_size]; decide)) | exact Nat.le_of_ble_eq_true rfl | (simp; done)); (decide +kernel); (first | rfl | assumption | (apply Mem.rowOne hM; (focus (repeat (first | exact List.Mem.head _ | refine List.Mem.tail _ ?_))))); clear hM; intro _ hM; (try dsimp only at hM); (try simp only [pcell_set0, pcell_set33, pcell_set34, pcell_set35, pcell_set36, pcell_set37, pcell_set38, pcell_set39, List.setIfInBounds_toArray, List.set_cons_zero, List.set_cons_succ, List.nil_append, List.cons_append, List.length_map] at hM)) | ((with_reducible show wpList _ _ _ (⟨_, .store _ _ _, _, _, _, _⟩ :: _) _ _); apply wpList_storeA hM; rfl; rfl; rfl; (first | rfl | (conv => lhs; whnf)); (focus (repeat (first | exact Hole.head | apply Hole.tail))); (first | (focus (first | (rw [kcell_size, kcell_size]; done) | (rw [pcell_size, pcell_size]; done) | (rw [pcell_size]; done) | (rw [pcell_size]; rfl) | rfl)) | rfl); (first | (focus (first | with_reducible exact i36p _ _ _ | with_reducible exact i25k _)) | kernel_rfl); (first | (focus (first | with_reducible exact kcell_one _ | ((with_reducible refine pcell_one ?_ ?_); (first | rfl | assumption); (first | rfl | assumption)))) | exact all_mk rfl); clear hM; intro _ hM; (try dsimp only at hM))
    | ((with_reducible show Calls _ 67 _ _ _); refine (hkey _).mono ?_; rintro e w2 ⟨at_, rfl, hx2⟩; replace hM := hM.ext hx2; clear hx2))
  refine wp_region_noPanic ?_
  refine wp_region_held_drew (S := fun w' => Blk w' w2.heap.size (kcell f) 25 ∧ Blk w' w3.heap.size #[.int .i64 er, .int .i64 at_] 30) (by kernel_rfl) ⟨(hM.blk (List.Mem.tail _ (List.Mem.head _))).drew, (hM.blk (List.Mem.head _)).drew⟩ (fun hHeld => ?_)
  refine wpAnyH_take (i := 0) (v := .agg (kcell f)) rfl (by kernel_rfl) (by kernel_rfl) (by kernel_rfl) (fun _ _ _ h => h) (yields_loadN rfl rfl rfl (fun w' h => h.1) (by decide +kernel) (kcell f) (i25k _) (fun j _ => by rw [Nat.zero_add])) hHeld ?_
  simp only [List.getElem_toArray, List.getElem_cons_zero, List.getElem_cons_succ, Act.put, List.setIfInBounds_toArray, List.set_cons_zero, List.set_cons_succ]
  refine wpAnyH_take (i := 1) (v := .agg (pcell { Rep.zero with kind := 1, key := f } nilV nilV)) rfl (by kernel_rfl) (by kernel_rfl) (by kernel_rfl) (fun _ _ _ h => h) (yields_build (qs := #[(0, .int .i64 1), (1, .agg (kcell f))]) rfl rfl (by simp only [List.map_toArray, List.map_cons, List.map_nil]; rfl) (build_me f)) hHeld ?_
  simp only [List.getElem_toArray, List.getElem_cons_zero, List.getElem_cons_succ, Act.put, List.setIfInBounds_toArray, List.set_cons_zero, List.set_cons_succ]
  refine wpAnyH_take (i := 2) (v := .pointer (some ⟨w3.heap.size, 0, none⟩)) rfl (by kernel_rfl) (by kernel_rfl) (by kernel_rfl) (fun _ _ _ h => h) (yields_of rfl (fun _ => rfl)) hHeld ?_
  simp only [List.getElem_toArray, List.getElem_cons_zero, List.getElem_cons_succ, Act.put, List.setIfInBounds_toArray, List.set_cons_zero, List.set_cons_succ]
  refine wpAnyH_take (i := 3) (v := .int .i64 er) rfl (by kernel_rfl) (by kernel_rfl) (by kernel_rfl) (fun _ _ _ h => h) (yields_load1 rfl rfl rfl (fun w' h => h.2) (by decide +kernel) _ rfl) hHeld ?_
  simp only [List.getElem_toArray, List.getElem_cons_zero, List.getElem_cons_succ, Act.put, List.setIfInBounds_toArray, List.set_cons_zero, List.set_cons_succ]
  refine wpAnyH_take (i := 4) (v := .bool kb) rfl (by kernel_rfl) (by kernel_rfl) (by kernel_rfl) (fun _ _ _ h => h) (yields_of rfl (fun _ => by rw [← HE.out]; rfl)) hHeld ?_
  simp only [List.getElem_toArray, List.getElem_cons_zero, List.getElem_cons_succ, Act.put, List.setIfInBounds_toArray, List.set_cons_zero, List.set_cons_succ]
  refine wpAnyH_store 5 _ (by kernel_rfl) rfl rfl 36 (.tmp 6) (.tmp 39) rfl w.heap.size 0 (pcell { Rep.zero with kind := 1, key := f } nilV nilV) rfl rfl (hM.drew.blk (List.Mem.tail _ (List.Mem.tail _ (List.Mem.head _)))) (by rw [pcell_size, pcell_size]; decide) (i36p _ _ _) (pcell_one rfl rfl) ?_
  intro w9 hb9 hk9 hm9
  have hM9 := hM.drew.wrote (D := pcell { Rep.zero with kind := 1, key := f } nilV nilV) (Upd.tail (Upd.tail Upd.head)) hm9 (hb9.congr (by rw [putCells_whole (by rw [Array.length_toList, pcell_size, pcell_size])]))
  clear hM
  have hHeld : (fun w' => Blk w' w2.heap.size (kcell f) 25 ∧ Blk w' w3.heap.size #[.int .i64 er, .int .i64 at_] 30) w9 := ⟨hM9.blk (List.Mem.tail _ (List.Mem.head _)), hM9.blk (List.Mem.head _)⟩
  refine ⟨hHeld, ?_⟩
  simp only [List.getElem_toArray, List.getElem_cons_zero, List.getElem_cons_succ, Act.put, List.setIfInBounds_toArray, List.set_cons_zero, List.set_cons_succ]
  refine wpAnyH_take (i := 6) (v := .bool kb) rfl (by kernel_rfl) (by kernel_rfl) (by kernel_rfl) (fun _ _ _ h => h) (yields_of rfl (fun _ => rfl)) hHeld ?_
  simp only [List.getElem_toArray, List.getElem_cons_zero, List.getElem_cons_succ, Act.put, List.setIfInBounds_toArray, List.set_cons_zero, List.set_cons_succ]
  refine wpAnyH_done (by kernel_rfl) ?_ _
  refine NoPanic.normal ?_
  go_wp2
  rw [HO.out]
  cases kb with
  | true => exact rep_yes rfl hM9 (List.Mem.tail _ (List.Mem.tail _ (List.Mem.head _))) rfl rfl rfl (SlR.nil _ _) (SlR.nil _ _)
  | false => exact rep_no rfl hM9 (List.Mem.tail _ (List.Mem.tail _ (List.Mem.head _))) rfl rfl rfl rfl rfl
set_option maxHeartbeats 2000000 in
set_option maxRecDepth 100000 in
theorem reply_addedM (wd rest : ByteArray) (h : wd.data.toList = wAdded) (w : World) : Calls Tryz.prog 57 #[.string wd, .string rest, .bool true] w (RepP none w) := by
  have e0 := wEq_yes h
  have e1 := wEq_no (l := wPurged) (wd := wd) (by rw [h]; decide)
  have e2 := wEq_no (l := wMe) (wd := wd) (by rw [h]; decide)
  have e3 := wEq_no (l := wContacts) (wd := wd) (by rw [h]; decide)
  have e4 := wEq_no (l := wQueued) (wd := wd) (by rw [h]; decide)
  have e5 := wEq_no (l := wInbox) (wd := wd) (by rw [h]; decide)
  have e6 := wEq_no (l := wStatus) (wd := wd) (by rw [h]; decide)
  have e7 := wEq_no (l := wError) (wd := wd) (by rw [h]; decide)
  unfold wAdded at e0
  unfold wPurged at e1
  unfold wMe at e2
  unfold wContacts at e3
  unfold wQueued at e4
  unfold wInbox at e5
  unfold wStatus at e6
  unfold wError at e7
  clear h
  have hM := Mem.start w NoS
  go_enter Tryz.func57, Tryz.ntmps57
  go_wp2_with (first
    | ((with_reducible show wpList _ _ _ _ _ (World.alloc _ (Obj.cells _ 36))); apply wpList_named hM; clear hM; intro _ hM; rw [pcell_zero 0] at hM)
    | ((with_reducible show wpList _ _ _ _ _ (World.alloc _ (Obj.cells _ _))); apply wpList_named hM; clear hM; intro _ hM) | ((with_reducible show wpList _ _ _ (⟨_, .load _ _, _, _, _, _⟩ :: _) _ _); apply wpList_load1 hM; rfl; rfl; rfl; (focus (repeat (first | exact List.Mem.head _ | refine List.Mem.tail _ ?_))); (decide +kernel); (first | (focus fail) | rfl)) | ((with_reducible show wpList _ _ _ (⟨_, .load _ _, _, _, _, _⟩ :: _) _ _); apply wpList_loadA hM; rfl; rfl; rfl; (focus (repeat (first | exact List.Mem.head _ | refine List.Mem.tail _ ?_))); (decide +kernel); (first | (focus with_reducible exact i36p _ _ _) | kernel_rfl)) | ((with_reducible show wpList _ _ _ (⟨_, .store _ _ _, _, _, _, _⟩ :: _) _ _); apply wpList_store1 hM; rfl; rfl; rfl; (conv => lhs; whnf); (focus (repeat (first | exact Hole.head | apply Hole.tail))); (first | (focus (with_reducible rw [pcell_size]; decide)) | exact Nat.le_of_ble_eq_true rfl | (simp; done)); (decide +kernel); (first | rfl | assumption | (apply Mem.rowOne hM; (focus (repeat (first | exact List.Mem.head _ | refine List.Mem.tail _ ?_))))); clear hM; intro _ hM; (try dsimp only at hM); (try simp only [pcell_set0, pcell_set33, pcell_set34, pcell_set35, pcell_set36, pcell_set37, pcell_set38, pcell_set39, List.setIfInBounds_toArray, List.set_cons_zero, List.set_cons_succ, List.nil_append, List.cons_append, List.length_map] at hM)) | ((with_reducible show wpList _ _ _ (⟨_, .store _ _ _, _, _, _, _⟩ :: _) _ _); apply wpList_storeA hM; rfl; rfl; rfl; (first | rfl | (conv => lhs; whnf)); (focus (repeat (first | exact Hole.head | apply Hole.tail))); (first | (focus (first | (rw [pcell_size, pcell_size]; done) | (rw [pcell_size]; done) | (rw [pcell_size]; rfl))) | rfl); (first | (focus with_reducible exact i36p _ _ _) | kernel_rfl); (first | (focus ((with_reducible refine pcell_one ?_ ?_); (first | rfl | assumption); (first | rfl | assumption))) | exact all_mk rfl); clear hM; intro _ hM; (try dsimp only at hM)))
  exact rep_no rfl hM (List.Mem.head _) rfl rfl rfl rfl rfl
set_option maxHeartbeats 2000000 in
set_option maxRecDepth 100000 in
theorem reply_purgedM (wd rest : ByteArray) (h : wd.data.toList = wPurged) (w : World) : Calls Tryz.prog 57 #[.string wd, .string rest, .bool true] w (RepP none w) := by
  have e0 := wEq_no (l := wAdded) (wd := wd) (by rw [h]; decide)
  have e1 := wEq_yes h
  have e2 := wEq_no (l := wMe) (wd := wd) (by rw [h]; decide)
  have e3 := wEq_no (l := wContacts) (wd := wd) (by rw [h]; decide)
  have e4 := wEq_no (l := wQueued) (wd := wd) (by rw [h]; decide)
  have e5 := wEq_no (l := wInbox) (wd := wd) (by rw [h]; decide)
  have e6 := wEq_no (l := wStatus) (wd := wd) (by rw [h]; decide)
  have e7 := wEq_no (l := wError) (wd := wd) (by rw [h]; decide)
  unfold wAdded at e0
  unfold wPurged at e1
  unfold wMe at e2
  unfold wContacts at e3
  unfold wQueued at e4
  unfold wInbox at e5
  unfold wStatus at e6
  unfold wError at e7
  clear h
  have hM := Mem.start w NoS
  go_enter Tryz.func57, Tryz.ntmps57
  go_wp2_with (first
    | ((with_reducible show wpList _ _ _ _ _ (World.alloc _ (Obj.cells _ 36))); apply wpList_named hM; clear hM; intro _ hM; rw [pcell_zero 0] at hM)
    | ((with_reducible show wpList _ _ _ _ _ (World.alloc _ (Obj.cells _ _))); apply wpList_named hM; clear hM; intro _ hM) | ((with_reducible show wpList _ _ _ (⟨_, .load _ _, _, _, _, _⟩ :: _) _ _); apply wpList_load1 hM; rfl; rfl; rfl; (focus (repeat (first | exact List.Mem.head _ | refine List.Mem.tail _ ?_))); (decide +kernel); (first | (focus fail) | rfl)) | ((with_reducible show wpList _ _ _ (⟨_, .load _ _, _, _, _, _⟩ :: _) _ _); apply wpList_loadA hM; rfl; rfl; rfl; (focus (repeat (first | exact List.Mem.head _ | refine List.Mem.tail _ ?_))); (decide +kernel); (first | (focus with_reducible exact i36p _ _ _) | kernel_rfl)) | ((with_reducible show wpList _ _ _ (⟨_, .store _ _ _, _, _, _, _⟩ :: _) _ _); apply wpList_store1 hM; rfl; rfl; rfl; (conv => lhs; whnf); (focus (repeat (first | exact Hole.head | apply Hole.tail))); (first | (focus (with_reducible rw [pcell_size]; decide)) | exact Nat.le_of_ble_eq_true rfl | (simp; done)); (decide +kernel); (first | rfl | assumption | (apply Mem.rowOne hM; (focus (repeat (first | exact List.Mem.head _ | refine List.Mem.tail _ ?_))))); clear hM; intro _ hM; (try dsimp only at hM); (try simp only [pcell_set0, pcell_set33, pcell_set34, pcell_set35, pcell_set36, pcell_set37, pcell_set38, pcell_set39, List.setIfInBounds_toArray, List.set_cons_zero, List.set_cons_succ, List.nil_append, List.cons_append, List.length_map] at hM)) | ((with_reducible show wpList _ _ _ (⟨_, .store _ _ _, _, _, _, _⟩ :: _) _ _); apply wpList_storeA hM; rfl; rfl; rfl; (first | rfl | (conv => lhs; whnf)); (focus (repeat (first | exact Hole.head | apply Hole.tail))); (first | (focus (first | (rw [pcell_size, pcell_size]; done) | (rw [pcell_size]; done) | (rw [pcell_size]; rfl))) | rfl); (first | (focus with_reducible exact i36p _ _ _) | kernel_rfl); (first | (focus ((with_reducible refine pcell_one ?_ ?_); (first | rfl | assumption); (first | rfl | assumption))) | exact all_mk rfl); clear hM; intro _ hM; (try dsimp only at hM)))
  exact rep_no rfl hM (List.Mem.head _) rfl rfl rfl rfl rfl

theorem strV_eta (x : ByteArray) : strV (bl x) = .string x := (strB x).symm
/-- line.reply at a word that is not 'error' -/
theorem reply_ne (wd rest : ByteArray) (hl : rest.size ≤ 1000000) (more : Bool) (hE : ¬ wd.data.toList = wError) (w : World) (hv : Vars w) : Calls Tryz.prog 57 #[.string wd, .string rest, .bool more] w (RepP (replyS (bl wd) (bl rest) more) w) := by
  have hrest : (⟨(bl rest).toArray⟩ : ByteArray) = rest := rfl
  unfold replyS
  by_cases h0 : wd.data.toList = wAdded
  · rw [if_pos h0]
    cases more with
    | true => exact reply_addedM wd rest h0 w
    | false => exact reply_added wd rest h0 w
  rw [if_neg h0]
  by_cases h1 : wd.data.toList = wPurged
  · rw [if_pos h1]
    cases more with
    | true => exact reply_purgedM wd rest h1 w
    | false => exact reply_purged wd rest h0 h1 w
  rw [if_neg h1]
  by_cases h2 : wd.data.toList = wMe
  · rw [if_pos h2, hrest]
    exact reply_me wd rest hl more h0 h1 h2 _ rfl _ rfl w hv
  rw [if_neg h2]
  by_cases h3 : wd.data.toList = wContacts
  · rw [if_pos h3]
    exact reply_contacts wd rest hl more h0 h1 h2 h3 w hv
  rw [if_neg h3]
  by_cases h4 : wd.data.toList = wQueued
  · rw [if_pos h4]
    have := reply_queued wd (bl rest) hl more h0 h1 h2 h3 h4 w hv
    rw [strV_eta] at this
    exact this
  rw [if_neg h4]
  by_cases h5 : wd.data.toList = wInbox
  · rw [if_pos h5]
    exact reply_inbox wd rest hl more h0 h1 h2 h3 h4 h5 w hv
  rw [if_neg h5]
  by_cases h6 : wd.data.toList = wStatus
  · rw [if_pos h6]
    split
    · rename_i a b c hs
      by_cases ha : numB a = true
      · by_cases hb : numB b = true
        · by_cases hc : numB c = true
          · rw [if_pos ⟨ha, hb, hc⟩]
            exact reply_status3y wd rest hl more h0 h1 h2 h3 h4 h5 h6 a b c hs ha hb hc w hv
          · rw [if_neg (fun h => hc h.2.2)]
            exact reply_status3c wd rest hl more h0 h1 h2 h3 h4 h5 h6 a b c hs ha hb (by simpa using hc) w hv
        · rw [if_neg (fun h => hb h.2.1)]
          exact reply_status3b wd rest hl more h0 h1 h2 h3 h4 h5 h6 a b c hs ha (by simpa using hb) w hv
      · rw [if_neg (fun h => ha h.1)]
        exact reply_status3a wd rest hl more h0 h1 h2 h3 h4 h5 h6 a b c hs (by simpa using ha) w hv
    · rename_i hn
      refine reply_statusN wd rest hl more h0 h1 h2 h3 h4 h5 h6 (fun h => ?_) w hv
      match hs : spl (bl rest), h with
      | [a, b, c], _ => exact hn a b c hs
  rw [if_neg h6, if_neg hE]
  exact reply_none wd rest more h0 h1 h2 h3 h4 h5 h6 hE w

/-! ### the reply of a line -/
def replyOf (l : List UInt8) : Except (Int × Int) Rep :=
  if 640 < l.length then .error (3, 640) else match replyS (cutA l) (cutZ l) (cutM l) with | some r => .ok r | none => .error (340, 0)
/-- what line.Reply tells -/
def RplP (o : Except (Int × Int) Rep) (w : World) (e : Ending) (w' : World) : Prop :=
  ∃ (r : Rep) (nv tv : Value) (er a : Int), e = .returned (.tuple #[.agg (pcell r nv tv), .agg #[.int .i64 er, .int .i64 a]]) ∧ Ext w w' ∧
    match o with
    | .ok q => pcell r nv tv = pcell q nv tv ∧ er = 0 ∧ a = 0 ∧ SlR w' w.heap.size nv q.names ∧ SlR w' w.heap.size tv q.texts
    | .error p => r = Rep.zero ∧ nv = nilV ∧ tv = nilV ∧ er = p.1 ∧ a = p.2
theorem rpl_end {fn : Func} (hfn : fn.results = #[.cell 2 36, .cell 3 30]) {w w1 : World} {L : List Ent} {b c : Nat} {C D : Array Value} {tmps : Array Value} (hM : Mem w NoS w1 L) (hb : Ent.blk true b C 36 ∈ L) (hc : Ent.blk true c D 30 ∈ L)
    (h2 : tmps.getD 2 undef = .pointer (some ⟨b, 0, none⟩)) (h3 : tmps.getD 3 undef = .pointer (some ⟨c, 0, none⟩)) {r : Rep} {nv tv : Value} {er a : Int} (hC : C = pcell r nv tv) (hD : D = #[.int .i64 er, .int .i64 a]) {o : Except (Int × Int) Rep}
    (hp : RplP o w (.returned (.tuple #[.agg (pcell r nv tv), .agg #[.int .i64 er, .int .i64 a]])) w1) : bodyPost Tryz.prog fn (RplP o w) .ret { tmps := tmps, defers := [] } w1 := by
  subst hC hD
  exact bodyPost_ret (results_cell2 hfn tmps w1 h2 h3 (hM.blk hb) (hM.blk hc) Tryz.underlying36 rfl (i36p _ _ _) Tryz.underlying30 rfl i30) rfl hp
set_option maxHeartbeats 2000000 in
set_option maxRecDepth 100000 in
theorem Reply_long (s : ByteArray) (hl : 640 < s.size) (w : World) : Calls Tryz.prog 29 #[.string s] w (RplP (.error (3, 640)) w) := by
  have hl' : (640 : Int) < (s.size : Int) := by omega
  have hM := Mem.start w NoS
  go_enter Tryz.func29, Tryz.ntmps29
  go_wp2_with (first
    | ((with_reducible show wpList _ _ _ _ _ (World.alloc _ (Obj.cells _ 36))); apply wpList_named hM; clear hM; intro _ hM; rw [pcell_zero 0] at hM)
    | ((with_reducible show wpList _ _ _ _ _ (World.alloc _ (Obj.cells _ _))); apply wpList_named hM; clear hM; intro _ hM) | ((with_reducible show wpList _ _ _ (⟨_, .load _ _, _, _, _, _⟩ :: _) _ _); apply wpList_load1 hM; rfl; rfl; rfl; (focus (repeat (first | exact List.Mem.head _ | refine List.Mem.tail _ ?_))); (decide +kernel); (first | (focus fail) | rfl)) | ((with_reducible show wpList _ _ _ (⟨_, .load _ _, _, _, _, _⟩ :: _) _ _); apply wpList_loadA hM; rfl; rfl; rfl; (focus (repeat (first | exact List.Mem.head _ | refine List.Mem.tail _ ?_))); (decide +kernel); (first | (focus (first | with_reducible exact i36p _ _ _ | with_reducible exact i30)) | kernel_rfl)) | ((with_reducible show wpList _ _ _ (⟨_, .store _ _ _, _, _, _, _⟩ :: _) _ _); apply wpList_store1 hM; rfl; rfl; rfl; (conv => lhs; whnf); (focus (repeat (first | exact Hole.head | apply Hole.tail))); (first | (focus (with_reducible rw [pcell_size]; decide)) | exact Nat.le_of_ble_eq_true rfl | (simp; done)); (decide +kernel); (first | rfl | assumption | (apply Mem.rowOne hM; (focus (repeat (first | exact List.Mem.head _ | refine List.Mem.tail _ ?_))))); clear hM; intro _ hM; (try dsimp only at hM); (try simp only [pcell_set0, pcell_set33, pcell_set34, pcell_set35, pcell_set36, pcell_set37, pcell_set38, pcell_set39, List.setIfInBounds_toArray, List.set_cons_zero, List.set_cons_succ, List.nil_append, List.cons_append, List.length_map] at hM)) | ((with_reducible show wpList _ _ _ (⟨_, .store _ _ _, _, _, _, _⟩ :: _) _ _); apply wpList_storeA hM; rfl; rfl; rfl; (first | rfl | (conv => lhs; whnf)); (focus (repeat (first | exact Hole.head | apply Hole.tail))); (first | (focus (first | (rw [pcell_size, pcell_size]; done) | (rw [pcell_size]; done) | (rw [pcell_size]; rfl))) | rfl); (first | (focus (first | with_reducible exact i36p _ _ _ | with_reducible exact i30)) | kernel_rfl); (first | (focus ((with_reducible refine pcell_one ?_ ?_); (first | rfl | assumption); (first | rfl | assumption))) | exact all_mk rfl); clear hM; intro _ hM; (try dsimp only at hM)))
  exact rpl_end rfl hM (List.Mem.tail _ (List.Mem.head _)) (List.Mem.head _) rfl rfl (pcell_zero 0) rfl ⟨_, _, _, _, _, rfl, hM.ext0, rfl, rfl, rfl, rfl, rfl⟩
set_option maxHeartbeats 2000000 in
set_option maxRecDepth 100000 in
theorem Reply_no (s : ByteArray) (hl : ¬ 640 < s.size) (w : World) (hv : Vars w) (hrep : ∀ w', Vars w' → Calls Tryz.prog 57 #[strV (cutA (bl s)), strV (cutZ (bl s)), .bool (cutM (bl s))] w' (RepP none w')) : Calls Tryz.prog 29 #[.string s] w (RplP (.error (340, 0)) w) := by
  have hl' : ¬ (640 : Int) < (s.size : Int) := by omega
  have hcut := fun w' h' => cut3 s (by omega) w' h'
  have hrep' : ∀ w', Vars w' → Calls Tryz.prog 57 #[strV (cutA (bl s)), strV (cutZ (bl s)), .bool (cutM (bl s))] w' fun e w'' => (∃ (r : Rep) (nv tv : Value), e = .returned (.tuple #[.agg (pcell r nv tv), .bool false]) ∧ nv.oneCell' = true ∧ tv.oneCell' = true) ∧ Ext w' w'' :=
    fun w' h' => (hrep w' h').mono fun e w'' ⟨r, nv, tv, h1, h2, h3, h4, _⟩ => ⟨⟨r, nv, tv, h1, h2, h3⟩, h4⟩
  clear hrep
  generalize cutA (bl s) = A at *
  generalize cutZ (bl s) = Z at *
  generalize cutM (bl s) = M at *
  have HV := Lib.hid hv; clear hv
  have hM := Mem.start w NoS
  go_enter Tryz.func29, Tryz.ntmps29
  go_wp2_with (first
    | ((with_reducible show wpList _ _ _ _ _ (World.alloc _ (Obj.cells _ 36))); apply wpList_named hM; clear hM; intro _ hM; rw [pcell_zero 0] at hM)
    | ((with_reducible show wpList _ _ _ _ _ (World.alloc _ (Obj.cells _ _))); apply wpList_named hM; clear hM; intro _ hM) | ((with_reducible show wpList _ _ _ (⟨_, .load _ _, _, _, _, _⟩ :: _) _ _); apply wpList_load1 hM; rfl; rfl; rfl; (focus (repeat (first | exact List.Mem.head _ | refine List.Mem.tail _ ?_))); (decide +kernel); (first | (focus fail) | rfl)) | ((with_reducible show wpList _ _ _ (⟨_, .load _ _, _, _, _, _⟩ :: _) _ _); apply wpList_loadA hM; rfl; rfl; rfl; (focus (repeat (first | exact List.Mem.head _ | refine List.Mem.tail _ ?_))); (decide +kernel); (first | (focus (first | with_reducible exact i36p _ _ _ | with_reducible exact i30)) | kernel_rfl)) | ((with_reducible show wpList _ _ _ (⟨_, .store _ _ _, _, _, _, _⟩ :: _) _ _); apply wpList_store1 hM; rfl; rfl; rfl; (conv => lhs; whnf); (focus (repeat (first | exact Hole.head | apply Hole.tail))); (first | (focus (with_reducible rw [pcell_size]; decide)) | exact Nat.le_of_ble_eq_true rfl | (simp; done)); (decide +kernel); (first | rfl | assumption | (apply Mem.rowOne hM; (focus (repeat (first | exact List.Mem.head _ | refine List.Mem.tail _ ?_))))); clear hM; intro _ hM; (try dsimp only at hM); (try simp only [pcell_set0, pcell_set33, pcell_set34, pcell_set35, pcell_set36, pcell_set37, pcell_set38, pcell_set39, List.setIfInBounds_toArray, List.set_cons_zero, List.set_cons_succ, List.nil_append, List.cons_append, List.length_map] at hM)) | ((with_reducible show wpList _ _ _ (⟨_, .store _ _ _, _, _, _, _⟩ :: _) _ _); apply wpList_storeA hM; rfl; rfl; rfl; (first | rfl | (conv => lhs; whnf)); (focus (repeat (first | exact Hole.head | apply Hole.tail))); (first | (focus (first | (rw [pcell_size, pcell_size]; done) | (rw [pcell_size]; done) | (rw [pcell_size]; rfl))) | rfl); (first | (focus (first | with_reducible exact i36p _ _ _ | with_reducible exact i30)) | kernel_rfl); (first | (focus ((with_reducible refine pcell_one ?_ ?_); (first | rfl | assumption); (first | rfl | assumption))) | exact all_mk rfl); clear hM; intro _ hM; (try dsimp only at hM))
    | ((with_reducible show Calls _ 34 _ _ _); refine (hcut _ (hM.vars HV.out)).mono ?_; rintro e w2 ⟨rfl, hx2⟩; replace hM := hM.ext hx2; clear hx2)
    | ((with_reducible show Calls _ 57 _ _ _); refine (hrep' _ (hM.vars HV.out)).mono ?_; rintro e w2 ⟨⟨r, nv, tv, rfl, hn1, ht1⟩, hx2⟩; replace hM := hM.ext hx2; clear hx2))
  exact rpl_end rfl hM (List.Mem.tail _ (List.Mem.tail _ (List.Mem.head _))) (List.Mem.tail _ (List.Mem.head _)) rfl rfl (pcell_zero 0) rfl ⟨_, _, _, _, _, rfl, hM.ext0, rfl, rfl, rfl, rfl, rfl⟩
set_option maxHeartbeats 2000000 in
set_option maxRecDepth 100000 in
theorem Reply_yes (s : ByteArray) (hl : ¬ 640 < s.size) (q : Rep) (w : World) (hv : Vars w) (hrep : ∀ w', Vars w' → Calls Tryz.prog 57 #[strV (cutA (bl s)), strV (cutZ (bl s)), .bool (cutM (bl s))] w' (RepP (some q) w')) : Calls Tryz.prog 29 #[.string s] w (RplP (.ok q) w) := by
  have hl' : ¬ (640 : Int) < (s.size : Int) := by omega
  have hcut := fun w' h' => cut3 s (by omega) w' h'
  have hrep' : ∀ w', Vars w' → Calls Tryz.prog 57 #[strV (cutA (bl s)), strV (cutZ (bl s)), .bool (cutM (bl s))] w' fun e w'' => ∃ (nv tv : Value), e = .returned (.tuple #[.agg (pcell q nv tv), .bool true]) ∧ nv.oneCell' = true ∧ tv.oneCell' = true ∧ Ext w' w'' ∧ SlR w'' w'.heap.size nv q.names ∧ SlR w'' w'.heap.size tv q.texts :=
    fun w' h' => (hrep w' h').mono fun e w'' ⟨r, nv, tv, h1, h2, h3, h4, h5⟩ => ⟨nv, tv, by rw [h1, (h5 q rfl).1]; rfl, h2, h3, h4, (h5 q rfl).2⟩
  clear hrep
  generalize cutA (bl s) = A at *
  generalize cutZ (bl s) = Z at *
  generalize cutM (bl s) = M at *
  have HV := Lib.hid hv; clear hv
  have hM := Mem.start w NoS
  go_enter Tryz.func29, Tryz.ntmps29
  go_wp2_with (first
    | ((with_reducible show wpList _ _ _ _ _ (World.alloc _ (Obj.cells _ 36))); apply wpList_named hM; clear hM; intro _ hM; rw [pcell_zero 0] at hM)
    | ((with_reducible show wpList _ _ _ _ _ (World.alloc _ (Obj.cells _ _))); apply wpList_named hM; clear hM; intro _ hM) | ((with_reducible show wpList _ _ _ (⟨_, .load _ _, _, _, _, _⟩ :: _) _ _); apply wpList_load1 hM; rfl; rfl; rfl; (focus (repeat (first | exact List.Mem.head _ | refine List.Mem.tail _ ?_))); (decide +kernel); (first | (focus fail) | rfl)) | ((with_reducible show wpList _ _ _ (⟨_, .load _ _, _, _, _, _⟩ :: _) _ _); apply wpList_loadA hM; rfl; rfl; rfl; (focus (repeat (first | exact List.Mem.head _ | refine List.Mem.tail _ ?_))); (decide +kernel); (first | (focus (first | with_reducible exact i36p _ _ _ | with_reducible exact i30)) | kernel_rfl)) | ((with_reducible show wpList _ _ _ (⟨_, .store _ _ _, _, _, _, _⟩ :: _) _ _); apply wpList_store1 hM; rfl; rfl; rfl; (conv => lhs; whnf); (focus (repeat (first | exact Hole.head | apply Hole.tail))); (first | (focus (with_reducible rw [pcell_size]; decide)) | exact Nat.le_of_ble_eq_true rfl | (simp; done)); (decide +kernel); (first | rfl | assumption | (apply Mem.rowOne hM; (focus (repeat (first | exact List.Mem.head _ | refine List.Mem.tail _ ?_))))); clear hM; intro _ hM; (try dsimp only at hM); (try simp only [pcell_set0, pcell_set33, pcell_set34, pcell_set35, pcell_set36, pcell_set37, pcell_set38, pcell_set39, List.setIfInBounds_toArray, List.set_cons_zero, List.set_cons_succ, List.nil_append, List.cons_append, List.length_map] at hM)) | ((with_reducible show wpList _ _ _ (⟨_, .store _ _ _, _, _, _, _⟩ :: _) _ _); apply wpList_storeA hM; rfl; rfl; rfl; (first | rfl | (conv => lhs; whnf)); (focus (repeat (first | exact Hole.head | apply Hole.tail))); (first | (focus (first | (rw [pcell_size, pcell_size]; done) | (rw [pcell_size]; done) | (rw [pcell_size]; rfl))) | rfl); (first | (focus (first | with_reducible exact i36p _ _ _ | with_reducible exact i30)) | kernel_rfl); (first | (focus ((with_reducible refine pcell_one ?_ ?_); (first | rfl | assumption); (first | rfl | assumption))) | exact all_mk rfl); clear hM; intro _ hM; (try dsimp only at hM))
    | ((with_reducible show Calls _ 34 _ _ _); refine (hcut _ (hM.vars HV.out)).mono ?_; rintro e w2 ⟨rfl, hx2⟩; replace hM := hM.ext hx2; clear hx2)
    | ((with_reducible show Calls _ 57 _ _ _); refine (hrep' _ (hM.vars HV.out)).mono ?_; rintro e w2 ⟨nv, tv, rfl, hn1, ht1, hx2, hn, ht⟩; have hz := hM.size; replace hM := hM.told2 hx2 hn ht; clear hx2 hn ht))
  exact rpl_end rfl hM (List.Mem.tail _ (List.Mem.tail _ (List.Mem.tail _ (List.Mem.tail _ (List.Mem.head _))))) (List.Mem.tail _ (List.Mem.tail _ (List.Mem.tail _ (List.Mem.head _)))) rfl rfl rfl rfl ⟨_, _, _, _, _, rfl, hM.ext0, rfl, rfl, rfl, Rd.mono (hM.theRd (List.Mem.tail _ (List.Mem.head _))) (by omega), Rd.mono (hM.theRd (List.Mem.tail _ (List.Mem.tail _ (List.Mem.head _)))) (by omega)⟩
theorem Reply_of (s : ByteArray) (hs : s.size ≤ 1000000) (w : World) (hv : Vars w) (hrep : ∀ w', Vars w' → Calls Tryz.prog 57 #[strV (cutA (bl s)), strV (cutZ (bl s)), .bool (cutM (bl s))] w' (RepP (replyS (cutA (bl s)) (cutZ (bl s)) (cutM (bl s))) w')) : Calls Tryz.prog 29 #[.string s] w (RplP (replyOf (bl s)) w) := by
  unfold replyOf
  by_cases hl : 640 < s.size
  · rw [if_pos (show 640 < (bl s).length from hl)]
    exact Reply_long s hl w
  · rw [if_neg (show ¬ 640 < (bl s).length from hl)]
    cases ho : replyS (cutA (bl s)) (cutZ (bl s)) (cutM (bl s)) with
    | none => rw [ho] at hrep; exact Reply_no s hl w hv hrep
    | some q => rw [ho] at hrep; exact Reply_yes s hl q w hv hrep
end Go.Proofs.YtigfkfjlfpndfaaGreatDoor
