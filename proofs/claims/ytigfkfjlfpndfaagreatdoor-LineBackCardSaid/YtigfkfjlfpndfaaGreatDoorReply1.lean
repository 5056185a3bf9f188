/-
  line.reply.
-/
import Derived.Test.YtigfkfjlfpndfaaGreatDoorRep
import Derived.Deep.RegionHeld3
namespace Go.Proofs.YtigfkfjlfpndfaaGreatDoor
open Go.RowKit Sp
/-- the tests of a word -/
def wEq (wd : ByteArray) (l : List UInt8) : Bool := wd.toList == l
theorem wEq_yes {wd : ByteArray} {l : List UInt8} (h : wd.data.toList = l) : (wd.toList == l) = true := by rw [ByteArray.toList_eq]; simpa using h
theorem wEq_no {wd : ByteArray} {l : List UInt8} (h : ¬ wd.data.toList = l) : (wd.toList == l) = false := by rw [ByteArray.toList_eq]; simpa using h

theorem rep_yes {fn : Func} (hfn : fn.results = #[.cell 6 36, .tmp 7]) {w w1 : World} {L : List Ent} {b : Nat} {C : Array Value} {r : Rep} {nv tv : Value} {tmps : Array Value} (hM : Mem w NoS w1 L) (hi : Ent.blk true b C 36 ∈ L) (hC : C = pcell r nv tv)
    (h6 : tmps.getD 6 undef = .pointer (some ⟨b, 0, none⟩)) (h7 : tmps.getD 7 undef = .bool true) (hn : SlR w1 w.heap.size nv r.names) (ht : SlR w1 w.heap.size tv r.texts) : bodyPost Tryz.prog fn (RepP (some r) w) .ret { tmps := tmps, defers := [] } w1 := by
  subst hC
  have hr := results_cell_tmp' hfn tmps w1 h6 (hM.blk hi) Tryz.underlying36 rfl (i36p _ _ _)
  rw [h7] at hr
  exact bodyPost_ret hr rfl (RepP.yes hn ht hM.ext0)
theorem rep_no {fn : Func} (hfn : fn.results = #[.cell 6 36, .tmp 7]) {w w1 : World} {L : List Ent} {b : Nat} {C : Array Value} {r : Rep} {nv tv : Value} {tmps : Array Value} (hM : Mem w NoS w1 L) (hi : Ent.blk true b C 36 ∈ L) (hC : C = pcell r nv tv)
    (h6 : tmps.getD 6 undef = .pointer (some ⟨b, 0, none⟩)) (h7 : tmps.getD 7 undef = .bool false) (hn : nv.oneCell' = true) (ht : tv.oneCell' = true) : bodyPost Tryz.prog fn (RepP none w) .ret { tmps := tmps, defers := [] } w1 := by
  subst hC
  have hr := results_cell_tmp' hfn tmps w1 h6 (hM.blk hi) Tryz.underlying36 rfl (i36p _ _ _)
  rw [h7] at hr
  exact bodyPost_ret hr rfl (RepP.no hn ht hM.ext0)
set_option maxHeartbeats 2000000 in
set_option maxRecDepth 100000 in
theorem reply_added (wd rest : ByteArray) (h0 : wd.data.toList = wAdded) (w : World) : Calls Tryz.prog 57 #[.string wd, .string rest, .bool false] w (RepP (some { Rep.zero with kind := 2 }) w) := by
  have e0 := wEq_yes h0
  unfold wAdded at e0
  clear h0
  have hM := Mem.start w NoS
  go_enter Tryz.func57, Tryz.ntmps57
  go_wp2_with (first
    | ((with_reducible show wpList _ _ _ _ _ (World.alloc _ (Obj.cells _ 36))); apply wpList_named hM; clear hM; intro _ hM; rw [pcell_zero 0] at hM)
    | ((with_reducible show wpList _ _ _ _ _ (World.alloc _ (Obj.cells _ _))); apply wpList_named hM; clear hM; intro _ hM) | ((with_reducible show wpList _ _ _ (⟨_, .load _ _, _, _, _, _⟩ :: _) _ _); apply wpList_load1 hM; rfl; rfl; rfl; (focus (repeat (first | exact List.Mem.head _ | refine List.Mem.tail _ ?_))); (decide +kernel); (first | (focus fail) | rfl)) | ((with_reducible show wpList _ _ _ (⟨_, .load _ _, _, _, _, _⟩ :: _) _ _); apply wpList_loadA hM; rfl; rfl; rfl; (focus (repeat (first | exact List.Mem.head _ | refine List.Mem.tail _ ?_))); (decide +kernel); (first | (focus with_reducible exact i36p _ _ _) | kernel_rfl)) | ((with_reducible show wpList _ _ _ (⟨_, .store _ _ _, _, _, _, _⟩ :: _) _ _); apply wpList_store1 hM; rfl; rfl; rfl; (conv => lhs; whnf); (focus (repeat (first | exact Hole.head | apply Hole.tail))); (first | (focus (with_reducible rw [pcell_size]; decide)) | exact Nat.le_of_ble_eq_true rfl | (simp; done)); (decide +kernel); (first | rfl | assumption | (apply Mem.rowOne hM; (focus (repeat (first | exact List.Mem.head _ | refine List.Mem.tail _ ?_))))); clear hM; intro _ hM; (try dsimp only at hM); (try simp only [pcell_set0, pcell_set33, pcell_set34, pcell_set35, pcell_set36, pcell_set37, pcell_set38, pcell_set39, List.setIfInBounds_toArray, List.set_cons_zero, List.set_cons_succ, List.nil_append, List.cons_append, List.length_map] at hM)) | ((with_reducible show wpList _ _ _ (⟨_, .store _ _ _, _, _, _, _⟩ :: _) _ _); apply wpList_storeA hM; rfl; rfl; rfl; (first | rfl | (conv => lhs; whnf)); (focus (repeat (first | exact Hole.head | apply Hole.tail))); (first | (focus (first | (rw [pcell_size, pcell_size]; done) | (rw [pcell_size]; done) | (rw [pcell_size]; rfl))) | rfl); (first | (focus with_reducible exact i36p _ _ _) | kernel_rfl); (first | (focus ((with_reducible refine pcell_one ?_ ?_); (first | rfl | assumption); (first | rfl | assumption))) | exact all_mk rfl); clear hM; intro _ hM; (try dsimp only at hM)))
  exact rep_yes rfl hM (List.Mem.head _) (pcell_zero 2) rfl rfl (SlR.nil _ _) (SlR.nil _ _)
set_option maxHeartbeats 2000000 in
set_option maxRecDepth 100000 in
theorem reply_purged (wd rest : ByteArray) (h0 : ¬ wd.data.toList = wAdded) (h1 : wd.data.toList = wPurged) (w : World) : Calls Tryz.prog 57 #[.string wd, .string rest, .bool false] w (RepP (some { Rep.zero with kind := 6 }) w) := by
  have e0 := wEq_no h0
  have e1 := wEq_yes h1
  unfold wAdded at e0
  unfold wPurged at e1
  clear h0 h1
  have hM := Mem.start w NoS
  go_enter Tryz.func57, Tryz.ntmps57
  go_wp2_with (first
    | ((with_reducible show wpList _ _ _ _ _ (World.alloc _ (Obj.cells _ 36))); apply wpList_named hM; clear hM; intro _ hM; rw [pcell_zero 0] at hM)
    | ((with_reducible show wpList _ _ _ _ _ (World.alloc _ (Obj.cells _ _))); apply wpList_named hM; clear hM; intro _ hM) | ((with_reducible show wpList _ _ _ (⟨_, .load _ _, _, _, _, _⟩ :: _) _ _); apply wpList_load1 hM; rfl; rfl; rfl; (focus (repeat (first | exact List.Mem.head _ | refine List.Mem.tail _ ?_))); (decide +kernel); (first | (focus fail) | rfl)) | ((with_reducible show wpList _ _ _ (⟨_, .load _ _, _, _, _, _⟩ :: _) _ _); apply wpList_loadA hM; rfl; rfl; rfl; (focus (repeat (first | exact List.Mem.head _ | refine List.Mem.tail _ ?_))); (decide +kernel); (first | (focus with_reducible exact i36p _ _ _) | kernel_rfl)) | ((with_reducible show wpList _ _ _ (⟨_, .store _ _ _, _, _, _, _⟩ :: _) _ _); apply wpList_store1 hM; rfl; rfl; rfl; (conv => lhs; whnf); (focus (repeat (first | exact Hole.head | apply Hole.tail))); (first | (focus (with_reducible rw [pcell_size]; decide)) | exact Nat.le_of_ble_eq_true rfl | (simp; done)); (decide +kernel); (first | rfl | assumption | (apply Mem.rowOne hM; (focus (repeat (first | exact List.Mem.head _ | refine List.Mem.tail _ ?_))))); clear hM; intro _ hM; (try dsimp only at hM); (try simp only [pcell_set0, pcell_set33, pcell_set34, pcell_set35, pcell_set36, pcell_set37, pcell_set38, pcell_set39, List.setIfInBounds_toArray, List.set_cons_zero, List.set_cons_succ, List.nil_append, List.cons_append, List.length_map] at hM)) | ((with_reducible show wpList _ _ _ (⟨_, .store _ _ _, _, _, _, _⟩ :: _) _ _); apply wpList_storeA hM; rfl; rfl; rfl; (first | rfl | (conv => lhs; whnf)); (focus (repeat (first | exact Hole.head | apply Hole.tail))); (first | (focus (first | (rw [pcell_size, pcell_size]; done) | (rw [pcell_size]; done) | (rw [pcell_size]; rfl))) | rfl); (first | (focus with_reducible exact i36p _ _ _) | kernel_rfl); (first | (focus ((with_reducible refine pcell_one ?_ ?_); (first | rfl | assumption); (first | rfl | assumption))) | exact all_mk rfl); clear hM; intro _ hM; (try dsimp only at hM)))
  exact rep_yes rfl hM (List.Mem.head _) (pcell_zero 6) rfl rfl (SlR.nil _ _) (SlR.nil _ _)
set_option maxHeartbeats 2000000 in
set_option maxRecDepth 100000 in
theorem reply_none (wd rest : ByteArray) (more : Bool) (h0 : ¬ wd.data.toList = wAdded) (h1 : ¬ wd.data.toList = wPurged) (h2 : ¬ wd.data.toList = wMe) (h3 : ¬ wd.data.toList = wContacts) (h4 : ¬ wd.data.toList = wQueued) (h5 : ¬ wd.data.toList = wInbox) (h6 : ¬ wd.data.toList = wStatus) (h7 : ¬ wd.data.toList = wError) (w : World) : Calls Tryz.prog 57 #[.string wd, .string rest, .bool more] w (RepP none w) := by
  have e0 := wEq_no h0
  have e1 := wEq_no h1
  have e2 := wEq_no h2
  have e3 := wEq_no h3
  have e4 := wEq_no h4
  have e5 := wEq_no h5
  have e6 := wEq_no h6
  have e7 := wEq_no h7
  unfold wAdded at e0
  unfold wPurged at e1
  unfold wMe at e2
  unfold wContacts at e3
  unfold wQueued at e4
  unfold wInbox at e5
  unfold wStatus at e6
  unfold wError at e7
  clear h0 h1 h2 h3 h4 h5 h6 h7
  have hM := Mem.start w NoS
  go_enter Tryz.func57, Tryz.ntmps57
  go_wp2_with (first
    | ((with_reducible show wpList _ _ _ _ _ (World.alloc _ (Obj.cells _ 36))); apply wpList_named hM; clear hM; intro _ hM; rw [pcell_zero 0] at hM)
    | ((with_reducible show wpList _ _ _ _ _ (World.alloc _ (Obj.cells _ _))); apply wpList_named hM; clear hM; intro _ hM) | ((with_reducible show wpList _ _ _ (⟨_, .load _ _, _, _, _, _⟩ :: _) _ _); apply wpList_load1 hM; rfl; rfl; rfl; (focus (repeat (first | exact List.Mem.head _ | refine List.Mem.tail _ ?_))); (decide +kernel); (first | (focus fail) | rfl)) | ((with_reducible show wpList _ _ _ (⟨_, .load _ _, _, _, _, _⟩ :: _) _ _); apply wpList_loadA hM; rfl; rfl; rfl; (focus (repeat (first | exact List.Mem.head _ | refine List.Mem.tail _ ?_))); (decide +kernel); (first | (focus with_reducible exact i36p _ _ _) | kernel_rfl)) | ((with_reducible show wpList _ _ _ (⟨_, .store _ _ _, _, _, _, _⟩ :: _) _ _); apply wpList_store1 hM; rfl; rfl; rfl; (conv => lhs; whnf); (focus (repeat (first | exact Hole.head | apply Hole.tail))); (first | (focus (with_reducible rw [pcell_size]; decide)) | exact Nat.le_of_ble_eq_true rfl | (simp; done)); (decide +kernel); (first | rfl | assumption | (apply Mem.rowOne hM; (focus (repeat (first | exact List.Mem.head _ | refine List.Mem.tail _ ?_))))); clear hM; intro _ hM; (try dsimp only at hM); (try simp only [pcell_set0, pcell_set33, pcell_set34, pcell_set35, pcell_set36, pcell_set37, pcell_set38, pcell_set39, List.setIfInBounds_toArray, List.set_cons_zero, List.set_cons_succ, List.nil_append, List.cons_append, List.length_map] at hM)) | ((with_reducible show wpList _ _ _ (⟨_, .store _ _ _, _, _, _, _⟩ :: _) _ _); apply wpList_storeA hM; rfl; rfl; rfl; (first | rfl | (conv => lhs; whnf)); (focus (repeat (first | exact Hole.head | apply Hole.tail))); (first | (focus (first | (rw [pcell_size, pcell_size]; done) | (rw [pcell_size]; done) | (rw [pcell_size]; rfl))) | rfl); (first | (focus with_reducible exact i36p _ _ _) | kernel_rfl); (first | (focus ((with_reducible refine pcell_one ?_ ?_); (first | rfl | assumption); (first | rfl | assumption))) | exact all_mk rfl); clear hM; intro _ hM; (try dsimp only at hM)))
  exact rep_no rfl hM (List.Mem.head _) rfl rfl rfl rfl rfl
set_option maxHeartbeats 400000 in
set_option maxRecDepth 100000 in
theorem reply_queued (wd : ByteArray) (rest : List UInt8) (hl : rest.length ≤ 1000000) (more : Bool) (h0 : ¬ wd.data.toList = wAdded) (h1 : ¬ wd.data.toList = wPurged) (h2 : ¬ wd.data.toList = wMe) (h3 : ¬ wd.data.toList = wContacts) (h4 : wd.data.toList = wQueued) (w : World) (hv : Vars w) : Calls Tryz.prog 57 #[.string wd, strV rest, .bool more] w (RepP (if numB rest then some { Rep.zero with kind := 4, seq := decV rest } else none) w) := by
  have e0 := wEq_no h0
  have e1 := wEq_no h1
  have e2 := wEq_no h2
  have e3 := wEq_no h3
  have e4 := wEq_yes h4
  unfold wAdded at e0
  unfold wPurged at e1
  unfold wMe at e2
  unfold wContacts at e3
  unfold wQueued at e4
  clear h0 h1 h2 h3 h4
  have HV := Lib.hid hv; clear hv
  have hnum := fun w' h' => number_list rest hl w' h'
  cases hn : numB rest with
  | true =>
    rw [if_pos rfl]
    have HN := Lib.hid hn; clear hn
    have hnum' : ∀ w', Vars w' → Calls Tryz.prog 69 #[strV rest] w' fun e w'' => e = .returned (.tuple #[.int .i64 (decV rest), .bool true]) ∧ Ext w' w'' := fun w' h' => (hnum w' h').mono fun e w'' ⟨n, h1, h2, h3⟩ => ⟨by rw [h1, h2 HN.out, HN.out], h3⟩
    clear hnum
    generalize (decV rest : Int) = n at *
    have hM := Mem.start w NoS
    go_enter Tryz.func57, Tryz.ntmps57
    go_wp2_with (first
      | ((with_reducible show wpList _ _ _ _ _ (World.alloc _ (Obj.cells _ 36))); apply wpList_named hM; clear hM; intro _ hM; rw [pcell_zero 0] at hM)
      | ((with_reducible show wpList _ _ _ _ _ (World.alloc _ (Obj.cells _ _))); apply wpList_named hM; clear hM; intro _ hM) | ((with_reducible show wpList _ _ _ (⟨_, .load _ _, _, _, _, _⟩ :: _) _ _); apply wpList_load1 hM; rfl; rfl; rfl; (focus (repeat (first | exact List.Mem.head _ | refine List.Mem.tail _ ?_))); (decide +kernel); (first | (focus fail) | rfl)) | ((with_reducible show wpList _ _ _ (⟨_, .load _ _, _, _, _, _⟩ :: _) _ _); apply wpList_loadA hM; rfl; rfl; rfl; (focus (repeat (first | exact List.Mem.head _ | refine List.Mem.tail _ ?_))); (decide +kernel); (first | (focus with_reducible exact i36p _ _ _) | kernel_rfl)) | ((with_reducible show wpList _ _ _ (⟨_, .store _ _ _, _, _, _, _⟩ :: _) _ _); apply wpList_store1 hM; rfl; rfl; rfl; (conv => lhs; whnf); (focus (repeat (first | exact Hole.head | apply Hole.tail))); (first | (focus (with_reducible rw [pcell_size]; decide)) | exact Nat.le_of_ble_eq_true rfl | (simp; done)); (decide +kernel); (first | rfl | assumption | (apply Mem.rowOne hM; (focus (repeat (first | exact List.Mem.head _ | refine List.Mem.tail _ ?_))))); clear hM; intro _ hM; (try dsimp only at hM); (try simp only [pcell_set0, pcell_set33, pcell_set34, pcell_set35, pcell_set36, pcell_set37, pcell_set38, pcell_set39, List.setIfInBounds_toArray, List.set_cons_zero, List.set_cons_succ, List.nil_append, List.cons_append, List.length_map] at hM)) | ((with_reducible show wpList _ _ _ (⟨_, .store _ _ _, _, _, _, _⟩ :: _) _ _); apply wpList_storeA hM; rfl; rfl; rfl; (first | rfl | (conv => lhs; whnf)); (focus (repeat (first | exact Hole.head | apply Hole.tail))); (first | (focus (first | (rw [pcell_size, pcell_size]; done) | (rw [pcell_size]; done) | (rw [pcell_size]; rfl))) | rfl); (first | (focus with_reducible exact i36p _ _ _) | kernel_rfl); (first | (focus ((with_reducible refine pcell_one ?_ ?_); (first | rfl | assumption); (first | rfl | assumption))) | exact all_mk rfl); clear hM; intro _ hM; (try dsimp only at hM))
      | ((with_reducible show Calls _ 69 _ _ _); refine (hnum' _ (hM.vars HV.out)).mono ?_; rintro e w2 ⟨rfl, hx2⟩; replace hM := hM.ext hx2; clear hx2))
    exact rep_yes rfl hM (List.Mem.head _) rfl rfl rfl (SlR.nil _ _) (SlR.nil _ _)
  | false =>
    rw [if_neg (by simp)]
    have HN := Lib.hid hn; clear hn
    have hnum' : ∀ w', Vars w' → Calls Tryz.prog 69 #[strV rest] w' fun e w'' => (∃ n : Int, e = .returned (.tuple #[.int .i64 n, .bool false])) ∧ Ext w' w'' := fun w' h' => (hnum w' h').mono fun e w'' ⟨n, h1, h2, h3⟩ => ⟨⟨n, by rw [h1, HN.out]⟩, h3⟩
    clear hnum
    have hM := Mem.start w NoS
    go_enter Tryz.func57, Tryz.ntmps57
    go_wp2_with (first
      | ((with_reducible show wpList _ _ _ _ _ (World.alloc _ (Obj.cells _ 36))); apply wpList_named hM; clear hM; intro _ hM; rw [pcell_zero 0] at hM)
      | ((with_reducible show wpList _ _ _ _ _ (World.alloc _ (Obj.cells _ _))); apply wpList_named hM; clear hM; intro _ hM) | ((with_reducible show wpList _ _ _ (⟨_, .load _ _, _, _, _, _⟩ :: _) _ _); apply wpList_load1 hM; rfl; rfl; rfl; (focus (repeat (first | exact List.Mem.head _ | refine List.Mem.tail _ ?_))); (decide +kernel); (first | (focus fail) | rfl)) | ((with_reducible show wpList _ _ _ (⟨_, .load _ _, _, _, _, _⟩ :: _) _ _); apply wpList_loadA hM; rfl; rfl; rfl; (focus (repeat (first | exact List.Mem.head _ | refine List.Mem.tail _ ?_))); (decide +kernel); (first | (focus with_reducible exact i36p _ _ _) | kernel_rfl)) | ((with_reducible show wpList _ _ _ (⟨_, .store _ _ _, _, _, _, _⟩ :: _) _ _); apply wpList_store1 hM; rfl; rfl; rfl; (conv => lhs; whnf); (focus (repeat (first | exact Hole.head | apply Hole.tail))); (first | (focus (with_reducible rw [pcell_size]; decide)) | exact Nat.le_of_ble_eq_true rfl | (simp; done)); (decide +kernel); (first | rfl | assumption | (apply Mem.rowOne hM; (focus (repeat (first | exact List.Mem.head _ | refine List.Mem.tail _ ?_))))); clear hM; intro _ hM; (try dsimp only at hM); (try simp only [pcell_set0, pcell_set33, pcell_set34, pcell_set35, pcell_set36, pcell_set37, pcell_set38, pcell_set39, List.setIfInBounds_toArray, List.set_cons_zero, List.set_cons_succ, List.nil_append, List.cons_append, List.length_map] at hM)) | ((with_reducible show wpList _ _ _ (⟨_, .store _ _ _, _, _, _, _⟩ :: _) _ _); apply wpList_storeA hM; rfl; rfl; rfl; (first | rfl | (conv => lhs; whnf)); (focus (repeat (first | exact Hole.head | apply Hole.tail))); (first | (focus (first | (rw [pcell_size, pcell_size]; done) | (rw [pcell_size]; done) | (rw [pcell_size]; rfl))) | rfl); (first | (focus with_reducible exact i36p _ _ _) | kernel_rfl); (first | (focus ((with_reducible refine pcell_one ?_ ?_); (first | rfl | assumption); (first | rfl | assumption))) | exact all_mk rfl); clear hM; intro _ hM; (try dsimp only at hM))
      | ((with_reducible show Calls _ 69 _ _ _); refine (hnum' _ (hM.vars HV.out)).mono ?_; rintro e w2 ⟨⟨n, rfl⟩, hx2⟩; replace hM := hM.ext hx2; clear hx2))
    exact rep_no rfl hM (List.Mem.head _) rfl rfl rfl rfl rfl
set_option maxHeartbeats 2000000 in
set_option maxRecDepth 100000 in
theorem reply_contacts (wd rest : ByteArray) (hl : rest.size ≤ 1000000) (more : Bool) (h0 : ¬ wd.data.toList = wAdded) (h1 : ¬ wd.data.toList = wPurged) (h2 : ¬ wd.data.toList = wMe) (h3 : wd.data.toList = wContacts) (w : World) (hv : Vars w) : Calls Tryz.prog 57 #[.string wd, .string rest, .bool more] w (RepP ((contactsS (bl rest)).map fun l => { Rep.zero with kind := 3, names := l }) w) := by
  have e0 := wEq_no h0
  have e1 := wEq_no h1
  have e2 := wEq_no h2
  have e3 := wEq_yes h3
  unfold wAdded at e0
  unfold wPurged at e1
  unfold wMe at e2
  unfold wContacts at e3
  clear h0 h1 h2 h3
  have HV := Lib.hid hv; clear hv
  have hcall := fun w' h' => contacts_any rest hl w' h'
  cases hc : contactsS (bl rest) with
  | some l =>
    have HC := Lib.hid hc; clear hc
    have hcall' : ∀ w', Vars w' → Calls Tryz.prog 79 #[.string rest] w' fun e w'' => ∃ v : Value, e = .returned (.tuple #[v, .bool true]) ∧ v.oneCell' = true ∧ SlR w'' w'.heap.size v l ∧ Ext w' w'' := fun w' h' => (hcall w' h').mono fun e w'' ⟨v, h1, h2, h3, h4⟩ => ⟨v, by rw [h1, HC.out]; rfl, h2, h3 l HC.out, h4⟩
    clear hcall
    have hM := Mem.start w NoS
    go_enter Tryz.func57, Tryz.ntmps57
    go_wp2_with (first
      | ((with_reducible show wpList _ _ _ _ _ (World.alloc _ (Obj.cells _ 36))); apply wpList_named hM; clear hM; intro _ hM; rw [pcell_zero 0] at hM)
      | ((with_reducible show wpList _ _ _ _ _ (World.alloc _ (Obj.cells _ _))); apply wpList_named hM; clear hM; intro _ hM) | ((with_reducible show wpList _ _ _ (⟨_, .load _ _, _, _, _, _⟩ :: _) _ _); apply wpList_load1 hM; rfl; rfl; rfl; (focus (repeat (first | exact List.Mem.head _ | refine List.Mem.tail _ ?_))); (decide +kernel); (first | (focus fail) | rfl)) | ((with_reducible show wpList _ _ _ (⟨_, .load _ _, _, _, _, _⟩ :: _) _ _); apply wpList_loadA hM; rfl; rfl; rfl; (focus (repeat (first | exact List.Mem.head _ | refine List.Mem.tail _ ?_))); (decide +kernel); (first | (focus with_reducible exact i36p _ _ _) | kernel_rfl)) | ((with_reducible show wpList _ _ _ (⟨_, .store _ _ _, _, _, _, _⟩ :: _) _ _); apply wpList_store1 hM; rfl; rfl; rfl; (conv => lhs; whnf); (focus (repeat (first | exact Hole.head | apply Hole.tail))); (first | (focus (with_reducible rw [pcell_size]; decide)) | exact Nat.le_of_ble_eq_true rfl | (simp; done)); (decide +kernel); (first | rfl | assumption | (apply Mem.rowOne hM; (focus (repeat (first | exact List.Mem.head _ | refine List.Mem.tail _ ?_))))); clear hM; intro _ hM; (try dsimp only at hM); (try simp only [pcell_set0, pcell_set33, pcell_set34, pcell_set35, pcell_set36, pcell_set37, pcell_set38, pcell_set39, List.setIfInBounds_toArray, List.set_cons_zero, List.set_cons_succ, List.nil_append, List.cons_append, List.length_map] at hM)) | ((with_reducible show wpList _ _ _ (⟨_, .store _ _ _, _, _, _, _⟩ :: _) _ _); apply wpList_storeA hM; rfl; rfl; rfl; (first | rfl | (conv => lhs; whnf)); (focus (repeat (first | exact Hole.head | apply Hole.tail))); (first | (focus (first | (rw [pcell_size, pcell_size]; done) | (rw [pcell_size]; done) | (rw [pcell_size]; rfl))) | rfl); (first | (focus with_reducible exact i36p _ _ _) | kernel_rfl); (first | (focus ((with_reducible refine pcell_one ?_ ?_); (first | rfl | assumption); (first | rfl | assumption))) | exact all_mk rfl); clear hM; intro _ hM; (try dsimp only at hM))
      | ((with_reducible show Calls _ 79 _ _ _); refine (hcall' _ (hM.vars HV.out)).mono ?_; rintro e w2 ⟨v, rfl, hv1, hsl, hx2⟩; have hz := hM.size; replace hM := hM.told hx2 hsl; clear hsl hx2))
    exact rep_yes rfl hM (List.Mem.tail _ (List.Mem.head _)) rfl rfl rfl (Rd.mono (hM.theRd (List.Mem.head _)) (by omega)) (SlR.nil _ _)
  | none =>
    have HC := Lib.hid hc; clear hc
    have hcall' : ∀ w', Vars w' → Calls Tryz.prog 79 #[.string rest] w' fun e w'' => ∃ v : Value, e = .returned (.tuple #[v, .bool false]) ∧ v.oneCell' = true ∧ Ext w' w'' := fun w' h' => (hcall w' h').mono fun e w'' ⟨v, h1, h2, h3, h4⟩ => ⟨v, by rw [h1, HC.out]; rfl, h2, h4⟩
    clear hcall
    have hM := Mem.start w NoS
    go_enter Tryz.func57, Tryz.ntmps57
    go_wp2_with (first
      | ((with_reducible show wpList _ _ _ _ _ (World.alloc _ (Obj.cells _ 36))); apply wpList_named hM; clear hM; intro _ hM; rw [pcell_zero 0] at hM)
      | ((with_reducible show wpList _ _ _ _ _ (World.alloc _ (Obj.cells _ _))); apply wpList_named hM; clear hM; intro _ hM) | ((with_reducible show wpList _ _ _ (⟨_, .load _ _, _, _, _, _⟩ :: _) _ _); apply wpList_load1 hM; rfl; rfl; rfl; (focus (repeat (first | exact List.Mem.head _ | refine List.Mem.tail _ ?_))); (decide +kernel); (first | (focus fail) | rfl)) | ((with_reducible show wpList _ _ _ (⟨_, .load _ _, _, _, _, _⟩ :: _) _ _); apply wpList_loadA hM; rfl; rfl; rfl; (focus (repeat (first | exact List.Mem.head _ | refine List.Mem.tail _ ?_))); (decide +kernel); (first | (focus with_reducible exact i36p _ _ _) | kernel_rfl)) | ((with_reducible show wpList _ _ _ (⟨_, .store _ _ _, _, _, _, _⟩ :: _) _ _); apply wpList_store1 hM; rfl; rfl; rfl; (conv => lhs; whnf); (focus (repeat (first | exact Hole.head | apply Hole.tail))); (first | (focus (with_reducible rw [pcell_size]; decide)) | exact Nat.le_of_ble_eq_true rfl | (simp; done)); (decide +kernel); (first | rfl | assumption | (apply Mem.rowOne hM; (focus (repeat (first | exact List.Mem.head _ | refine List.Mem.tail _ ?_))))); clear hM; intro _ hM; (try dsimp only at hM); (try simp only [pcell_set0, pcell_set33, pcell_set34, pcell_set35, pcell_set36, pcell_set37, pcell_set38, pcell_set39, List.setIfInBounds_toArray, List.set_cons_zero, List.set_cons_succ, List.nil_append, List.cons_append, List.length_map] at hM)) | ((with_reducible show wpList _ _ _ (⟨_, .store _ _ _, _, _, _, _⟩ :: _) _ _); apply wpList_storeA hM; rfl; rfl; rfl; (first | rfl | (conv => lhs; whnf)); (focus (repeat (first | exact Hole.head | apply Hole.tail))); (first | (focus (first | (rw [pcell_size, pcell_size]; done) | (rw [pcell_size]; done) | (rw [pcell_size]; rfl))) | rfl); (first | (focus with_reducible exact i36p _ _ _) | kernel_rfl); (first | (focus ((with_reducible refine pcell_one ?_ ?_); (first | rfl | assumption); (first | rfl | assumption))) | exact all_mk rfl); clear hM; intro _ hM; (try dsimp only at hM))
      | ((with_reducible show Calls _ 79 _ _ _); refine (hcall' _ (hM.vars HV.out)).mono ?_; rintro e w2 ⟨v, rfl, hv1, hx2⟩; replace hM := hM.ext hx2; clear hx2))
    exact rep_no rfl hM (List.Mem.head _) rfl rfl rfl (by first | rfl | assumption) (by first | rfl | assumption)
set_option maxHeartbeats 2000000 in
set_option maxRecDepth 100000 in
theorem reply_inbox (wd rest : ByteArray) (hl : rest.size ≤ 1000000) (more : Bool) (h0 : ¬ wd.data.toList = wAdded) (h1 : ¬ wd.data.toList = wPurged) (h2 : ¬ wd.data.toList = wMe) (h3 : ¬ wd.data.toList = wContacts) (h4 : ¬ wd.data.toList = wQueued) (h5 : wd.data.toList = wInbox) (w : World) (hv : Vars w) : Calls Tryz.prog 57 #[.string wd, .string rest, .bool more] w (RepP ((inboxS (bl rest)).map fun l => { Rep.zero with kind := 5, texts := l }) w) := by
  have e0 := wEq_no h0
  have e1 := wEq_no h1
  have e2 := wEq_no h2
  have e3 := wEq_no h3
  have e4 := wEq_no h4
  have e5 := wEq_yes h5
  unfold wAdded at e0
  unfold wPurged at e1
  unfold wMe at e2
  unfold wContacts at e3
  unfold wQueued at e4
  unfold wInbox at e5
  clear h0 h1 h2 h3 h4 h5
  have HV := Lib.hid hv; clear hv
  have hcall := fun w' h' => inbox_any rest hl w' h'
  cases hc : inboxS (bl rest) with
  | some l =>
    have HC := Lib.hid hc; clear hc
    have hcall' : ∀ w', Vars w' → Calls Tryz.prog 80 #[.string rest] w' fun e w'' => ∃ v : Value, e = .returned (.tuple #[v, .bool true]) ∧ v.oneCell' = true ∧ SlR w'' w'.heap.size v l ∧ Ext w' w'' := fun w' h' => (hcall w' h').mono fun e w'' ⟨v, h1, h2, h3, h4⟩ => ⟨v, by rw [h1, HC.out]; rfl, h2, Rd.ofOwn (h3 l HC.out), h4⟩
    clear hcall
    have hM := Mem.start w NoS
    go_enter Tryz.func57, Tryz.ntmps57
    go_wp2_with (first
      | ((with_reducible show wpList _ _ _ _ _ (World.alloc _ (Obj.cells _ 36))); apply wpList_named hM; clear hM; intro _ hM; rw [pcell_zero 0] at hM)
      | ((with_reducible show wpList _ _ _ _ _ (World.alloc _ (Obj.cells _ _))); apply wpList_named hM; clear hM; intro _ hM) | ((with_reducible show wpList _ _ _ (⟨_, .load _ _, _, _, _, _⟩ :: _) _ _); apply wpList_load1 hM; rfl; rfl; rfl; (focus (repeat (first | exact List.Mem.head _ | refine List.Mem.tail _ ?_))); (decide +kernel); (first | (focus fail) | rfl)) | ((with_reducible show wpList _ _ _ (⟨_, .load _ _, _, _, _, _⟩ :: _) _ _); apply wpList_loadA hM; rfl; rfl; rfl; (focus (repeat (first | exact List.Mem.head _ | refine List.Mem.tail _ ?_))); (decide +kernel); (first | (focus with_reducible exact i36p _ _ _) | kernel_rfl)) | ((with_reducible show wpList _ _ _ (⟨_, .store _ _ _, _, _, _, _⟩ :: _) _ _); apply wpList_store1 hM; rfl; rfl; rfl; (conv => lhs; whnf); (focus (repeat (first | exact Hole.head | apply Hole.tail))); (first | (focus (with_reducible rw [pcell_size]; decide)) | exact Nat.le_of_ble_eq_true rfl | (simp; done)); (decide +kernel); (first | rfl | assumption | (apply Mem.rowOne hM; (focus (repeat (first | exact List.Mem.head _ | refine List.Mem.tail _ ?_))))); clear hM; intro _ hM; (try dsimp only at hM); (try simp only [pcell_set0, pcell_set33, pcell_set34, pcell_set35, pcell_set36, pcell_set37, pcell_set38, pcell_set39, List.setIfInBounds_toArray, List.set_cons_zero, List.set_cons_succ, List.nil_append, List.cons_append, List.length_map] at hM)) | ((with_reducible show wpList _ _ _ (⟨_, .store _ _ _, _, _, _, _⟩ :: _) _ _); apply wpList_storeA hM; rfl; rfl; rfl; (first | rfl | (conv => lhs; whnf)); (focus (repeat (first | exact Hole.head | apply Hole.tail))); (first | (focus (first | (rw [pcell_size, pcell_size]; done) | (rw [pcell_size]; done) | (rw [pcell_size]; rfl))) | rfl); (first | (focus with_reducible exact i36p _ _ _) | kernel_rfl); (first | (focus ((with_reducible refine pcell_one ?_ ?_); (first | rfl | assumption); (first | rfl | assumption))) | exact all_mk rfl); clear hM; intro _ hM; (try dsimp only at hM))
      | ((with_reducible show Calls _ 80 _ _ _); refine (hcall' _ (hM.vars HV.out)).mono ?_; rintro e w2 ⟨v, rfl, hv1, hsl, hx2⟩; have hz := hM.size; replace hM := hM.told hx2 hsl; clear hsl hx2))
    exact rep_yes rfl hM (List.Mem.tail _ (List.Mem.head _)) rfl rfl rfl (SlR.nil _ _) (Rd.mono (hM.theRd (List.Mem.head _)) (by omega))
  | none =>
    have HC := Lib.hid hc; clear hc
    have hcall' : ∀ w', Vars w' → Calls Tryz.prog 80 #[.string rest] w' fun e w'' => ∃ v : Value, e = .returned (.tuple #[v, .bool false]) ∧ v.oneCell' = true ∧ Ext w' w'' := fun w' h' => (hcall w' h').mono fun e w'' ⟨v, h1, h2, h3, h4⟩ => ⟨v, by rw [h1, HC.out]; rfl, h2, h4⟩
    clear hcall
    have hM := Mem.start w NoS
    go_enter Tryz.func57, Tryz.ntmps57
    go_wp2_with (first
      | ((with_reducible show wpList _ _ _ _ _ (World.alloc _ (Obj.cells _ 36))); apply wpList_named hM; clear hM; intro _ hM; rw [pcell_zero 0] at hM)
      | ((with_reducible show wpList _ _ _ _ _ (World.alloc _ (Obj.cells _ _))); apply wpList_named hM; clear hM; intro _ hM) | ((with_reducible show wpList _ _ _ (⟨_, .load _ _, _, _, _, _⟩ :: _) _ _); apply wpList_load1 hM; rfl; rfl; rfl; (focus (repeat (first | exact List.Mem.head _ | refine List.Mem.tail _ ?_))); (decide +kernel); (first | (focus fail) | rfl)) | ((with_reducible show wpList _ _ _ (⟨_, .load _ _, _, _, _, _⟩ :: _) _ _); apply wpList_loadA hM; rfl; rfl; rfl; (focus (repeat (first | exact List.Mem.head _ | refine List.Mem.tail _ ?_))); (decide +kernel); (first | (focus with_reducible exact i36p _ _ _) | kernel_rfl)) | ((with_reducible show wpList _ _ _ (⟨_, .store _ _ _, _, _, _, _⟩ :: _) _ _); apply wpList_store1 hM; rfl; rfl; rfl; (conv => lhs; whnf); (focus (repeat (first | exact Hole.head | apply Hole.tail))); (first | (focus (with_reducible rw [pcell_size]; decide)) | exact Nat.le_of_ble_eq_true rfl | (simp; done)); (decide +kernel); (first | rfl | assumption | (apply Mem.rowOne hM; (focus (repeat (first | exact List.Mem.head _ | refine List.Mem.tail _ ?_))))); clear hM; intro _ hM; (try dsimp only at hM); (try simp only [pcell_set0, pcell_set33, pcell_set34, pcell_set35, pcell_set36, pcell_set37, pcell_set38, pcell_set39, List.setIfInBounds_toArray, List.set_cons_zero, List.set_cons_succ, List.nil_append, List.cons_append, List.length_map] at hM)) | ((with_reducible show wpList _ _ _ (⟨_, .store _ _ _, _, _, _, _⟩ :: _) _ _); apply wpList_storeA hM; rfl; rfl; rfl; (first | rfl | (conv => lhs; whnf)); (focus (repeat (first | exact Hole.head | apply Hole.tail))); (first | (focus (first | (rw [pcell_size, pcell_size]; done) | (rw [pcell_size]; done) | (rw [pcell_size]; rfl))) | rfl); (first | (focus with_reducible exact i36p _ _ _) | kernel_rfl); (first | (focus ((with_reducible refine pcell_one ?_ ?_); (first | rfl | assumption); (first | rfl | assumption))) | exact all_mk rfl); clear hM; intro _ hM; (try dsimp only at hM))
      | ((with_reducible show Calls _ 80 _ _ _); refine (hcall' _ (hM.vars HV.out)).mono ?_; rintro e w2 ⟨v, rfl, hv1, hx2⟩; replace hM := hM.ext hx2; clear hx2))
    exact rep_no rfl hM (List.Mem.head _) rfl rfl rfl (by first | rfl | assumption) (by first | rfl | assumption)
set_option maxHeartbeats 2000000 in
set_option maxRecDepth 100000 in
theorem reply_statusN (wd rest : ByteArray) (hl : rest.size ≤ 1000000) (more : Bool) (h0 : ¬ wd.data.toList = wAdded) (h1 : ¬ wd.data.toList = wPurged) (h2 : ¬ wd.data.toList = wMe) (h3 : ¬ wd.data.toList = wContacts) (h4 : ¬ wd.data.toList = wQueued) (h5 : ¬ wd.data.toList = wInbox) (h6 : wd.data.toList = wStatus) (hn : (spl (bl rest)).length ≠ 3) (w : World) (hv : Vars w) : Calls Tryz.prog 57 #[.string wd, .string rest, .bool more] w (RepP none w) := by
  have e0 := wEq_no h0
  have e1 := wEq_no h1
  have e2 := wEq_no h2
  have e3 := wEq_no h3
  have e4 := wEq_no h4
  have e5 := wEq_no h5
  have e6 := wEq_yes h6
  unfold wAdded at e0
  unfold wPurged at e1
  unfold wMe at e2
  unfold wContacts at e3
  unfold wQueued at e4
  unfold wInbox at e5
  unfold wStatus at e6
  clear h0 h1 h2 h3 h4 h5 h6
  have HV := Lib.hid hv; clear hv
  have hspl := fun w' h' => split_any rest hl w' h'
  generalize spl (bl rest) = l at *
  have hn3 : ((l.length : Int) != 3) = true := by simp; omega
  clear hn
  generalize hm : l.length = m at *
  clear hm
  have hM := Mem.start w NoS
  go_enter Tryz.func57, Tryz.ntmps57
  go_wp2_with (first
    | ((with_reducible show wpList _ _ _ _ _ (World.alloc _ (Obj.cells _ 36))); apply wpList_named hM; clear hM; intro _ hM; rw [pcell_zero 0] at hM)
    | ((with_reducible show wpList _ _ _ _ _ (World.alloc _ (Obj.cells _ _))); apply wpList_named hM; clear hM; intro _ hM) | ((with_reducible show wpList _ _ _ (⟨_, .load _ _, _, _, _, _⟩ :: _) _ _); apply wpList_load1 hM; rfl; rfl; rfl; (focus (repeat (first | exact List.Mem.head _ | refine List.Mem.tail _ ?_))); (decide +kernel); (first | (focus fail) | rfl)) | ((with_reducible show wpList _ _ _ (⟨_, .load _ _, _, _, _, _⟩ :: _) _ _); apply wpList_loadA hM; rfl; rfl; rfl; (focus (repeat (first | exact List.Mem.head _ | refine List.Mem.tail _ ?_))); (decide +kernel); (first | (focus with_reducible exact i36p _ _ _) | kernel_rfl)) | ((with_reducible show wpList _ _ _ (⟨_, .store _ _ _, _, _, _, _⟩ :: _) _ _); apply wpList_store1 hM; rfl; rfl; rfl; (conv => lhs; whnf); (focus (repeat (first | exact Hole.head | apply Hole.tail))); (first | (focus (with_reducible rw [pcell_size]; decide)) | exact Nat.le_of_ble_eq_true rfl | (simp; done)); (decide +kernel); (first | rfl | assumption | (apply Mem.rowOne hM; (focus (repeat (first | exact List.Mem.head _ | refine List.Mem.tail _ ?_))))); clear hM; intro _ hM; (try dsimp only at hM); (try simp only [pcell_set0, pcell_set33, pcell_set34, pcell_set35, pcell_set36, pcell_set37, pcell_set38, pcell_set39, List.setIfInBounds_toArray, List.set_cons_zero, List.set_cons_succ, List.nil_append, List.cons_append, List.length_map] at hM)) | ((with_reducible show wpList _ _ _ (⟨_, .store _ _ _, _, _, _, _⟩ :: _) _ _); apply wpList_storeA hM; rfl; rfl; rfl; (first | rfl | (conv => lhs; whnf)); (focus (repeat (first | exact Hole.head | apply Hole.tail))); (first | (focus (first | (rw [pcell_size, pcell_size]; done) | (rw [pcell_size]; done) | (rw [pcell_size]; rfl))) | rfl); (first | (focus with_reducible exact i36p _ _ _) | kernel_rfl); (first | (focus ((with_reducible refine pcell_one ?_ ?_); (first | rfl | assumption); (first | rfl | assumption))) | exact all_mk rfl); clear hM; intro _ hM; (try dsimp only at hM))
    | ((with_reducible show Calls _ 58 _ _ _); refine (hspl _ (hM.vars HV.out)).mono ?_; rintro e w2 ⟨rfl, rfl⟩))
  exact rep_no rfl hM (List.Mem.tail _ (List.Mem.head _)) rfl rfl rfl rfl rfl
end Go.Proofs.YtigfkfjlfpndfaaGreatDoor
