/-
  line.CheckReply and line.PrintReply, over what printReply and Reply tell.
-/
import Derived.Test.YtigfkfjlfpndfaaGreatDoorSame
namespace Go.Proofs.YtigfkfjlfpndfaaGreatDoor
open Go.RowKit Sp

/-- what a reply's printing and the reading of its line tell, at one reply -/
structure Rounds (r : Rep) : Prop where
  prints : ∀ (nv tv : Value) (w : World), Vars w → SlR w 0 nv r.names → SlR w 0 tv r.texts → Calls Tryz.prog 46 #[.agg (pcell r nv tv)] w fun e w' => e = .returned (strV (lineR r)) ∧ Ext w w'
  reads : ∀ w, Vars w → Calls Tryz.prog 29 #[strV (lineR r)] w (RplP (replyOf (lineR r)) w)

/-- all texts may be -/
def textsB (r : Rep) : Bool := r.texts.all textB
open Classical in
/-- may a reply be -/
noncomputable def okRep (r : Rep) : Bool := textsB r && (match replyOf (lineR r) with | .ok q => sameB q r | .error _ => false)
theorem replyOf_err {l : List UInt8} {p : Int × Int} (h : replyOf l = .error p) : p.1 = 340 ∨ p.1 = 3 := by
  unfold replyOf at h
  split at h
  · injection h with h; rw [← h]; exact .inr rfl
  · split at h
    · cases h
    · injection h with h; rw [← h]; exact .inl rfl

def CkL (w : World) (TX : List (List UInt8)) (g : Nat) (C : Array Value) (ty : TypeId) (K : Array Value) (i : Value) (wr : World) : Prop :=
  ∃ k : Nat, k ≤ TX.length ∧ i = .int .i64 k ∧ (TX.take k).all textB = true ∧ Mem w NoS wr [.blk true w.heap.size K 36, .blk false g C ty]
set_option maxHeartbeats 2000000 in
set_option maxRecDepth 100000 in
theorem ck_s_bad (r : Rep) (hr : RepW r) (hlen : r.texts.length ≤ 1000000 ∧ ∀ p ∈ r.texts, p.length ≤ 1000000) (hR : Rounds r) (nv tv : Value) (w : World) (hv : Vars w) (h1 : SlR w 0 nv r.names) (h2 : SlR w 0 tv r.texts) (g o c : Nat) (C : Array Value) (ty : TypeId) (htv : tv = .slice (some ⟨g, o, none⟩) r.texts.length c) (hblk : Blk w g C ty) (hC : ∀ j, j < (r.texts.map strV).length → C[o + j]? = (r.texts.map strV)[j]?) (hb : textsB r = false) : Calls Tryz.prog 17 #[.agg (pcell r nv tv)] w fun e w' => e = .returned (.int .i64 2) ∧ Ext w w' := by
  have HK34 := Lib.hid (pc_of r nv tv).i34
  have i36K := Lib.hid (i36p r nv tv)
  clear hR h1 h2 hr
  have hM := (Mem.start w NoS).old hblk (by simp)
  obtain ⟨n, hn⟩ : ∃ n, r.texts.length = n := ⟨_, rfl⟩
  have hn6 := hlen.1
  rw [hn] at htv hn6
  generalize htx : r.texts = TX at *
  have HN := Lib.hid hn; clear hn
  have hat : ∀ k (h : k < TX.length), C[o + k]? = some (strV TX[k]) := fun k h => by rw [hC k (by rw [List.length_map]; exact h), List.getElem?_map, List.getElem?_eq_getElem h]; rfl
  have HAT := Lib.hid hat; clear hat hC hblk
  have HL := Lib.hid hlen.2; clear hlen
  have hB : TX.all textB = false := by rw [← htx]; exact hb
  have HB := Lib.hid hB; clear hB hb htx
  generalize pcell r nv tv = K at *
  subst htv
  go_enter Tryz.func17, Tryz.ntmps17
  go_wp2_with (first
    | ((with_reducible show wpList _ _ _ _ _ (World.alloc _ (Obj.cells _ _))); apply wpList_named hM; clear hM; intro _ hM) | ((with_reducible show wpList _ _ _ (⟨_, .load _ _, _, _, _, _⟩ :: _) _ _); apply wpList_load1 hM; rfl; rfl; rfl; (focus (repeat (first | exact List.Mem.head _ | refine List.Mem.tail _ ?_))); (decide +kernel); (first | (focus (first | exact HK34.out | exact HCX.out)) | rfl)) | ((with_reducible show wpList _ _ _ (⟨_, .load _ _, _, _, _, _⟩ :: _) _ _); apply wpList_loadA hM; rfl; rfl; rfl; (focus (repeat (first | exact List.Mem.head _ | refine List.Mem.tail _ ?_))); (decide +kernel); (first | (focus (first | with_reducible exact i36p _ _ _ | exact i36K.out | with_reducible exact i30)) | kernel_rfl)) | ((with_reducible show wpList _ _ _ (⟨_, .store _ _ _, _, _, _, _⟩ :: _) _ _); apply wpList_store1 hM; rfl; rfl; rfl; (conv => lhs; whnf); (focus (repeat (first | exact Hole.head | apply Hole.tail))); (first | (focus fail) | exact Nat.le_of_ble_eq_true rfl | (simp; done)); (decide +kernel); (first | rfl | assumption | (apply Mem.rowOne hM; (focus (repeat (first | exact List.Mem.head _ | refine List.Mem.tail _ ?_))))); clear hM; intro _ hM; (try dsimp only at hM); (try simp only [List.setIfInBounds_toArray, List.set_cons_zero, List.set_cons_succ, List.nil_append, List.cons_append, List.length_map] at hM)) | ((with_reducible show wpList _ _ _ (⟨_, .store _ _ _, _, _, _, _⟩ :: _) _ _); apply wpList_storeA hM; rfl; rfl; rfl; (first | rfl | (conv => lhs; whnf)); (focus (repeat (first | exact Hole.head | apply Hole.tail))); (first | (focus (first | (rw [pcell_size, pcell_size]; done) | (rw [pcell_size]; done) | (rw [pcell_size]; rfl) | rfl)) | rfl); (first | (focus (first | with_reducible exact i36p _ _ _ | exact i36K.out | with_reducible exact i30)) | kernel_rfl); (first | (focus (first | ((with_reducible refine pcell_one ?_ ?_); (first | rfl | assumption); (first | rfl | assumption)) | exact all_mk rfl)) | exact all_mk rfl); clear hM; intro _ hM; (try dsimp only at hM)))
  go_loopw [10] (fun i wr => CkL w TX g C ty K i wr) (fun i _ => n - (intOf i).toNat)
  case atStart => exact ⟨0, Nat.zero_le _, rfl, by simp, hM⟩
  case round =>
    clear hM
    obtain ⟨k, hk, rfl, hall, hM⟩ := hrel
    by_cases hlt : k < n
    · have hltL : k < TX.length := by rw [HN.out]; exact hlt
      obtain ⟨x, hx⟩ : ∃ x, TX[k] = x := ⟨_, rfl⟩
      have hcx : C[o + k]? = some (strV x) := by rw [HAT.out k hltL, hx]
      have hxl : x.length ≤ 1000000 := HL.out x (by rw [← hx]; exact List.getElem_mem _)
      have ht1 : TX.take (k + 1) = TX.take k ++ [x] := by rw [List.take_succ_eq_append_getElem hltL, hx]
      have hmem : x ∈ TX := by rw [← hx]; exact List.getElem_mem _
      have HX := Lib.hid hx; clear hx
      have HCX := Lib.hid hcx; clear hcx
      have HALL := Lib.hid hall; clear hall
      have HT1 := Lib.hid ht1; clear ht1
      cases htx : textB x with
      | true =>
        have HT := Lib.hid htx; clear htx
        go_wp2_with (first
          | ((with_reducible show wpList _ _ _ _ _ (World.alloc _ (Obj.cells _ _))); apply wpList_named hM; clear hM; intro _ hM) | ((with_reducible show wpList _ _ _ (⟨_, .load _ _, _, _, _, _⟩ :: _) _ _); apply wpList_load1 hM; rfl; rfl; rfl; (focus (repeat (first | exact List.Mem.head _ | refine List.Mem.tail _ ?_))); (decide +kernel); (first | (focus (first | exact HK34.out | exact HCX.out)) | rfl)) | ((with_reducible show wpList _ _ _ (⟨_, .load _ _, _, _, _, _⟩ :: _) _ _); apply wpList_loadA hM; rfl; rfl; rfl; (focus (repeat (first | exact List.Mem.head _ | refine List.Mem.tail _ ?_))); (decide +kernel); (first | (focus (first | with_reducible exact i36p _ _ _ | exact i36K.out | with_reducible exact i30)) | kernel_rfl)) | ((with_reducible show wpList _ _ _ (⟨_, .store _ _ _, _, _, _, _⟩ :: _) _ _); apply wpList_store1 hM; rfl; rfl; rfl; (conv => lhs; whnf); (focus (repeat (first | exact Hole.head | apply Hole.tail))); (first | (focus fail) | exact Nat.le_of_ble_eq_true rfl | (simp; done)); (decide +kernel); (first | rfl | assumption | (apply Mem.rowOne hM; (focus (repeat (first | exact List.Mem.head _ | refine List.Mem.tail _ ?_))))); clear hM; intro _ hM; (try dsimp only at hM); (try simp only [List.setIfInBounds_toArray, List.set_cons_zero, List.set_cons_succ, List.nil_append, List.cons_append, List.length_map] at hM)) | ((with_reducible show wpList _ _ _ (⟨_, .store _ _ _, _, _, _, _⟩ :: _) _ _); apply wpList_storeA hM; rfl; rfl; rfl; (first | rfl | (conv => lhs; whnf)); (focus (repeat (first | exact Hole.head | apply Hole.tail))); (first | (focus (first | (rw [pcell_size, pcell_size]; done) | (rw [pcell_size]; done) | (rw [pcell_size]; rfl) | rfl)) | rfl); (first | (focus (first | with_reducible exact i36p _ _ _ | exact i36K.out | with_reducible exact i30)) | kernel_rfl); (first | (focus (first | ((with_reducible refine pcell_one ?_ ?_); (first | rfl | assumption); (first | rfl | assumption)) | exact all_mk rfl)) | exact all_mk rfl); clear hM; intro _ hM; (try dsimp only at hM))
          | ((with_reducible show Calls _ 27 _ _ _); refine (text_list _ (by omega) _).mono ?_; rintro e _ ⟨rfl, rfl⟩; rw [HT.out]))
        go_roundw
        case rel => exact ⟨k + 1, by rw [HN.out]; omega, by go_num, by rw [HT1.out, List.all_append, HALL.out]; simp [HT.out], hM⟩
        case measure => simp [intOf]; omega
      | false =>
        have HT := Lib.hid htx; clear htx
        go_wp2_with (first
          | ((with_reducible show wpList _ _ _ _ _ (World.alloc _ (Obj.cells _ _))); apply wpList_named hM; clear hM; intro _ hM) | ((with_reducible show wpList _ _ _ (⟨_, .load _ _, _, _, _, _⟩ :: _) _ _); apply wpList_load1 hM; rfl; rfl; rfl; (focus (repeat (first | exact List.Mem.head _ | refine List.Mem.tail _ ?_))); (decide +kernel); (first | (focus (first | exact HK34.out | exact HCX.out)) | rfl)) | ((with_reducible show wpList _ _ _ (⟨_, .load _ _, _, _, _, _⟩ :: _) _ _); apply wpList_loadA hM; rfl; rfl; rfl; (focus (repeat (first | exact List.Mem.head _ | refine List.Mem.tail _ ?_))); (decide +kernel); (first | (focus (first | with_reducible exact i36p _ _ _ | exact i36K.out | with_reducible exact i30)) | kernel_rfl)) | ((with_reducible show wpList _ _ _ (⟨_, .store _ _ _, _, _, _, _⟩ :: _) _ _); apply wpList_store1 hM; rfl; rfl; rfl; (conv => lhs; whnf); (focus (repeat (first | exact Hole.head | apply Hole.tail))); (first | (focus fail) | exact Nat.le_of_ble_eq_true rfl | (simp; done)); (decide +kernel); (first | rfl | assumption | (apply Mem.rowOne hM; (focus (repeat (first | exact List.Mem.head _ | refine List.Mem.tail _ ?_))))); clear hM; intro _ hM; (try dsimp only at hM); (try simp only [List.setIfInBounds_toArray, List.set_cons_zero, List.set_cons_succ, List.nil_append, List.cons_append, List.length_map] at hM)) | ((with_reducible show wpList _ _ _ (⟨_, .store _ _ _, _, _, _, _⟩ :: _) _ _); apply wpList_storeA hM; rfl; rfl; rfl; (first | rfl | (conv => lhs; whnf)); (focus (repeat (first | exact Hole.head | apply Hole.tail))); (first | (focus (first | (rw [pcell_size, pcell_size]; done) | (rw [pcell_size]; done) | (rw [pcell_size]; rfl) | rfl)) | rfl); (first | (focus (first | with_reducible exact i36p _ _ _ | exact i36K.out | with_reducible exact i30)) | kernel_rfl); (first | (focus (first | ((with_reducible refine pcell_one ?_ ?_); (first | rfl | assumption); (first | rfl | assumption)) | exact all_mk rfl)) | exact all_mk rfl); clear hM; intro _ hM; (try dsimp only at hM))
          | ((with_reducible show Calls _ 27 _ _ _); refine (text_list _ (by omega) _).mono ?_; rintro e _ ⟨rfl, rfl⟩; rw [HT.out]))
        go_ret
        exact ⟨rfl, hM.ext0⟩
    · exfalso
      rw [List.take_of_length_le (by rw [HN.out]; omega), HB.out] at hall
      cases hall
set_option maxHeartbeats 2000000 in
set_option maxRecDepth 100000 in
theorem ck_s_err (r : Rep) (hr : RepW r) (hlen : r.texts.length ≤ 1000000 ∧ ∀ p ∈ r.texts, p.length ≤ 1000000) (hR : Rounds r) (nv tv : Value) (w : World) (hv : Vars w) (h1 : SlR w 0 nv r.names) (h2 : SlR w 0 tv r.texts) (g o c : Nat) (C : Array Value) (ty : TypeId) (htv : tv = .slice (some ⟨g, o, none⟩) r.texts.length c) (hblk : Blk w g C ty) (hC : ∀ j, j < (r.texts.map strV).length → C[o + j]? = (r.texts.map strV)[j]?) (hb : textsB r = true) (er at_ : Int) (ho : replyOf (lineR r) = .error (er, at_)) : Calls Tryz.prog 17 #[.agg (pcell r nv tv)] w fun e w' => e = .returned (.int .i64 2) ∧ Ext w w' := by
  have HK34 := Lib.hid (pc_of r nv tv).i34
  have i36K := Lib.hid (i36p r nv tv)
  have hpr : ∀ w', Ext w w' → Calls Tryz.prog 46 #[.agg (pcell r nv tv)] w' fun e w'' => e = .returned (strV (lineR r)) ∧ Ext w' w'' := fun w' h => hR.prints nv tv w' (hv.ext h) (h1.ext h) (h2.ext h)
  have hrd : ∀ w', Ext w w' → Calls Tryz.prog 29 #[strV (lineR r)] w' fun e w'' => e = .returned (.tuple #[.agg (pcell Rep.zero nilV nilV), .agg #[.int .i64 er, .int .i64 at_]]) ∧ Ext w' w'' := fun w' h => (hR.reads w' (hv.ext h)).mono fun e w'' ⟨q, n1, t1, e1, a1, h5, h6, h7⟩ => by
    rw [ho] at h7
    obtain ⟨rfl, rfl, rfl, rfl, rfl⟩ := h7
    exact ⟨h5, h6⟩
  have hne : (er != 0) = true := by rcases replyOf_err ho with h | h <;> (simp only at h; rw [h]; rfl)
  generalize lineR r = LR at *
  clear hR h1 h2 hr ho
  have hM := (Mem.start w NoS).old hblk (by simp)
  obtain ⟨n, hn⟩ : ∃ n, r.texts.length = n := ⟨_, rfl⟩
  have hn6 := hlen.1
  rw [hn] at htv hn6
  generalize htx : r.texts = TX at *
  have HN := Lib.hid hn; clear hn
  have hat : ∀ k (h : k < TX.length), C[o + k]? = some (strV TX[k]) := fun k h => by rw [hC k (by rw [List.length_map]; exact h), List.getElem?_map, List.getElem?_eq_getElem h]; rfl
  have HAT := Lib.hid hat; clear hat hC hblk
  have HL := Lib.hid hlen.2; clear hlen
  have hB : TX.all textB = true := by rw [← htx]; exact hb
  have HB := Lib.hid hB; clear hB hb htx
  generalize pcell r nv tv = K at *
  subst htv
  go_enter Tryz.func17, Tryz.ntmps17
  go_wp2_with (first
    | ((with_reducible show wpList _ _ _ _ _ (World.alloc _ (Obj.cells _ _))); apply wpList_named hM; clear hM; intro _ hM) | ((with_reducible show wpList _ _ _ (⟨_, .load _ _, _, _, _, _⟩ :: _) _ _); apply wpList_load1 hM; rfl; rfl; rfl; (focus (repeat (first | exact List.Mem.head _ | refine List.Mem.tail _ ?_))); (decide +kernel); (first | (focus (first | exact HK34.out | exact HCX.out)) | rfl)) | ((with_reducible show wpList _ _ _ (⟨_, .load _ _, _, _, _, _⟩ :: _) _ _); apply wpList_loadA hM; rfl; rfl; rfl; (focus (repeat (first | exact List.Mem.head _ | refine List.Mem.tail _ ?_))); (decide +kernel); (first | (focus (first | with_reducible exact i36p _ _ _ | exact i36K.out | with_reducible exact i30)) | kernel_rfl)) | ((with_reducible show wpList _ _ _ (⟨_, .store _ _ _, _, _, _, _⟩ :: _) _ _); apply wpList_store1 hM; rfl; rfl; rfl; (conv => lhs; whnf); (focus (repeat (first | exact Hole.head | apply Hole.tail))); (first | (focus fail) | exact Nat.le_of_ble_eq_true rfl | (simp; done)); (decide +kernel); (first | rfl | assumption | (apply Mem.rowOne hM; (focus (repeat (first | exact List.Mem.head _ | refine List.Mem.tail _ ?_))))); clear hM; intro _ hM; (try dsimp only at hM); (try simp only [List.setIfInBounds_toArray, List.set_cons_zero, List.set_cons_succ, List.nil_append, List.cons_append, List.length_map] at hM)) | ((with_reducible show wpList _ _ _ (⟨_, .store _ _ _, _, _, _, _⟩ :: _) _ _); apply wpList_storeA hM; rfl; rfl; rfl; (first | rfl | (conv => lhs; whnf)); (focus (repeat (first | exact Hole.head | apply Hole.tail))); (first | (focus (first | (rw [pcell_size, pcell_size]; done) | (rw [pcell_size]; done) | (rw [pcell_size]; rfl) | rfl)) | rfl); (first | (focus (first | with_reducible exact i36p _ _ _ | exact i36K.out | with_reducible exact i30)) | kernel_rfl); (first | (focus (first | ((with_reducible refine pcell_one ?_ ?_); (first | rfl | assumption); (first | rfl | assumption)) | exact all_mk rfl)) | exact all_mk rfl); clear hM; intro _ hM; (try dsimp only at hM)))
  go_loopw [10] (fun i wr => CkL w TX g C ty K i wr) (fun i _ => n - (intOf i).toNat)
  case atStart => exact ⟨0, Nat.zero_le _, rfl, by simp, hM⟩
  case round =>
    clear hM
    obtain ⟨k, hk, rfl, hall, hM⟩ := hrel
    by_cases hlt : k < n
    · have hltL : k < TX.length := by rw [HN.out]; exact hlt
      obtain ⟨x, hx⟩ : ∃ x, TX[k] = x := ⟨_, rfl⟩
      have hcx : C[o + k]? = some (strV x) := by rw [HAT.out k hltL, hx]
      have hxl : x.length ≤ 1000000 := HL.out x (by rw [← hx]; exact List.getElem_mem _)
      have ht1 : TX.take (k + 1) = TX.take k ++ [x] := by rw [List.take_succ_eq_append_getElem hltL, hx]
      have hmem : x ∈ TX := by rw [← hx]; exact List.getElem_mem _
      have HX := Lib.hid hx; clear hx
      have HCX := Lib.hid hcx; clear hcx
      have HALL := Lib.hid hall; clear hall
      have HT1 := Lib.hid ht1; clear ht1
      have htx : textB x = true := (List.all_eq_true.1 HB.out) x hmem
      have HT := Lib.hid htx; clear htx
      go_wp2_with (first
        | ((with_reducible show wpList _ _ _ _ _ (World.alloc _ (Obj.cells _ _))); apply wpList_named hM; clear hM; intro _ hM) | ((with_reducible show wpList _ _ _ (⟨_, .load _ _, _, _, _, _⟩ :: _) _ _); apply wpList_load1 hM; rfl; rfl; rfl; (focus (repeat (first | exact List.Mem.head _ | refine List.Mem.tail _ ?_))); (decide +kernel); (first | (focus (first | exact HK34.out | exact HCX.out)) | rfl)) | ((with_reducible show wpList _ _ _ (⟨_, .load _ _, _, _, _, _⟩ :: _) _ _); apply wpList_loadA hM; rfl; rfl; rfl; (focus (repeat (first | exact List.Mem.head _ | refine List.Mem.tail _ ?_))); (decide +kernel); (first | (focus (first | with_reducible exact i36p _ _ _ | exact i36K.out | with_reducible exact i30)) | kernel_rfl)) | ((with_reducible show wpList _ _ _ (⟨_, .store _ _ _, _, _, _, _⟩ :: _) _ _); apply wpList_store1 hM; rfl; rfl; rfl; (conv => lhs; whnf); (focus (repeat (first | exact Hole.head | apply Hole.tail))); (first | (focus fail) | exact Nat.le_of_ble_eq_true rfl | (simp; done)); (decide +kernel); (first | rfl | assumption | (apply Mem.rowOne hM; (focus (repeat (first | exact List.Mem.head _ | refine List.Mem.tail _ ?_))))); clear hM; intro _ hM; (try dsimp only at hM); (try simp only [List.setIfInBounds_toArray, List.set_cons_zero, List.set_cons_succ, List.nil_append, List.cons_append, List.length_map] at hM)) | ((with_reducible show wpList _ _ _ (⟨_, .store _ _ _, _, _, _, _⟩ :: _) _ _); apply wpList_storeA hM; rfl; rfl; rfl; (first | rfl | (conv => lhs; whnf)); (focus (repeat (first | exact Hole.head | apply Hole.tail))); (first | (focus (first | (rw [pcell_size, pcell_size]; done) | (rw [pcell_size]; done) | (rw [pcell_size]; rfl) | rfl)) | rfl); (first | (focus (first | with_reducible exact i36p _ _ _ | exact i36K.out | with_reducible exact i30)) | kernel_rfl); (first | (focus (first | ((with_reducible refine pcell_one ?_ ?_); (first | rfl | assumption); (first | rfl | assumption)) | exact all_mk rfl)) | exact all_mk rfl); clear hM; intro _ hM; (try dsimp only at hM))
        | ((with_reducible show Calls _ 27 _ _ _); refine (text_list _ (by omega) _).mono ?_; rintro e _ ⟨rfl, rfl⟩; rw [HT.out]))
      go_roundw
      case rel => exact ⟨k + 1, by rw [HN.out]; omega, by go_num, by rw [HT1.out, List.all_append, HALL.out]; simp [HT.out], hM⟩
      case measure => simp [intOf]; omega
    · clear hall
      go_wp2_with (first
        | ((with_reducible show wpList _ _ _ _ _ (World.alloc _ (Obj.cells _ 36))); apply wpList_named hM; clear hM; intro _ hM; (try rw [pcell_zero 0] at hM))
        | ((with_reducible show wpList _ _ _ _ _ (World.alloc _ (Obj.cells _ _))); apply wpList_named hM; clear hM; intro _ hM) | ((with_reducible show wpList _ _ _ (⟨_, .load _ _, _, _, _, _⟩ :: _) _ _); apply wpList_load1 hM; rfl; rfl; rfl; (focus (repeat (first | exact List.Mem.head _ | refine List.Mem.tail _ ?_))); (decide +kernel); (first | (focus (first | exact HK34.out | exact HCX.out)) | rfl)) | ((with_reducible show wpList _ _ _ (⟨_, .load _ _, _, _, _, _⟩ :: _) _ _); apply wpList_loadA hM; rfl; rfl; rfl; (focus (repeat (first | exact List.Mem.head _ | refine List.Mem.tail _ ?_))); (decide +kernel); (first | (focus (first | with_reducible exact i36p _ _ _ | exact i36K.out | with_reducible exact i30)) | kernel_rfl)) | ((with_reducible show wpList _ _ _ (⟨_, .store _ _ _, _, _, _, _⟩ :: _) _ _); apply wpList_store1 hM; rfl; rfl; rfl; (conv => lhs; whnf); (focus (repeat (first | exact Hole.head | apply Hole.tail))); (first | (focus fail) | exact Nat.le_of_ble_eq_true rfl | (simp; done)); (decide +kernel); (first | rfl | assumption | (apply Mem.rowOne hM; (focus (repeat (first | exact List.Mem.head _ | refine List.Mem.tail _ ?_))))); clear hM; intro _ hM; (try dsimp only at hM); (try simp only [List.setIfInBounds_toArray, List.set_cons_zero, List.set_cons_succ, List.nil_append, List.cons_append, List.length_map] at hM)) | ((with_reducible show wpList _ _ _ (⟨_, .store _ _ _, _, _, _, _⟩ :: _) _ _); apply wpList_storeA hM; rfl; rfl; rfl; (first | rfl | (conv => lhs; whnf)); (focus (repeat (first | exact Hole.head | apply Hole.tail))); (first | (focus (first | (rw [pcell_size, pcell_size]; done) | (rw [pcell_size]; done) | (rw [pcell_size]; rfl) | rfl)) | rfl); (first | (focus (first | with_reducible exact i36p _ _ _ | exact i36K.out | with_reducible exact i30)) | kernel_rfl); (first | (focus (first | ((with_reducible refine pcell_one ?_ ?_); (first | rfl | assumption); (first | rfl | assumption)) | exact all_mk rfl)) | exact all_mk rfl); clear hM; intro _ hM; (try dsimp only at hM))
        | ((with_reducible show Calls _ 27 _ _ _); refine (text_list _ (by omega) _).mono ?_; rintro e _ ⟨rfl, rfl⟩; rw [HT.out])
        | ((with_reducible show Calls _ 46 _ _ _); refine (hpr _ hM.ext0).mono ?_; rintro e _ ⟨rfl, hx2⟩; replace hM := hM.ext hx2; clear hx2)
        | ((with_reducible show Calls _ 29 _ _ _); refine (hrd _ hM.ext0).mono ?_; rintro e _ ⟨rfl, hx2⟩; replace hM := hM.ext hx2; clear hx2))
      go_ret
      exact ⟨rfl, hM.ext0⟩
set_option maxHeartbeats 2000000 in
set_option maxRecDepth 100000 in
theorem ck_s_no (r : Rep) (hr : RepW r) (hlen : r.texts.length ≤ 1000000 ∧ ∀ p ∈ r.texts, p.length ≤ 1000000) (hR : Rounds r) (nv tv : Value) (w : World) (hv : Vars w) (h1 : SlR w 0 nv r.names) (h2 : SlR w 0 tv r.texts) (g o c : Nat) (C : Array Value) (ty : TypeId) (htv : tv = .slice (some ⟨g, o, none⟩) r.texts.length c) (hblk : Blk w g C ty) (hC : ∀ j, j < (r.texts.map strV).length → C[o + j]? = (r.texts.map strV)[j]?) (hb : textsB r = true) (q : Rep) (ho : replyOf (lineR r) = .ok q) (hq : RepW q) (sb : Bool) (hsb : sameB q r = sb) (hsv : sb = false) : Calls Tryz.prog 17 #[.agg (pcell r nv tv)] w fun e w' => e = .returned (.int .i64 2) ∧ Ext w w' := by
  have HK34 := Lib.hid (pc_of r nv tv).i34
  have i36K := Lib.hid (i36p r nv tv)
  have hpr : ∀ w', Ext w w' → Calls Tryz.prog 46 #[.agg (pcell r nv tv)] w' fun e w'' => e = .returned (strV (lineR r)) ∧ Ext w' w'' := fun w' h => hR.prints nv tv w' (hv.ext h) (h1.ext h) (h2.ext h)
  have hrd : ∀ w', Ext w w' → Calls Tryz.prog 29 #[strV (lineR r)] w' fun e w'' => ∃ nv' tv' : Value, e = .returned (.tuple #[.agg (pcell q nv' tv'), .agg #[.int .i64 0, .int .i64 0]]) ∧ nv'.oneCell' = true ∧ tv'.oneCell' = true ∧ Ext w' w'' ∧ SlR w'' w'.heap.size nv' q.names ∧ SlR w'' w'.heap.size tv' q.texts := fun w' h => (hR.reads w' (hv.ext h)).mono fun e w'' ⟨p, n1, t1, e1, a1, h5, h6, h7⟩ => by
    rw [ho] at h7
    obtain ⟨h8, rfl, rfl, h9, h10⟩ := h7
    exact ⟨n1, t1, by rw [h5, h8], Rd.one h9, Rd.one h10, h6, h9, h10⟩
  have hsm : ∀ (w' : World) (nv' tv' : Value), Ext w w' → SlR w' 0 nv' q.names → SlR w' 0 tv' q.texts → Calls Tryz.prog 47 #[.agg (pcell q nv' tv'), .agg (pcell r nv tv)] w' fun e w'' => e = .returned (.bool sb) ∧ Ext w' w'' := fun w' nv' tv' h h5 h6 => by
    rw [← hsb]
    exact same_any q r nv' tv' nv tv hq hr w' h5 h6 (h1.ext h) (h2.ext h)
  subst hsv
  generalize lineR r = LR at *
  clear hR h1 h2 hr ho hq hsb
  have hM := (Mem.start w NoS).old hblk (by simp)
  obtain ⟨n, hn⟩ : ∃ n, r.texts.length = n := ⟨_, rfl⟩
  have hn6 := hlen.1
  rw [hn] at htv hn6
  generalize htx : r.texts = TX at *
  have HN := Lib.hid hn; clear hn
  have hat : ∀ k (h : k < TX.length), C[o + k]? = some (strV TX[k]) := fun k h => by rw [hC k (by rw [List.length_map]; exact h), List.getElem?_map, List.getElem?_eq_getElem h]; rfl
  have HAT := Lib.hid hat; clear hat hC hblk
  have HL := Lib.hid hlen.2; clear hlen
  have hB : TX.all textB = true := by rw [← htx]; exact hb
  have HB := Lib.hid hB; clear hB hb htx
  generalize pcell r nv tv = K at *
  subst htv
  go_enter Tryz.func17, Tryz.ntmps17
  go_wp2_with (first
    | ((with_reducible show wpList _ _ _ _ _ (World.alloc _ (Obj.cells _ _))); apply wpList_named hM; clear hM; intro _ hM) | ((with_reducible show wpList _ _ _ (⟨_, .load _ _, _, _, _, _⟩ :: _) _ _); apply wpList_load1 hM; rfl; rfl; rfl; (focus (repeat (first | exact List.Mem.head _ | refine List.Mem.tail _ ?_))); (decide +kernel); (first | (focus (first | exact HK34.out | exact HCX.out)) | rfl)) | ((with_reducible show wpList _ _ _ (⟨_, .load _ _, _, _, _, _⟩ :: _) _ _); apply wpList_loadA hM; rfl; rfl; rfl; (focus (repeat (first | exact List.Mem.head _ | refine List.Mem.tail _ ?_))); (decide +kernel); (first | (focus (first | with_reducible exact i36p _ _ _ | exact i36K.out | with_reducible exact i30)) | kernel_rfl)) | ((with_reducible show wpList _ _ _ (⟨_, .store _ _ _, _, _, _, _⟩ :: _) _ _); apply wpList_store1 hM; rfl; rfl; rfl; (conv => lhs; whnf); (focus (repeat (first | exact Hole.head | apply Hole.tail))); (first | (focus fail) | exact Nat.le_of_ble_eq_true rfl | (simp; done)); (decide +kernel); (first | rfl | assumption | (apply Mem.rowOne hM; (focus (repeat (first | exact List.Mem.head _ | refine List.Mem.tail _ ?_))))); clear hM; intro _ hM; (try dsimp only at hM); (try simp only [List.setIfInBounds_toArray, List.set_cons_zero, List.set_cons_succ, List.nil_append, List.cons_append, List.length_map] at hM)) | ((with_reducible show wpList _ _ _ (⟨_, .store _ _ _, _, _, _, _⟩ :: _) _ _); apply wpList_storeA hM; rfl; rfl; rfl; (first | rfl | (conv => lhs; whnf)); (focus (repeat (first | exact Hole.head | apply Hole.tail))); (first | (focus (first | (rw [pcell_size, pcell_size]; done) | (rw [pcell_size]; done) | (rw [pcell_size]; rfl) | rfl)) | rfl); (first | (focus (first | with_reducible exact i36p _ _ _ | exact i36K.out | with_reducible exact i30)) | kernel_rfl); (first | (focus (first | ((with_reducible refine pcell_one ?_ ?_); (first | rfl | assumption); (first | rfl | assumption)) | exact all_mk rfl)) | exact all_mk rfl); clear hM; intro _ hM; (try dsimp only at hM)))
  go_loopw [10] (fun i wr => CkL w TX g C ty K i wr) (fun i _ => n - (intOf i).toNat)
  case atStart => exact ⟨0, Nat.zero_le _, rfl, by simp, hM⟩
  case round =>
    clear hM
    obtain ⟨k, hk, rfl, hall, hM⟩ := hrel
    by_cases hlt : k < n
    · have hltL : k < TX.length := by rw [HN.out]; exact hlt
      obtain ⟨x, hx⟩ : ∃ x, TX[k] = x := ⟨_, rfl⟩
      have hcx : C[o + k]? = some (strV x) := by rw [HAT.out k hltL, hx]
      have hxl : x.length ≤ 1000000 := HL.out x (by rw [← hx]; exact List.getElem_mem _)
      have ht1 : TX.take (k + 1) = TX.take k ++ [x] := by rw [List.take_succ_eq_append_getElem hltL, hx]
      have hmem : x ∈ TX := by rw [← hx]; exact List.getElem_mem _
      have HX := Lib.hid hx; clear hx
      have HCX := Lib.hid hcx; clear hcx
      have HALL := Lib.hid hall; clear hall
      have HT1 := Lib.hid ht1; clear ht1
      have htx : textB x = true := (List.all_eq_true.1 HB.out) x hmem
      have HT := Lib.hid htx; clear htx
      go_wp2_with (first
        | ((with_reducible show wpList _ _ _ _ _ (World.alloc _ (Obj.cells _ _))); apply wpList_named hM; clear hM; intro _ hM) | ((with_reducible show wpList _ _ _ (⟨_, .load _ _, _, _, _, _⟩ :: _) _ _); apply wpList_load1 hM; rfl; rfl; rfl; (focus (repeat (first | exact List.Mem.head _ | refine List.Mem.tail _ ?_))); (decide +kernel); (first | (focus (first | exact HK34.out | exact HCX.out)) | rfl)) | ((with_reducible show wpList _ _ _ (⟨_, .load _ _, _, _, _, _⟩ :: _) _ _); apply wpList_loadA hM; rfl; rfl; rfl; (focus (repeat (first | exact List.Mem.head _ | refine List.Mem.tail _ ?_))); (decide +kernel); (first | (focus (first | with_reducible exact i36p _ _ _ | exact i36K.out | with_reducible exact i30)) | kernel_rfl)) | ((with_reducible show wpList _ _ _ (⟨_, .store _ _ _, _, _, _, _⟩ :: _) _ _); apply wpList_store1 hM; rfl; rfl; rfl; (conv => lhs; whnf); (focus (repeat (first | exact Hole.head | apply Hole.tail))); (first | (focus fail) | exact Nat.le_of_ble_eq_true rfl | (simp; done)); (decide +kernel); (first | rfl | assumption | (apply Mem.rowOne hM; (focus (repeat (first | exact List.Mem.head _ | refine List.Mem.tail _ ?_))))); clear hM; intro _ hM; (try dsimp only at hM); (try simp only [List.setIfInBounds_toArray, List.set_cons_zero, List.set_cons_succ, List.nil_append, List.cons_append, List.length_map] at hM)) | ((with_reducible show wpList _ _ _ (⟨_, .store _ _ _, _, _, _, _⟩ :: _) _ _); apply wpList_storeA hM; rfl; rfl; rfl; (first | rfl | (conv => lhs; whnf)); (focus (repeat (first | exact Hole.head | apply Hole.tail))); (first | (focus (first | (rw [pcell_size, pcell_size]; done) | (rw [pcell_size]; done) | (rw [pcell_size]; rfl) | rfl)) | rfl); (first | (focus (first | with_reducible exact i36p _ _ _ | exact i36K.out | with_reducible exact i30)) | kernel_rfl); (first | (focus (first | ((with_reducible refine pcell_one ?_ ?_); (first | rfl | assumption); (first | rfl | assumption)) | exact all_mk rfl)) | exact all_mk rfl); clear hM; intro _ hM; (try dsimp only at hM))
        | ((with_reducible show Calls _ 27 _ _ _); refine (text_list _ (by omega) _).mono ?_; rintro e _ ⟨rfl, rfl⟩; rw [HT.out]))
      go_roundw
      case rel => exact ⟨k + 1, by rw [HN.out]; omega, by go_num, by rw [HT1.out, List.all_append, HALL.out]; simp [HT.out], hM⟩
      case measure => simp [intOf]; omega
    · clear hall
      go_wp2_with (first
        | ((with_reducible show wpList _ _ _ _ _ (World.alloc _ (Obj.cells _ 36))); apply wpList_named hM; clear hM; intro _ hM; (try rw [pcell_zero 0] at hM))
        | ((with_reducible show wpList _ _ _ _ _ (World.alloc _ (Obj.cells _ _))); apply wpList_named hM; clear hM; intro _ hM) | ((with_reducible show wpList _ _ _ (⟨_, .load _ _, _, _, _, _⟩ :: _) _ _); apply wpList_load1 hM; rfl; rfl; rfl; (focus (repeat (first | exact List.Mem.head _ | refine List.Mem.tail _ ?_))); (decide +kernel); (first | (focus (first | exact HK34.out | exact HCX.out)) | rfl)) | ((with_reducible show wpList _ _ _ (⟨_, .load _ _, _, _, _, _⟩ :: _) _ _); apply wpList_loadA hM; rfl; rfl; rfl; (focus (repeat (first | exact List.Mem.head _ | refine List.Mem.tail _ ?_))); (decide +kernel); (first | (focus (first | with_reducible exact i36p _ _ _ | exact i36K.out | with_reducible exact i30)) | kernel_rfl)) | ((with_reducible show wpList _ _ _ (⟨_, .store _ _ _, _, _, _, _⟩ :: _) _ _); apply wpList_store1 hM; rfl; rfl; rfl; (conv => lhs; whnf); (focus (repeat (first | exact Hole.head | apply Hole.tail))); (first | (focus fail) | exact Nat.le_of_ble_eq_true rfl | (simp; done)); (decide +kernel); (first | rfl | assumption | (apply Mem.rowOne hM; (focus (repeat (first | exact List.Mem.head _ | refine List.Mem.tail _ ?_))))); clear hM; intro _ hM; (try dsimp only at hM); (try simp only [List.setIfInBounds_toArray, List.set_cons_zero, List.set_cons_succ, List.nil_append, List.cons_append, List.length_map] at hM)) | ((with_reducible show wpList _ _ _ (⟨_, .store _ _ _, _, _, _, _⟩ :: _) _ _); apply wpList_storeA hM; rfl; rfl; rfl; (first | rfl | (conv => lhs; whnf)); (focus (repeat (first | exact Hole.head | apply Hole.tail))); (first | (focus (first | (rw [pcell_size, pcell_size]; done) | (rw [pcell_size]; done) | (rw [pcell_size]; rfl) | rfl)) | rfl); (first | (focus (first | with_reducible exact i36p _ _ _ | exact i36K.out | with_reducible exact i30)) | kernel_rfl); (first | (focus (first | ((with_reducible refine pcell_one ?_ ?_); (first | rfl | assumption); (first | rfl | assumption)) | exact all_mk rfl)) | exact all_mk rfl); clear hM; intro _ hM; (try dsimp only at hM))
        | ((with_reducible show Calls _ 27 _ _ _); refine (text_list _ (by omega) _).mono ?_; rintro e _ ⟨rfl, rfl⟩; rw [HT.out])
        | ((with_reducible show Calls _ 46 _ _ _); refine (hpr _ hM.ext0).mono ?_; rintro e _ ⟨rfl, hx2⟩; replace hM := hM.ext hx2; clear hx2)
        | ((with_reducible show Calls _ 29 _ _ _); refine (hrd _ hM.ext0).mono ?_; rintro e _ ⟨nv', tv', rfl, hn1, ht1, hx2, hsn, hst⟩; replace hM := hM.told2 hx2 hsn hst; clear hx2 hsn hst)
        | ((with_reducible show Calls _ 47 _ _ _); refine (hsm _ _ _ hM.ext0 (Rd.mono (hM.theRd (List.Mem.tail _ (List.Mem.tail _ (List.Mem.head _)))) (Nat.zero_le _)) (Rd.mono (hM.theRd (List.Mem.tail _ (List.Mem.tail _ (List.Mem.tail _ (List.Mem.head _))))) (Nat.zero_le _))).mono ?_; rintro e _ ⟨rfl, hx2⟩; replace hM := hM.ext hx2; clear hx2))
      go_ret
      exact ⟨rfl, hM.ext0⟩
set_option maxHeartbeats 2000000 in
set_option maxRecDepth 100000 in
theorem ck_s_yes (r : Rep) (hr : RepW r) (hlen : r.texts.length ≤ 1000000 ∧ ∀ p ∈ r.texts, p.length ≤ 1000000) (hR : Rounds r) (nv tv : Value) (w : World) (hv : Vars w) (h1 : SlR w 0 nv r.names) (h2 : SlR w 0 tv r.texts) (g o c : Nat) (C : Array Value) (ty : TypeId) (htv : tv = .slice (some ⟨g, o, none⟩) r.texts.length c) (hblk : Blk w g C ty) (hC : ∀ j, j < (r.texts.map strV).length → C[o + j]? = (r.texts.map strV)[j]?) (hb : textsB r = true) (q : Rep) (ho : replyOf (lineR r) = .ok q) (hq : RepW q) (sb : Bool) (hsb : sameB q r = sb) (hsv : sb = true) : Calls Tryz.prog 17 #[.agg (pcell r nv tv)] w fun e w' => e = .returned (.int .i64 0) ∧ Ext w w' := by
  have HK34 := Lib.hid (pc_of r nv tv).i34
  have i36K := Lib.hid (i36p r nv tv)
  have hpr : ∀ w', Ext w w' → Calls Tryz.prog 46 #[.agg (pcell r nv tv)] w' fun e w'' => e = .returned (strV (lineR r)) ∧ Ext w' w'' := fun w' h => hR.prints nv tv w' (hv.ext h) (h1.ext h) (h2.ext h)
  have hrd : ∀ w', Ext w w' → Calls Tryz.prog 29 #[strV (lineR r)] w' fun e w'' => ∃ nv' tv' : Value, e = .returned (.tuple #[.agg (pcell q nv' tv'), .agg #[.int .i64 0, .int .i64 0]]) ∧ nv'.oneCell' = true ∧ tv'.oneCell' = true ∧ Ext w' w'' ∧ SlR w'' w'.heap.size nv' q.names ∧ SlR w'' w'.heap.size tv' q.texts := fun w' h => (hR.reads w' (hv.ext h)).mono fun e w'' ⟨p, n1, t1, e1, a1, h5, h6, h7⟩ => by
    rw [ho] at h7
    obtain ⟨h8, rfl, rfl, h9, h10⟩ := h7
    exact ⟨n1, t1, by rw [h5, h8], Rd.one h9, Rd.one h10, h6, h9, h10⟩
  have hsm : ∀ (w' : World) (nv' tv' : Value), Ext w w' → SlR w' 0 nv' q.names → SlR w' 0 tv' q.texts → Calls Tryz.prog 47 #[.agg (pcell q nv' tv'), .agg (pcell r nv tv)] w' fun e w'' => e = .returned (.bool sb) ∧ Ext w' w'' := fun w' nv' tv' h h5 h6 => by
    rw [← hsb]
    exact same_any q r nv' tv' nv tv hq hr w' h5 h6 (h1.ext h) (h2.ext h)
  subst hsv
  generalize lineR r = LR at *
  clear hR h1 h2 hr ho hq hsb
  have hM := (Mem.start w NoS).old hblk (by simp)
  obtain ⟨n, hn⟩ : ∃ n, r.texts.length = n := ⟨_, rfl⟩
  have hn6 := hlen.1
  rw [hn] at htv hn6
  generalize htx : r.texts = TX at *
  have HN := Lib.hid hn; clear hn
  have hat : ∀ k (h : k < TX.length), C[o + k]? = some (strV TX[k]) := fun k h => by rw [hC k (by rw [List.length_map]; exact h), List.getElem?_map, List.getElem?_eq_getElem h]; rfl
  have HAT := Lib.hid hat; clear hat hC hblk
  have HL := Lib.hid hlen.2; clear hlen
  have hB : TX.all textB = true := by rw [← htx]; exact hb
  have HB := Lib.hid hB; clear hB hb htx
  generalize pcell r nv tv = K at *
  subst htv
  go_enter Tryz.func17, Tryz.ntmps17
  go_wp2_with (first
    | ((with_reducible show wpList _ _ _ _ _ (World.alloc _ (Obj.cells _ _))); apply wpList_named hM; clear hM; intro _ hM) | ((with_reducible show wpList _ _ _ (⟨_, .load _ _, _, _, _, _⟩ :: _) _ _); apply wpList_load1 hM; rfl; rfl; rfl; (focus (repeat (first | exact List.Mem.head _ | refine List.Mem.tail _ ?_))); (decide +kernel); (first | (focus (first | exact HK34.out | exact HCX.out)) | rfl)) | ((with_reducible show wpList _ _ _ (⟨_, .load _ _, _, _, _, _⟩ :: _) _ _); apply wpList_loadA hM; rfl; rfl; rfl; (focus (repeat (first | exact List.Mem.head _ | refine List.Mem.tail _ ?_))); (decide +kernel); (first | (focus (first | with_reducible exact i36p _ _ _ | exact i36K.out | with_reducible exact i30)) | kernel_rfl)) | ((with_reducible show wpList _ _ _ (⟨_, .store _ _ _, _, _, _, _⟩ :: _) _ _); apply wpList_store1 hM; rfl; rfl; rfl; (conv => lhs; whnf); (focus (repeat (first | exact Hole.head | apply Hole.tail))); (first | (focus fail) | exact Nat.le_of_ble_eq_true rfl | (simp; done)); (decide +kernel); (first | rfl | assumption | (apply Mem.rowOne hM; (focus (repeat (first | exact List.Mem.head _ | refine List.Mem.tail _ ?_))))); clear hM; intro _ hM; (try dsimp only at hM); (try simp only [List.setIfInBounds_toArray, List.set_cons_zero, List.set_cons_succ, List.nil_append, List.cons_append, List.length_map] at hM)) | ((with_reducible show wpList _ _ _ (⟨_, .store _ _ _, _, _, _, _⟩ :: _) _ _); apply wpList_storeA hM; rfl; rfl; rfl; (first | rfl | (conv => lhs; whnf)); (focus (repeat (first | exact Hole.head | apply Hole.tail))); (first | (focus (first | (rw [pcell_size, pcell_size]; done) | (rw [pcell_size]; done) | (rw [pcell_size]; rfl) | rfl)) | rfl); (first | (focus (first | with_reducible exact i36p _ _ _ | exact i36K.out | with_reducible exact i30)) | kernel_rfl); (first | (focus (first | ((with_reducible refine pcell_one ?_ ?_); (first | rfl | assumption); (first | rfl | assumption)) | exact all_mk rfl)) | exact all_mk rfl); clear hM; intro _ hM; (try dsimp only at hM)))
  go_loopw [10] (fun i wr => CkL w TX g C ty K i wr) (fun i _ => n - (intOf i).toNat)
  case atStart => exact ⟨0, Nat.zero_le _, rfl, by simp, hM⟩
  case round =>
    clear hM
    obtain ⟨k, hk, rfl, hall, hM⟩ := hrel
    by_cases hlt : k < n
    · have hltL : k < TX.length := by rw [HN.out]; exact hlt
      obtain ⟨x, hx⟩ : ∃ x, TX[k] = x := ⟨_, rfl⟩
      have hcx : C[o + k]? = some (strV x) := by rw [HAT.out k hltL, hx]
      have hxl : x.length ≤ 1000000 := HL.out x (by rw [← hx]; exact List.getElem_mem _)
      have ht1 : TX.take (k + 1) = TX.take k ++ [x] := by rw [List.take_succ_eq_append_getElem hltL, hx]
      have hmem : x ∈ TX := by rw [← hx]; exact List.getElem_mem _
      have HX := Lib.hid hx; clear hx
      have HCX := Lib.hid hcx; clear hcx
      have HALL := Lib.hid hall; clear hall
      have HT1 := Lib.hid ht1; clear ht1
      have htx : textB x = true := (List.all_eq_true.1 HB.out) x hmem
      have HT := Lib.hid htx; clear htx
      go_wp2_with (first
        | ((with_reducible show wpList _ _ _ _ _ (World.alloc _ (Obj.cells _ _))); apply wpList_named hM; clear hM; intro _ hM) | ((with_reducible show wpList _ _ _ (⟨_, .load _ _, _, _, _, _⟩ :: _) _ _); apply wpList_load1 hM; rfl; rfl; rfl; (focus (repeat (first | exact List.Mem.head _ | refine List.Mem.tail _ ?_))); (decide +kernel); (first | (focus (first | exact HK34.out | exact HCX.out)) | rfl)) | ((with_reducible show wpList _ _ _ (⟨_, .load _ _, _, _, _, _⟩ :: _) _ _); apply wpList_loadA hM; rfl; rfl; rfl; (focus (repeat (first | exact List.Mem.head _ | refine List.Mem.tail _ ?_))); (decide +kernel); (first | (focus (first | with_reducible exact i36p _ _ _ | exact i36K.out | with_reducible exact i30)) | kernel_rfl)) | ((with_reducible show wpList _ _ _ (⟨_, .store _ _ _, _, _, _, _⟩ :: _) _ _); apply wpList_store1 hM; rfl; rfl; rfl; (conv => lhs; whnf); (focus (repeat (first | exact Hole.head | apply Hole.tail))); (first | (focus fail) | exact Nat.le_of_ble_eq_true rfl | (simp; done)); (decide +kernel); (first | rfl | assumption | (apply Mem.rowOne hM; (focus (repeat (first | exact List.Mem.head _ | refine List.Mem.tail _ ?_))))); clear hM; intro _ hM; (try dsimp only at hM); (try simp only [List.setIfInBounds_toArray, List.set_cons_zero, List.set_cons_succ, List.nil_append, List.cons_append, List.length_map] at hM)) | ((with_reducible show wpList _ _ _ (⟨_, .store _ _ _, _, _, _, _⟩ :: _) _ _); apply wpList_storeA hM; rfl; rfl; rfl; (first | rfl | (conv => lhs; whnf)); (focus (repeat (first | exact Hole.head | apply Hole.tail))); (first | (focus (first | (rw [pcell_size, pcell_size]; done) | (rw [pcell_size]; done) | (rw [pcell_size]; rfl) | rfl)) | rfl); (first | (focus (first | with_reducible exact i36p _ _ _ | exact i36K.out | with_reducible exact i30)) | kernel_rfl); (first | (focus (first | ((with_reducible refine pcell_one ?_ ?_); (first | rfl | assumption); (first | rfl | assumption)) | exact all_mk rfl)) | exact all_mk rfl); clear hM; intro _ hM; (try dsimp only at hM))
        | ((with_reducible show Calls _ 27 _ _ _); refine (text_list _ (by omega) _).mono ?_; rintro e _ ⟨rfl, rfl⟩; rw [HT.out]))
      go_roundw
      case rel => exact ⟨k + 1, by rw [HN.out]; omega, by go_num, by rw [HT1.out, List.all_append, HALL.out]; simp [HT.out], hM⟩
      case measure => simp [intOf]; omega
    · clear hall
      go_wp2_with (first
        | ((with_reducible show wpList _ _ _ _ _ (World.alloc _ (Obj.cells _ 36))); apply wpList_named hM; clear hM; intro _ hM; (try rw [pcell_zero 0] at hM))
        | ((with_reducible show wpList _ _ _ _ _ (World.alloc _ (Obj.cells _ _))); apply wpList_named hM; clear hM; intro _ hM) | ((with_reducible show wpList _ _ _ (⟨_, .load _ _, _, _, _, _⟩ :: _) _ _); apply wpList_load1 hM; rfl; rfl; rfl; (focus (repeat (first | exact List.Mem.head _ | refine List.Mem.tail _ ?_))); (decide +kernel); (first | (focus (first | exact HK34.out | exact HCX.out)) | rfl)) | ((with_reducible show wpList _ _ _ (⟨_, .load _ _, _, _, _, _⟩ :: _) _ _); apply wpList_loadA hM; rfl; rfl; rfl; (focus (repeat (first | exact List.Mem.head _ | refine List.Mem.tail _ ?_))); (decide +kernel); (first | (focus (first | with_reducible exact i36p _ _ _ | exact i36K.out | with_reducible exact i30)) | kernel_rfl)) | ((with_reducible show wpList _ _ _ (⟨_, .store _ _ _, _, _, _, _⟩ :: _) _ _); apply wpList_store1 hM; rfl; rfl; rfl; (conv => lhs; whnf); (focus (repeat (first | exact Hole.head | apply Hole.tail))); (first | (focus fail) | exact Nat.le_of_ble_eq_true rfl | (simp; done)); (decide +kernel); (first | rfl | assumption | (apply Mem.rowOne hM; (focus (repeat (first | exact List.Mem.head _ | refine List.Mem.tail _ ?_))))); clear hM; intro _ hM; (try dsimp only at hM); (try simp only [List.setIfInBounds_toArray, List.set_cons_zero, List.set_cons_succ, List.nil_append, List.cons_append, List.length_map] at hM)) | ((with_reducible show wpList _ _ _ (⟨_, .store _ _ _, _, _, _, _⟩ :: _) _ _); apply wpList_storeA hM; rfl; rfl; rfl; (first | rfl | (conv => lhs; whnf)); (focus (repeat (first | exact Hole.head | apply Hole.tail))); (first | (focus (first | (rw [pcell_size, pcell_size]; done) | (rw [pcell_size]; done) | (rw [pcell_size]; rfl) | rfl)) | rfl); (first | (focus (first | with_reducible exact i36p _ _ _ | exact i36K.out | with_reducible exact i30)) | kernel_rfl); (first | (focus (first | ((with_reducible refine pcell_one ?_ ?_); (first | rfl | assumption); (first | rfl | assumption)) | exact all_mk rfl)) | exact all_mk rfl); clear hM; intro _ hM; (try dsimp only at hM))
        | ((with_reducible show Calls _ 27 _ _ _); refine (text_list _ (by omega) _).mono ?_; rintro e _ ⟨rfl, rfl⟩; rw [HT.out])
        | ((with_reducible show Calls _ 46 _ _ _); refine (hpr _ hM.ext0).mono ?_; rintro e _ ⟨rfl, hx2⟩; replace hM := hM.ext hx2; clear hx2)
        | ((with_reducible show Calls _ 29 _ _ _); refine (hrd _ hM.ext0).mono ?_; rintro e _ ⟨nv', tv', rfl, hn1, ht1, hx2, hsn, hst⟩; replace hM := hM.told2 hx2 hsn hst; clear hx2 hsn hst)
        | ((with_reducible show Calls _ 47 _ _ _); refine (hsm _ _ _ hM.ext0 (Rd.mono (hM.theRd (List.Mem.tail _ (List.Mem.tail _ (List.Mem.head _)))) (Nat.zero_le _)) (Rd.mono (hM.theRd (List.Mem.tail _ (List.Mem.tail _ (List.Mem.tail _ (List.Mem.head _))))) (Nat.zero_le _))).mono ?_; rintro e _ ⟨rfl, hx2⟩; replace hM := hM.ext hx2; clear hx2))
      go_ret
      exact ⟨rfl, hM.ext0⟩
set_option maxHeartbeats 2000000 in
set_option maxRecDepth 100000 in
theorem ck_e_err (r : Rep) (hr : RepW r) (hlen : r.texts.length ≤ 1000000 ∧ ∀ p ∈ r.texts, p.length ≤ 1000000) (hR : Rounds r) (nv tv : Value) (w : World) (hv : Vars w) (h1 : SlR w 0 nv r.names) (h2 : SlR w 0 tv r.texts) (a0 : Option Addr) (c : Nat) (htv : tv = .slice a0 0 c) (er at_ : Int) (ho : replyOf (lineR r) = .error (er, at_)) : Calls Tryz.prog 17 #[.agg (pcell r nv tv)] w fun e w' => e = .returned (.int .i64 2) ∧ Ext w w' := by
  have HK34 := Lib.hid (pc_of r nv tv).i34
  have i36K := Lib.hid (i36p r nv tv)
  have hpr : ∀ w', Ext w w' → Calls Tryz.prog 46 #[.agg (pcell r nv tv)] w' fun e w'' => e = .returned (strV (lineR r)) ∧ Ext w' w'' := fun w' h => hR.prints nv tv w' (hv.ext h) (h1.ext h) (h2.ext h)
  have hrd : ∀ w', Ext w w' → Calls Tryz.prog 29 #[strV (lineR r)] w' fun e w'' => e = .returned (.tuple #[.agg (pcell Rep.zero nilV nilV), .agg #[.int .i64 er, .int .i64 at_]]) ∧ Ext w' w'' := fun w' h => (hR.reads w' (hv.ext h)).mono fun e w'' ⟨q, n1, t1, e1, a1, h5, h6, h7⟩ => by
    rw [ho] at h7
    obtain ⟨rfl, rfl, rfl, rfl, rfl⟩ := h7
    exact ⟨h5, h6⟩
  have hne : (er != 0) = true := by rcases replyOf_err ho with h | h <;> (simp only at h; rw [h]; rfl)
  generalize lineR r = LR at *
  clear hR h1 h2 hr ho
  generalize pcell r nv tv = K at *
  subst htv
  go_enter Tryz.func17, Tryz.ntmps17
  have hM := Mem.start w NoS
  go_wp2_with (first
    | ((with_reducible show wpList _ _ _ _ _ (World.alloc _ (Obj.cells _ _))); apply wpList_named hM; clear hM; intro _ hM) | ((with_reducible show wpList _ _ _ (⟨_, .load _ _, _, _, _, _⟩ :: _) _ _); apply wpList_load1 hM; rfl; rfl; rfl; (focus (repeat (first | exact List.Mem.head _ | refine List.Mem.tail _ ?_))); (decide +kernel); (first | (focus (first | exact HK34.out | exact HCX.out)) | rfl)) | ((with_reducible show wpList _ _ _ (⟨_, .load _ _, _, _, _, _⟩ :: _) _ _); apply wpList_loadA hM; rfl; rfl; rfl; (focus (repeat (first | exact List.Mem.head _ | refine List.Mem.tail _ ?_))); (decide +kernel); (first | (focus (first | with_reducible exact i36p _ _ _ | exact i36K.out | with_reducible exact i30)) | kernel_rfl)) | ((with_reducible show wpList _ _ _ (⟨_, .store _ _ _, _, _, _, _⟩ :: _) _ _); apply wpList_store1 hM; rfl; rfl; rfl; (conv => lhs; whnf); (focus (repeat (first | exact Hole.head | apply Hole.tail))); (first | (focus fail) | exact Nat.le_of_ble_eq_true rfl | (simp; done)); (decide +kernel); (first | rfl | assumption | (apply Mem.rowOne hM; (focus (repeat (first | exact List.Mem.head _ | refine List.Mem.tail _ ?_))))); clear hM; intro _ hM; (try dsimp only at hM); (try simp only [List.setIfInBounds_toArray, List.set_cons_zero, List.set_cons_succ, List.nil_append, List.cons_append, List.length_map] at hM)) | ((with_reducible show wpList _ _ _ (⟨_, .store _ _ _, _, _, _, _⟩ :: _) _ _); apply wpList_storeA hM; rfl; rfl; rfl; (first | rfl | (conv => lhs; whnf)); (focus (repeat (first | exact Hole.head | apply Hole.tail))); (first | (focus (first | (rw [pcell_size, pcell_size]; done) | (rw [pcell_size]; done) | (rw [pcell_size]; rfl) | rfl)) | rfl); (first | (focus (first | with_reducible exact i36p _ _ _ | exact i36K.out | with_reducible exact i30)) | kernel_rfl); (first | (focus (first | ((with_reducible refine pcell_one ?_ ?_); (first | rfl | assumption); (first | rfl | assumption)) | exact all_mk rfl)) | exact all_mk rfl); clear hM; intro _ hM; (try dsimp only at hM)))
  go_loopw [10] (fun i wr => i = .int .i64 0 ∧ Mem w NoS wr [.blk true w.heap.size K 36]) (fun _ _ => 0)
  case atStart => exact ⟨rfl, hM⟩
  case round =>
    clear hM
    obtain ⟨rfl, hM⟩ := hrel
    go_wp2_with (first
      | ((with_reducible show wpList _ _ _ _ _ (World.alloc _ (Obj.cells _ 36))); apply wpList_named hM; clear hM; intro _ hM; (try rw [pcell_zero 0] at hM))
      | ((with_reducible show wpList _ _ _ _ _ (World.alloc _ (Obj.cells _ _))); apply wpList_named hM; clear hM; intro _ hM) | ((with_reducible show wpList _ _ _ (⟨_, .load _ _, _, _, _, _⟩ :: _) _ _); apply wpList_load1 hM; rfl; rfl; rfl; (focus (repeat (first | exact List.Mem.head _ | refine List.Mem.tail _ ?_))); (decide +kernel); (first | (focus (first | exact HK34.out | exact HCX.out)) | rfl)) | ((with_reducible show wpList _ _ _ (⟨_, .load _ _, _, _, _, _⟩ :: _) _ _); apply wpList_loadA hM; rfl; rfl; rfl; (focus (repeat (first | exact List.Mem.head _ | refine List.Mem.tail _ ?_))); (decide +kernel); (first | (focus (first | with_reducible exact i36p _ _ _ | exact i36K.out | with_reducible exact i30)) | kernel_rfl)) | ((with_reducible show wpList _ _ _ (⟨_, .store _ _ _, _, _, _, _⟩ :: _) _ _); apply wpList_store1 hM; rfl; rfl; rfl; (conv => lhs; whnf); (focus (repeat (first | exact Hole.head | apply Hole.tail))); (first | (focus fail) | exact Nat.le_of_ble_eq_true rfl | (simp; done)); (decide +kernel); (first | rfl | assumption | (apply Mem.rowOne hM; (focus (repeat (first | exact List.Mem.head _ | refine List.Mem.tail _ ?_))))); clear hM; intro _ hM; (try dsimp only at hM); (try simp only [List.setIfInBounds_toArray, List.set_cons_zero, List.set_cons_succ, List.nil_append, List.cons_append, List.length_map] at hM)) | ((with_reducible show wpList _ _ _ (⟨_, .store _ _ _, _, _, _, _⟩ :: _) _ _); apply wpList_storeA hM; rfl; rfl; rfl; (first | rfl | (conv => lhs; whnf)); (focus (repeat (first | exact Hole.head | apply Hole.tail))); (first | (focus (first | (rw [pcell_size, pcell_size]; done) | (rw [pcell_size]; done) | (rw [pcell_size]; rfl) | rfl)) | rfl); (first | (focus (first | with_reducible exact i36p _ _ _ | exact i36K.out | with_reducible exact i30)) | kernel_rfl); (first | (focus (first | ((with_reducible refine pcell_one ?_ ?_); (first | rfl | assumption); (first | rfl | assumption)) | exact all_mk rfl)) | exact all_mk rfl); clear hM; intro _ hM; (try dsimp only at hM))
      | ((with_reducible show Calls _ 46 _ _ _); refine (hpr _ hM.ext0).mono ?_; rintro e _ ⟨rfl, hx2⟩; replace hM := hM.ext hx2; clear hx2)
      | ((with_reducible show Calls _ 29 _ _ _); refine (hrd _ hM.ext0).mono ?_; rintro e _ ⟨rfl, hx2⟩; replace hM := hM.ext hx2; clear hx2))
    go_ret
    exact ⟨rfl, hM.ext0⟩
set_option maxHeartbeats 2000000 in
set_option maxRecDepth 100000 in
theorem ck_e_no (r : Rep) (hr : RepW r) (hlen : r.texts.length ≤ 1000000 ∧ ∀ p ∈ r.texts, p.length ≤ 1000000) (hR : Rounds r) (nv tv : Value) (w : World) (hv : Vars w) (h1 : SlR w 0 nv r.names) (h2 : SlR w 0 tv r.texts) (a0 : Option Addr) (c : Nat) (htv : tv = .slice a0 0 c) (q : Rep) (ho : replyOf (lineR r) = .ok q) (hq : RepW q) (sb : Bool) (hsb : sameB q r = sb) (hsv : sb = false) : Calls Tryz.prog 17 #[.agg (pcell r nv tv)] w fun e w' => e = .returned (.int .i64 2) ∧ Ext w w' := by
  have HK34 := Lib.hid (pc_of r nv tv).i34
  have i36K := Lib.hid (i36p r nv tv)
  have hpr : ∀ w', Ext w w' → Calls Tryz.prog 46 #[.agg (pcell r nv tv)] w' fun e w'' => e = .returned (strV (lineR r)) ∧ Ext w' w'' := fun w' h => hR.prints nv tv w' (hv.ext h) (h1.ext h) (h2.ext h)
  have hrd : ∀ w', Ext w w' → Calls Tryz.prog 29 #[strV (lineR r)] w' fun e w'' => ∃ nv' tv' : Value, e = .returned (.tuple #[.agg (pcell q nv' tv'), .agg #[.int .i64 0, .int .i64 0]]) ∧ nv'.oneCell' = true ∧ tv'.oneCell' = true ∧ Ext w' w'' ∧ SlR w'' w'.heap.size nv' q.names ∧ SlR w'' w'.heap.size tv' q.texts := fun w' h => (hR.reads w' (hv.ext h)).mono fun e w'' ⟨p, n1, t1, e1, a1, h5, h6, h7⟩ => by
    rw [ho] at h7
    obtain ⟨h8, rfl, rfl, h9, h10⟩ := h7
    exact ⟨n1, t1, by rw [h5, h8], Rd.one h9, Rd.one h10, h6, h9, h10⟩
  have hsm : ∀ (w' : World) (nv' tv' : Value), Ext w w' → SlR w' 0 nv' q.names → SlR w' 0 tv' q.texts → Calls Tryz.prog 47 #[.agg (pcell q nv' tv'), .agg (pcell r nv tv)] w' fun e w'' => e = .returned (.bool sb) ∧ Ext w' w'' := fun w' nv' tv' h h5 h6 => by
    rw [← hsb]
    exact same_any q r nv' tv' nv tv hq hr w' h5 h6 (h1.ext h) (h2.ext h)
  subst hsv
  generalize lineR r = LR at *
  clear hR h1 h2 hr ho hq hsb
  generalize pcell r nv tv = K at *
  subst htv
  go_enter Tryz.func17, Tryz.ntmps17
  have hM := Mem.start w NoS
  go_wp2_with (first
    | ((with_reducible show wpList _ _ _ _ _ (World.alloc _ (Obj.cells _ _))); apply wpList_named hM; clear hM; intro _ hM) | ((with_reducible show wpList _ _ _ (⟨_, .load _ _, _, _, _, _⟩ :: _) _ _); apply wpList_load1 hM; rfl; rfl; rfl; (focus (repeat (first | exact List.Mem.head _ | refine List.Mem.tail _ ?_))); (decide +kernel); (first | (focus (first | exact HK34.out | exact HCX.out)) | rfl)) | ((with_reducible show wpList _ _ _ (⟨_, .load _ _, _, _, _, _⟩ :: _) _ _); apply wpList_loadA hM; rfl; rfl; rfl; (focus (repeat (first | exact List.Mem.head _ | refine List.Mem.tail _ ?_))); (decide +kernel); (first | (focus (first | with_reducible exact i36p _ _ _ | exact i36K.out | with_reducible exact i30)) | kernel_rfl)) | ((with_reducible show wpList _ _ _ (⟨_, .store _ _ _, _, _, _, _⟩ :: _) _ _); apply wpList_store1 hM; rfl; rfl; rfl; (conv => lhs; whnf); (focus (repeat (first | exact Hole.head | apply Hole.tail))); (first | (focus fail) | exact Nat.le_of_ble_eq_true rfl | (simp; done)); (decide +kernel); (first | rfl | assumption | (apply Mem.rowOne hM; (focus (repeat (first | exact List.Mem.head _ | refine List.Mem.tail _ ?_))))); clear hM; intro _ hM; (try dsimp only at hM); (try simp only [List.setIfInBounds_toArray, List.set_cons_zero, List.set_cons_succ, List.nil_append, List.cons_append, List.length_map] at hM)) | ((with_reducible show wpList _ _ _ (⟨_, .store _ _ _, _, _, _, _⟩ :: _) _ _); apply wpList_storeA hM; rfl; rfl; rfl; (first | rfl | (conv => lhs; whnf)); (focus (repeat (first | exact Hole.head | apply Hole.tail))); (first | (focus (first | (rw [pcell_size, pcell_size]; done) | (rw [pcell_size]; done) | (rw [pcell_size]; rfl) | rfl)) | rfl); (first | (focus (first | with_reducible exact i36p _ _ _ | exact i36K.out | with_reducible exact i30)) | kernel_rfl); (first | (focus (first | ((with_reducible refine pcell_one ?_ ?_); (first | rfl | assumption); (first | rfl | assumption)) | exact all_mk rfl)) | exact all_mk rfl); clear hM; intro _ hM; (try dsimp only at hM)))
  go_loopw [10] (fun i wr => i = .int .i64 0 ∧ Mem w NoS wr [.blk true w.heap.size K 36]) (fun _ _ => 0)
  case atStart => exact ⟨rfl, hM⟩
  case round =>
    clear hM
    obtain ⟨rfl, hM⟩ := hrel
    go_wp2_with (first
      | ((with_reducible show wpList _ _ _ _ _ (World.alloc _ (Obj.cells _ 36))); apply wpList_named hM; clear hM; intro _ hM; (try rw [pcell_zero 0] at hM))
      | ((with_reducible show wpList _ _ _ _ _ (World.alloc _ (Obj.cells _ _))); apply wpList_named hM; clear hM; intro _ hM) | ((with_reducible show wpList _ _ _ (⟨_, .load _ _, _, _, _, _⟩ :: _) _ _); apply wpList_load1 hM; rfl; rfl; rfl; (focus (repeat (first | exact List.Mem.head _ | refine List.Mem.tail _ ?_))); (decide +kernel); (first | (focus (first | exact HK34.out | exact HCX.out)) | rfl)) | ((with_reducible show wpList _ _ _ (⟨_, .load _ _, _, _, _, _⟩ :: _) _ _); apply wpList_loadA hM; rfl; rfl; rfl; (focus (repeat (first | exact List.Mem.head _ | refine List.Mem.tail _ ?_))); (decide +kernel); (first | (focus (first | with_reducible exact i36p _ _ _ | exact i36K.out | with_reducible exact i30)) | kernel_rfl)) | ((with_reducible show wpList _ _ _ (⟨_, .store _ _ _, _, _, _, _⟩ :: _) _ _); apply wpList_store1 hM; rfl; rfl; rfl; (conv => lhs; whnf); (focus (repeat (first | exact Hole.head | apply Hole.tail))); (first | (focus fail) | exact Nat.le_of_ble_eq_true rfl | (simp; done)); (decide +kernel); (first | rfl | assumption | (apply Mem.rowOne hM; (focus (repeat (first | exact List.Mem.head _ | refine List.Mem.tail _ ?_))))); clear hM; intro _ hM; (try dsimp only at hM); (try simp only [List.setIfInBounds_toArray, List.set_cons_zero, List.set_cons_succ, List.nil_append, List.cons_append, List.length_map] at hM)) | ((with_reducible show wpList _ _ _ (⟨_, .store _ _ _, _, _, _, _⟩ :: _) _ _); apply wpList_storeA hM; rfl; rfl; rfl; (first | rfl | (conv => lhs; whnf)); (focus (repeat (first | exact Hole.head | apply Hole.tail))); (first | (focus (first | (rw [pcell_size, pcell_size]; done) | (rw [pcell_size]; done) | (rw [pcell_size]; rfl) | rfl)) | rfl); (first | (focus (first | with_reducible exact i36p _ _ _ | exact i36K.out | with_reducible exact i30)) | kernel_rfl); (first | (focus (first | ((with_reducible refine pcell_one ?_ ?_); (first | rfl | assumption); (first | rfl | assumption)) | exact all_mk rfl)) | exact all_mk rfl); clear hM; intro _ hM; (try dsimp only at hM))
      | ((with_reducible show Calls _ 46 _ _ _); refine (hpr _ hM.ext0).mono ?_; rintro e _ ⟨rfl, hx2⟩; replace hM := hM.ext hx2; clear hx2)
      | ((with_reducible show Calls _ 29 _ _ _); refine (hrd _ hM.ext0).mono ?_; rintro e _ ⟨nv', tv', rfl, hn1, ht1, hx2, hsn, hst⟩; replace hM := hM.told2 hx2 hsn hst; clear hx2 hsn hst)
      | ((with_reducible show Calls _ 47 _ _ _); refine (hsm _ _ _ hM.ext0 (Rd.mono (hM.theRd (List.Mem.tail _ (List.Mem.tail _ (List.Mem.head _)))) (Nat.zero_le _)) (Rd.mono (hM.theRd (List.Mem.tail _ (List.Mem.tail _ (List.Mem.tail _ (List.Mem.head _))))) (Nat.zero_le _))).mono ?_; rintro e _ ⟨rfl, hx2⟩; replace hM := hM.ext hx2; clear hx2))
    go_ret
    exact ⟨rfl, hM.ext0⟩
set_option maxHeartbeats 2000000 in
set_option maxRecDepth 100000 in
theorem ck_e_yes (r : Rep) (hr : RepW r) (hlen : r.texts.length ≤ 1000000 ∧ ∀ p ∈ r.texts, p.length ≤ 1000000) (hR : Rounds r) (nv tv : Value) (w : World) (hv : Vars w) (h1 : SlR w 0 nv r.names) (h2 : SlR w 0 tv r.texts) (a0 : Option Addr) (c : Nat) (htv : tv = .slice a0 0 c) (q : Rep) (ho : replyOf (lineR r) = .ok q) (hq : RepW q) (sb : Bool) (hsb : sameB q r = sb) (hsv : sb = true) : Calls Tryz.prog 17 #[.agg (pcell r nv tv)] w fun e w' => e = .returned (.int .i64 0) ∧ Ext w w' := by
  have HK34 := Lib.hid (pc_of r nv tv).i34
  have i36K := Lib.hid (i36p r nv tv)
  have hpr : ∀ w', Ext w w' → Calls Tryz.prog 46 #[.agg (pcell r nv tv)] w' fun e w'' => e = .returned (strV (lineR r)) ∧ Ext w' w'' := fun w' h => hR.prints nv tv w' (hv.ext h) (h1.ext h) (h2.ext h)
  have hrd : ∀ w', Ext w w' → Calls Tryz.prog 29 #[strV (lineR r)] w' fun e w'' => ∃ nv' tv' : Value, e = .returned (.tuple #[.agg (pcell q nv' tv'), .agg #[.int .i64 0, .int .i64 0]]) ∧ nv'.oneCell' = true ∧ tv'.oneCell' = true ∧ Ext w' w'' ∧ SlR w'' w'.heap.size nv' q.names ∧ SlR w'' w'.heap.size tv' q.texts := fun w' h => (hR.reads w' (hv.ext h)).mono fun e w'' ⟨p, n1, t1, e1, a1, h5, h6, h7⟩ => by
    rw [ho] at h7
    obtain ⟨h8, rfl, rfl, h9, h10⟩ := h7
    exact ⟨n1, t1, by rw [h5, h8], Rd.one h9, Rd.one h10, h6, h9, h10⟩
  have hsm : ∀ (w' : World) (nv' tv' : Value), Ext w w' → SlR w' 0 nv' q.names → SlR w' 0 tv' q.texts → Calls Tryz.prog 47 #[.agg (pcell q nv' tv'), .agg (pcell r nv tv)] w' fun e w'' => e = .returned (.bool sb) ∧ Ext w' w'' := fun w' nv' tv' h h5 h6 => by
    rw [← hsb]
    exact same_any q r nv' tv' nv tv hq hr w' h5 h6 (h1.ext h) (h2.ext h)
  subst hsv
  generalize lineR r = LR at *
  clear hR h1 h2 hr ho hq hsb
  generalize pcell r nv tv = K at *
  subst htv
  go_enter Tryz.func17, Tryz.ntmps17
  have hM := Mem.start w NoS
  go_wp2_with (first
    | ((with_reducible show wpList _ _ _ _ _ (World.alloc _ (Obj.cells _ _))); apply wpList_named hM; clear hM; intro _ hM) | ((with_reducible show wpList _ _ _ (⟨_, .load _ _, _, _, _, _⟩ :: _) _ _); apply wpList_load1 hM; rfl; rfl; rfl; (focus (repeat (first | exact List.Mem.head _ | refine List.Mem.tail _ ?_))); (decide +kernel); (first | (focus (first | exact HK34.out | exact HCX.out)) | rfl)) | ((with_reducible show wpList _ _ _ (⟨_, .load _ _, _, _, _, _⟩ :: _) _ _); apply wpList_loadA hM; rfl; rfl; rfl; (focus (repeat (first | exact List.Mem.head _ | refine List.Mem.tail _ ?_))); (decide +kernel); (first | (focus (first | with_reducible exact i36p _ _ _ | exact i36K.out | with_reducible exact i30)) | kernel_rfl)) | ((with_reducible show wpList _ _ _ (⟨_, .store _ _ _, _, _, _, _⟩ :: _) _ _); apply wpList_store1 hM; rfl; rfl; rfl; (conv => lhs; whnf); (focus (repeat (first | exact Hole.head | apply Hole.tail))); (first | (focus fail) | exact Nat.le_of_ble_eq_true rfl | (simp; done)); (decide +kernel); (first | rfl | assumption | (apply Mem.rowOne hM; (focus (repeat (first | exact List.Mem.head _ | refine List.Mem.tail _ ?_))))); clear hM; intro _ hM; (try dsimp only at hM); (try simp only [List.setIfInBounds_toArray, List.set_cons_zero, List.set_cons_succ, List.nil_append, List.cons_append, List.length_map] at hM)) | ((with_reducible show wpList _ _ _ (⟨_, .store _ _ _, _, _, _, _⟩ :: _) _ _); apply wpList_storeA hM; rfl; rfl; rfl; (first | rfl | (conv => lhs; whnf)); (focus (repeat (first | exact Hole.head | apply Hole.tail))); (first | (focus (first | (rw [pcell_size, pcell_size]; done) | (rw [pcell_size]; done) | (rw [pcell_size]; rfl) | rfl)) | rfl); (first | (focus (first | with_reducible exact i36p _ _ _ | exact i36K.out | with_reducible exact i30)) | kernel_rfl); (first | (focus (first | ((with_reducible refine pcell_one ?_ ?_); (first | rfl | assumption); (first | rfl | assumption)) | exact all_mk rfl)) | exact all_mk rfl); clear hM; intro _ hM; (try dsimp only at hM)))
  go_loopw [10] (fun i wr => i = .int .i64 0 ∧ Mem w NoS wr [.blk true w.heap.size K 36]) (fun _ _ => 0)
  case atStart => exact ⟨rfl, hM⟩
  case round =>
    clear hM
    obtain ⟨rfl, hM⟩ := hrel
    go_wp2_with (first
      | ((with_reducible show wpList _ _ _ _ _ (World.alloc _ (Obj.cells _ 36))); apply wpList_named hM; clear hM; intro _ hM; (try rw [pcell_zero 0] at hM))
      | ((with_reducible show wpList _ _ _ _ _ (World.alloc _ (Obj.cells _ _))); apply wpList_named hM; clear hM; intro _ hM) | ((with_reducible show wpList _ _ _ (⟨_, .load _ _, _, _, _, _⟩ :: _) _ _); apply wpList_load1 hM; rfl; rfl; rfl; (focus (repeat (first | exact List.Mem.head _ | refine List.Mem.tail _ ?_))); (decide +kernel); (first | (focus (first | exact HK34.out | exact HCX.out)) | rfl)) | ((with_reducible show wpList _ _ _ (⟨_, .load _ _, _, _, _, _⟩ :: _) _ _); apply wpList_loadA hM; rfl; rfl; rfl; (focus (repeat (first | exact List.Mem.head _ | refine List.Mem.tail _ ?_))); (decide +kernel); (first | (focus (first | with_reducible exact i36p _ _ _ | exact i36K.out | with_reducible exact i30)) | kernel_rfl)) | ((with_reducible show wpList _ _ _ (⟨_, .store _ _ _, _, _, _, _⟩ :: _) _ _); apply wpList_store1 hM; rfl; rfl; rfl; (conv => lhs; whnf); (focus (repeat (first | exact Hole.head | apply Hole.tail))); (first | (focus fail) | exact Nat.le_of_ble_eq_true rfl | (simp; done)); (decide +kernel); (first | rfl | assumption | (apply Mem.rowOne hM; (focus (repeat (first | exact List.Mem.head _ | refine List.Mem.tail _ ?_))))); clear hM; intro _ hM; (try dsimp only at hM); (try simp only [List.setIfInBounds_toArray, List.set_cons_zero, List.set_cons_succ, List.nil_append, List.cons_append, List.length_map] at hM)) | ((with_reducible show wpList _ _ _ (⟨_, .store _ _ _, _, _, _, _⟩ :: _) _ _); apply wpList_storeA hM; rfl; rfl; rfl; (first | rfl | (conv => lhs; whnf)); (focus (repeat (first | exact Hole.head | apply Hole.tail))); (first | (focus (first | (rw [pcell_size, pcell_size]; done) | (rw [pcell_size]; done) | (rw [pcell_size]; rfl) | rfl)) | rfl); (first | (focus (first | with_reducible exact i36p _ _ _ | exact i36K.out | with_reducible exact i30)) | kernel_rfl); (first | (focus (first | ((with_reducible refine pcell_one ?_ ?_); (first | rfl | assumption); (first | rfl | assumption)) | exact all_mk rfl)) | exact all_mk rfl); clear hM; intro _ hM; (try dsimp only at hM))
      | ((with_reducible show Calls _ 46 _ _ _); refine (hpr _ hM.ext0).mono ?_; rintro e _ ⟨rfl, hx2⟩; replace hM := hM.ext hx2; clear hx2)
      | ((with_reducible show Calls _ 29 _ _ _); refine (hrd _ hM.ext0).mono ?_; rintro e _ ⟨nv', tv', rfl, hn1, ht1, hx2, hsn, hst⟩; replace hM := hM.told2 hx2 hsn hst; clear hx2 hsn hst)
      | ((with_reducible show Calls _ 47 _ _ _); refine (hsm _ _ _ hM.ext0 (Rd.mono (hM.theRd (List.Mem.tail _ (List.Mem.tail _ (List.Mem.head _)))) (Nat.zero_le _)) (Rd.mono (hM.theRd (List.Mem.tail _ (List.Mem.tail _ (List.Mem.tail _ (List.Mem.head _))))) (Nat.zero_le _))).mono ?_; rintro e _ ⟨rfl, hx2⟩; replace hM := hM.ext hx2; clear hx2))
    go_ret
    exact ⟨rfl, hM.ext0⟩
/-- line.CheckReply -/
theorem CheckReply_any (r : Rep) (hr : RepW r) (hlen : r.texts.length ≤ 1000000 ∧ ∀ p ∈ r.texts, p.length ≤ 1000000) (hR : Rounds r) (hq : ∀ q, replyOf (lineR r) = .ok q → RepW q) (nv tv : Value) (w : World) (hv : Vars w) (h1 : SlR w 0 nv r.names) (h2 : SlR w 0 tv r.texts) :
    Calls Tryz.prog 17 #[.agg (pcell r nv tv)] w fun e w' => e = .returned (.int .i64 (if okRep r then 0 else 2)) ∧ Ext w w' := by
  have h2' := h2
  rcases h2 with ⟨a0, c, htv, hts⟩ | ⟨g, o, c, C, ty, htv, _, hblk, hC⟩
  · have hts0 : r.texts = [] := by simpa using hts
    have hb : textsB r = true := by unfold textsB; rw [hts0]; rfl
    cases ho : replyOf (lineR r) with
    | error p =>
      rw [show okRep r = false from by unfold okRep; rw [ho]; simp]
      exact ck_e_err r hr hlen hR nv tv w hv h1 h2' a0 c htv p.1 p.2 ho
    | ok q =>
      have hok : okRep r = sameB q r := by unfold okRep; rw [hb, ho]; simp
      rw [hok]
      cases hs : sameB q r with
      | true => exact ck_e_yes r hr hlen hR nv tv w hv h1 h2' a0 c htv q ho (hq q ho) _ hs rfl
      | false => exact ck_e_no r hr hlen hR nv tv w hv h1 h2' a0 c htv q ho (hq q ho) _ hs rfl
  · rw [List.length_map] at htv
    cases hb : textsB r with
    | false =>
      rw [show okRep r = false from by unfold okRep; rw [hb]; rfl]
      exact ck_s_bad r hr hlen hR nv tv w hv h1 h2' g o c C ty htv hblk hC hb
    | true =>
      cases ho : replyOf (lineR r) with
      | error p =>
        rw [show okRep r = false from by unfold okRep; rw [ho]; simp]
        exact ck_s_err r hr hlen hR nv tv w hv h1 h2' g o c C ty htv hblk hC hb p.1 p.2 ho
      | ok q =>
        have hok : okRep r = sameB q r := by unfold okRep; rw [hb, ho]; simp
        rw [hok]
        cases hs : sameB q r with
        | true => exact ck_s_yes r hr hlen hR nv tv w hv h1 h2' g o c C ty htv hblk hC hb q ho (hq q ho) _ hs rfl
        | false => exact ck_s_no r hr hlen hR nv tv w hv h1 h2' g o c C ty htv hblk hC hb q ho (hq q ho) _ hs rfl
set_option maxHeartbeats 2000000 in
set_option maxRecDepth 100000 in
theorem pr_ok_true (r : Rep) (hR : Rounds r) (nv tv : Value) (w : World) (hv : Vars w) (h1 : SlR w 0 nv r.names) (h2 : SlR w 0 tv r.texts) (hck : ∀ w', Ext w w' → Calls Tryz.prog 17 #[.agg (pcell r nv tv)] w' fun e w'' => e = .returned (.int .i64 0) ∧ Ext w' w'') : Calls Tryz.prog 16 #[.agg (pcell r nv tv)] w fun e w' => e = .returned (.tuple #[strV (lineR r), .int .i64 0]) ∧ Ext w w' := by
  have i36K := Lib.hid (i36p r nv tv)
  have hpr : ∀ w', Ext w w' → Calls Tryz.prog 46 #[.agg (pcell r nv tv)] w' fun e w'' => e = .returned (strV (lineR r)) ∧ Ext w' w'' := fun w' h => hR.prints nv tv w' (hv.ext h) (h1.ext h) (h2.ext h)
  clear hR h1 h2
  generalize lineR r = LR at *
  generalize pcell r nv tv = K at *
  have hM := Mem.start w NoS
  go_enter Tryz.func16, Tryz.ntmps16
  go_wp2_with (first
    | ((with_reducible show wpList _ _ _ _ _ (World.alloc _ (Obj.cells _ _))); apply wpList_named hM; clear hM; intro _ hM) | ((with_reducible show wpList _ _ _ (⟨_, .load _ _, _, _, _, _⟩ :: _) _ _); apply wpList_load1 hM; rfl; rfl; rfl; (focus (repeat (first | exact List.Mem.head _ | refine List.Mem.tail _ ?_))); (decide +kernel); (first | (focus (first | exact HK34.out | exact HCX.out)) | rfl)) | ((with_reducible show wpList _ _ _ (⟨_, .load _ _, _, _, _, _⟩ :: _) _ _); apply wpList_loadA hM; rfl; rfl; rfl; (focus (repeat (first | exact List.Mem.head _ | refine List.Mem.tail _ ?_))); (decide +kernel); (first | (focus (first | with_reducible exact i36p _ _ _ | exact i36K.out | with_reducible exact i30)) | kernel_rfl)) | ((with_reducible show wpList _ _ _ (⟨_, .store _ _ _, _, _, _, _⟩ :: _) _ _); apply wpList_store1 hM; rfl; rfl; rfl; (conv => lhs; whnf); (focus (repeat (first | exact Hole.head | apply Hole.tail))); (first | (focus fail) | exact Nat.le_of_ble_eq_true rfl | (simp; done)); (decide +kernel); (first | rfl | assumption | (apply Mem.rowOne hM; (focus (repeat (first | exact List.Mem.head _ | refine List.Mem.tail _ ?_))))); clear hM; intro _ hM; (try dsimp only at hM); (try simp only [List.setIfInBounds_toArray, List.set_cons_zero, List.set_cons_succ, List.nil_append, List.cons_append, List.length_map] at hM)) | ((with_reducible show wpList _ _ _ (⟨_, .store _ _ _, _, _, _, _⟩ :: _) _ _); apply wpList_storeA hM; rfl; rfl; rfl; (first | rfl | (conv => lhs; whnf)); (focus (repeat (first | exact Hole.head | apply Hole.tail))); (first | (focus (first | (rw [pcell_size, pcell_size]; done) | (rw [pcell_size]; done) | (rw [pcell_size]; rfl) | rfl)) | rfl); (first | (focus (first | with_reducible exact i36p _ _ _ | exact i36K.out | with_reducible exact i30)) | kernel_rfl); (first | (focus (first | ((with_reducible refine pcell_one ?_ ?_); (first | rfl | assumption); (first | rfl | assumption)) | exact all_mk rfl)) | exact all_mk rfl); clear hM; intro _ hM; (try dsimp only at hM))
    | ((with_reducible show Calls _ 17 _ _ _); refine (hck _ hM.ext0).mono ?_; rintro e _ ⟨rfl, hx2⟩; replace hM := hM.ext hx2; clear hx2)
    | ((with_reducible show Calls _ 46 _ _ _); refine (hpr _ hM.ext0).mono ?_; rintro e _ ⟨rfl, hx2⟩; replace hM := hM.ext hx2; clear hx2))
  go_ret2
  exact ⟨rfl, hM.ext0⟩
set_option maxHeartbeats 2000000 in
set_option maxRecDepth 100000 in
theorem pr_ok_false (r : Rep) (hR : Rounds r) (nv tv : Value) (w : World) (hv : Vars w) (h1 : SlR w 0 nv r.names) (h2 : SlR w 0 tv r.texts) (hck : ∀ w', Ext w w' → Calls Tryz.prog 17 #[.agg (pcell r nv tv)] w' fun e w'' => e = .returned (.int .i64 2) ∧ Ext w' w'') : Calls Tryz.prog 16 #[.agg (pcell r nv tv)] w fun e w' => e = .returned (.tuple #[strV ([]), .int .i64 2]) ∧ Ext w w' := by
  have i36K := Lib.hid (i36p r nv tv)
  have hpr : ∀ w', Ext w w' → Calls Tryz.prog 46 #[.agg (pcell r nv tv)] w' fun e w'' => e = .returned (strV (lineR r)) ∧ Ext w' w'' := fun w' h => hR.prints nv tv w' (hv.ext h) (h1.ext h) (h2.ext h)
  clear hR h1 h2
  generalize lineR r = LR at *
  generalize pcell r nv tv = K at *
  have hM := Mem.start w NoS
  go_enter Tryz.func16, Tryz.ntmps16
  go_wp2_with (first
    | ((with_reducible show wpList _ _ _ _ _ (World.alloc _ (Obj.cells _ _))); apply wpList_named hM; clear hM; intro _ hM) | ((with_reducible show wpList _ _ _ (⟨_, .load _ _, _, _, _, _⟩ :: _) _ _); apply wpList_load1 hM; rfl; rfl; rfl; (focus (repeat (first | exact List.Mem.head _ | refine List.Mem.tail _ ?_))); (decide +kernel); (first | (focus (first | exact HK34.out | exact HCX.out)) | rfl)) | ((with_reducible show wpList _ _ _ (⟨_, .load _ _, _, _, _, _⟩ :: _) _ _); apply wpList_loadA hM; rfl; rfl; rfl; (focus (repeat (first | exact List.Mem.head _ | refine List.Mem.tail _ ?_))); (decide +kernel); (first | (focus (first | with_reducible exact i36p _ _ _ | exact i36K.out | with_reducible exact i30)) | kernel_rfl)) | ((with_reducible show wpList _ _ _ (⟨_, .store _ _ _, _, _, _, _⟩ :: _) _ _); apply wpList_store1 hM; rfl; rfl; rfl; (conv => lhs; whnf); (focus (repeat (first | exact Hole.head | apply Hole.tail))); (first | (focus fail) | exact Nat.le_of_ble_eq_true rfl | (simp; done)); (decide +kernel); (first | rfl | assumption | (apply Mem.rowOne hM; (focus (repeat (first | exact List.Mem.head _ | refine List.Mem.tail _ ?_))))); clear hM; intro _ hM; (try dsimp only at hM); (try simp only [List.setIfInBounds_toArray, List.set_cons_zero, List.set_cons_succ, List.nil_append, List.cons_append, List.length_map] at hM)) | ((with_reducible show wpList _ _ _ (⟨_, .store _ _ _, _, _, _, _⟩ :: _) _ _); apply wpList_storeA hM; rfl; rfl; rfl; (first | rfl | (conv => lhs; whnf)); (focus (repeat (first | exact Hole.head | apply Hole.tail))); (first | (focus (first | (rw [pcell_size, pcell_size]; done) | (rw [pcell_size]; done) | (rw [pcell_size]; rfl) | rfl)) | rfl); (first | (focus (first | with_reducible exact i36p _ _ _ | exact i36K.out | with_reducible exact i30)) | kernel_rfl); (first | (focus (first | ((with_reducible refine pcell_one ?_ ?_); (first | rfl | assumption); (first | rfl | assumption)) | exact all_mk rfl)) | exact all_mk rfl); clear hM; intro _ hM; (try dsimp only at hM))
    | ((with_reducible show Calls _ 17 _ _ _); refine (hck _ hM.ext0).mono ?_; rintro e _ ⟨rfl, hx2⟩; replace hM := hM.ext hx2; clear hx2)
    | ((with_reducible show Calls _ 46 _ _ _); refine (hpr _ hM.ext0).mono ?_; rintro e _ ⟨rfl, hx2⟩; replace hM := hM.ext hx2; clear hx2))
  go_ret2
  exact ⟨rfl, hM.ext0⟩
/-- line.PrintReply -/
theorem PrintReply_any (r : Rep) (hr : RepW r) (hlen : r.texts.length ≤ 1000000 ∧ ∀ p ∈ r.texts, p.length ≤ 1000000) (hR : Rounds r) (hq : ∀ q, replyOf (lineR r) = .ok q → RepW q) (nv tv : Value) (w : World) (hv : Vars w) (h1 : SlR w 0 nv r.names) (h2 : SlR w 0 tv r.texts) :
    Calls Tryz.prog 16 #[.agg (pcell r nv tv)] w fun e w' => e = .returned (.tuple #[strV (if okRep r then lineR r else []), .int .i64 (if okRep r then 0 else 2)]) ∧ Ext w w' := by
  have hck := fun w' (h : Ext w w') => CheckReply_any r hr hlen hR hq nv tv w' (hv.ext h) (h1.ext h) (h2.ext h)
  cases hok : okRep r with
  | true => rw [hok] at hck; exact pr_ok_true r hR nv tv w hv h1 h2 hck
  | false => rw [hok] at hck; exact pr_ok_false r hR nv tv w hv h1 h2 hck
end Go.Proofs.YtigfkfjlfpndfaaGreatDoor
