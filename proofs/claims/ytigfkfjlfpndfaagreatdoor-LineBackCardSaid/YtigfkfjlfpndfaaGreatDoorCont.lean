/-
  line.contacts.
-/
import Derived.Test.YtigfkfjlfpndfaaGreatDoorSpl
namespace Go.Proofs.YtigfkfjlfpndfaaGreatDoor
open Go.RowKit Sp

/-- names, each another one -/
def gnGo (seen : List (List UInt8)) : List (List UInt8) → Bool
  | [] => true
  | x :: r => nameB x && !decide (x ∈ seen) && gnGo (seen ++ [x]) r
def contactsS (l : List UInt8) : Option (List (List UInt8)) := match spl l with
  | [] => none
  | c :: ns => if numB c = true ∧ decV c = ns.length ∧ ns.length ≤ 3 ∧ gnGo [] ns = true then some ns else none

/-- a slice that reads as a list of texts, in a block from B on (or with no memory) -/
abbrev SlR (w : World) (B : Nat) (v : Value) (xs : List (List UInt8)) : Prop := Rd w B v (xs.map strV)
def CtP (s : ByteArray) (w : World) (e : Ending) (w' : World) : Prop :=
  ∃ v : Value, e = .returned (.tuple #[v, .bool (contactsS (bl s)).isSome]) ∧ v.oneCell' = true ∧ (∀ l, contactsS (bl s) = some l → SlR w' w.heap.size v l) ∧ Ext w w'
theorem CtP.no {s : ByteArray} {w w' : World} {v : Value} (hv : v.oneCell' = true) (h : contactsS (bl s) = none) (hx : Ext w w') : CtP s w (.returned (.tuple #[v, .bool false])) w' :=
  ⟨v, by rw [h]; rfl, hv, (fun l hl => by rw [h] at hl; cases hl), hx⟩
theorem name_list (r : List UInt8) (hr : r.length ≤ 1000000) (w : World) : Calls Tryz.prog 64 #[strV r] w fun e w' => e = .returned (.bool (nameB r)) ∧ Ext w w' := lName_any ⟨r.toArray⟩ w (by show r.length ≤ _; omega)

set_option maxHeartbeats 2000000 in
set_option maxRecDepth 100000 in
theorem contacts_0 (s : ByteArray) (hs : s.size ≤ 1000000) (c : List UInt8) (hsp : spl (bl s) = [c]) (w : World) (hv : Vars w) : Calls Tryz.prog 79 #[.string s] w (CtP s w) := by
  have hlc : c.length ≤ s.size := spl_len (bl s) c (by rw [hsp]; simp)
  have hct : contactsS (bl s) = if numB c = true ∧ decV c = 0 then some [] else none := by unfold contactsS; rw [hsp]; simp [gnGo]
  have hspl := fun w' h' => split_any s hs w' h'
  rw [hsp] at hspl
  have hnum := fun w' h' => number_list c (by omega) w' h'
  have HC := Lib.hid hct; clear hct hsp
  have HV := Lib.hid hv; clear hv
  have hM := Mem.start w NoS
  cases hn : numB c with
  | true =>
    obtain ⟨n, hdn⟩ : ∃ n, decV c = n := ⟨_, rfl⟩
    have HN := Lib.hid hn
    rw [hn, hdn] at HC
    have HD := Lib.hid hdn; clear hdn hn
    by_cases h0 : n = 0
    · have HC' := HC.out
      rw [if_pos ⟨rfl, h0⟩] at HC'
      have H2 := Lib.hid HC'; clear HC'
      subst h0
      go_enter Tryz.func79, Tryz.ntmps79
      go_wp2_with (first | ((with_reducible show wpList _ _ _ _ _ (World.alloc _ (Obj.cells _ _))); apply wpList_named hM; clear hM; intro _ hM) | ((with_reducible show wpList _ _ _ (⟨_, .load _ _, _, _, _, _⟩ :: _) _ _); apply wpList_load1 hM; rfl; rfl; rfl; (focus (repeat (first | exact List.Mem.head _ | refine List.Mem.tail _ ?_))); (decide +kernel); (first | (focus fail) | rfl)) | ((with_reducible show wpList _ _ _ (⟨_, .load _ _, _, _, _, _⟩ :: _) _ _); apply wpList_loadA hM; rfl; rfl; rfl; (focus (repeat (first | exact List.Mem.head _ | refine List.Mem.tail _ ?_))); (decide +kernel); (first | (focus fail) | kernel_rfl)) | ((with_reducible show wpList _ _ _ (⟨_, .store _ _ _, _, _, _, _⟩ :: _) _ _); apply wpList_store1 hM; rfl; rfl; rfl; (conv => lhs; whnf); (focus (repeat (first | exact Hole.head | apply Hole.tail))); (first | (focus fail) | exact Nat.le_of_ble_eq_true rfl | (simp; done)); (decide +kernel); (first | rfl | assumption | (apply Mem.rowOne hM; (focus (repeat (first | exact List.Mem.head _ | refine List.Mem.tail _ ?_))))); clear hM; intro _ hM; (try dsimp only at hM); (try simp only [List.setIfInBounds_toArray, List.set_cons_zero, List.set_cons_succ, List.nil_append, List.cons_append, List.length_map] at hM)) | ((with_reducible show wpList _ _ _ (⟨_, .store _ _ _, _, _, _, _⟩ :: _) _ _); apply wpList_storeA hM; rfl; rfl; rfl; (first | rfl | (conv => lhs; whnf)); (focus (repeat (first | exact Hole.head | apply Hole.tail))); (first | (focus fail) | rfl); (first | (focus fail) | kernel_rfl); (first | (focus fail) | exact all_mk rfl); clear hM; intro _ hM; (try dsimp only at hM)) | ((with_reducible show Calls _ 58 _ _ _); refine (hspl _ HV.out).mono ?_; rintro e w1 ⟨rfl, rfl⟩) | ((with_reducible show Calls _ 69 _ _ _); refine (hnum _ (hM.vars HV.out)).mono ?_; rintro e w2 ⟨n', rfl, hn', hx2⟩; replace hM := hM.ext hx2; clear hx2; obtain rfl : n' = 0 := (by rw [hn' HN.out, HD.out]; rfl); clear hn'; rw [HN.out]))
      go_loop [34] (fun i => i = .int .i64 0) (fun _ => 0)
      case atStart => rfl
      case round =>
        subst hrel
        go_wp2
        go_ret2
        exact ⟨_, by rw [H2.out]; rfl, rfl, fun l hl => by rw [H2.out] at hl; injection hl with hl; subst hl; exact .inl ⟨_, _, rfl, rfl⟩, hM.ext0⟩
    · have HC' := HC.out
      rw [if_neg (fun h => h0 h.2)] at HC'
      have H2 := Lib.hid HC'; clear HC'
      have h0' : ((n : Int) != 0) = true := by simp; omega
      go_enter Tryz.func79, Tryz.ntmps79
      go_wp2_with (first | ((with_reducible show wpList _ _ _ _ _ (World.alloc _ (Obj.cells _ _))); apply wpList_named hM; clear hM; intro _ hM) | ((with_reducible show wpList _ _ _ (⟨_, .load _ _, _, _, _, _⟩ :: _) _ _); apply wpList_load1 hM; rfl; rfl; rfl; (focus (repeat (first | exact List.Mem.head _ | refine List.Mem.tail _ ?_))); (decide +kernel); (first | (focus fail) | rfl)) | ((with_reducible show wpList _ _ _ (⟨_, .load _ _, _, _, _, _⟩ :: _) _ _); apply wpList_loadA hM; rfl; rfl; rfl; (focus (repeat (first | exact List.Mem.head _ | refine List.Mem.tail _ ?_))); (decide +kernel); (first | (focus fail) | kernel_rfl)) | ((with_reducible show wpList _ _ _ (⟨_, .store _ _ _, _, _, _, _⟩ :: _) _ _); apply wpList_store1 hM; rfl; rfl; rfl; (conv => lhs; whnf); (focus (repeat (first | exact Hole.head | apply Hole.tail))); (first | (focus fail) | exact Nat.le_of_ble_eq_true rfl | (simp; done)); (decide +kernel); (first | rfl | assumption | (apply Mem.rowOne hM; (focus (repeat (first | exact List.Mem.head _ | refine List.Mem.tail _ ?_))))); clear hM; intro _ hM; (try dsimp only at hM); (try simp only [List.setIfInBounds_toArray, List.set_cons_zero, List.set_cons_succ, List.nil_append, List.cons_append, List.length_map] at hM)) | ((with_reducible show wpList _ _ _ (⟨_, .store _ _ _, _, _, _, _⟩ :: _) _ _); apply wpList_storeA hM; rfl; rfl; rfl; (first | rfl | (conv => lhs; whnf)); (focus (repeat (first | exact Hole.head | apply Hole.tail))); (first | (focus fail) | rfl); (first | (focus fail) | kernel_rfl); (first | (focus fail) | exact all_mk rfl); clear hM; intro _ hM; (try dsimp only at hM)) | ((with_reducible show Calls _ 58 _ _ _); refine (hspl _ HV.out).mono ?_; rintro e w1 ⟨rfl, rfl⟩) | ((with_reducible show Calls _ 69 _ _ _); refine (hnum _ (hM.vars HV.out)).mono ?_; rintro e w2 ⟨n', rfl, hn', hx2⟩; replace hM := hM.ext hx2; clear hx2; obtain rfl : n' = (n : Int) := (by rw [hn' HN.out, HD.out]); clear hn'; rw [HN.out]))
      go_ret2
      exact CtP.no rfl H2.out hM.ext0
  | false =>
    have HN := Lib.hid hn; clear hn
    have HC' := HC.out
    rw [HN.out, if_neg (by simp)] at HC'
    have H2 := Lib.hid HC'; clear HC'
    go_enter Tryz.func79, Tryz.ntmps79
    go_wp2_with (first | ((with_reducible show wpList _ _ _ _ _ (World.alloc _ (Obj.cells _ _))); apply wpList_named hM; clear hM; intro _ hM) | ((with_reducible show wpList _ _ _ (⟨_, .load _ _, _, _, _, _⟩ :: _) _ _); apply wpList_load1 hM; rfl; rfl; rfl; (focus (repeat (first | exact List.Mem.head _ | refine List.Mem.tail _ ?_))); (decide +kernel); (first | (focus fail) | rfl)) | ((with_reducible show wpList _ _ _ (⟨_, .load _ _, _, _, _, _⟩ :: _) _ _); apply wpList_loadA hM; rfl; rfl; rfl; (focus (repeat (first | exact List.Mem.head _ | refine List.Mem.tail _ ?_))); (decide +kernel); (first | (focus fail) | kernel_rfl)) | ((with_reducible show wpList _ _ _ (⟨_, .store _ _ _, _, _, _, _⟩ :: _) _ _); apply wpList_store1 hM; rfl; rfl; rfl; (conv => lhs; whnf); (focus (repeat (first | exact Hole.head | apply Hole.tail))); (first | (focus fail) | exact Nat.le_of_ble_eq_true rfl | (simp; done)); (decide +kernel); (first | rfl | assumption | (apply Mem.rowOne hM; (focus (repeat (first | exact List.Mem.head _ | refine List.Mem.tail _ ?_))))); clear hM; intro _ hM; (try dsimp only at hM); (try simp only [List.setIfInBounds_toArray, List.set_cons_zero, List.set_cons_succ, List.nil_append, List.cons_append, List.length_map] at hM)) | ((with_reducible show wpList _ _ _ (⟨_, .store _ _ _, _, _, _, _⟩ :: _) _ _); apply wpList_storeA hM; rfl; rfl; rfl; (first | rfl | (conv => lhs; whnf)); (focus (repeat (first | exact Hole.head | apply Hole.tail))); (first | (focus fail) | rfl); (first | (focus fail) | kernel_rfl); (first | (focus fail) | exact all_mk rfl); clear hM; intro _ hM; (try dsimp only at hM)) | ((with_reducible show Calls _ 58 _ _ _); refine (hspl _ HV.out).mono ?_; rintro e w1 ⟨rfl, rfl⟩) | ((with_reducible show Calls _ 69 _ _ _); refine (hnum _ (hM.vars HV.out)).mono ?_; rintro e w2 ⟨n', rfl, hn', hx2⟩; replace hM := hM.ext hx2; clear hx2; clear hn'; rw [HN.out]))
    go_ret2
    exact CtP.no rfl H2.out hM.ext0

theorem gnGo_on {seen r : List (List UInt8)} {x : List UInt8} (h1 : nameB x = true) (h2 : x ∉ seen) : gnGo seen (x :: r) = gnGo (seen ++ [x]) r := by simp [gnGo, h1, h2]
theorem gnGo_name {seen r : List (List UInt8)} {x : List UInt8} (h1 : nameB x = false) : gnGo seen (x :: r) = false := by simp [gnGo, h1]
theorem gnGo_twice {seen r : List (List UInt8)} {x : List UInt8} (h2 : x ∈ seen) : gnGo seen (x :: r) = false := by simp [gnGo, h2]
def bas (ns : List (List UInt8)) : List ByteArray := ns.map fun p => ⟨p.toArray⟩
theorem bas_len (ns : List (List UInt8)) : (bas ns).length = ns.length := by simp [bas]
theorem bas_mem (ns : List (List UInt8)) (x : List UInt8) : (⟨x.toArray⟩ : ByteArray) ∈ bas ns ↔ x ∈ ns := by
  unfold bas
  rw [List.mem_map]
  constructor
  · rintro ⟨p, hp, he⟩
    have := congrArg bl he
    simp only [bl_mk] at this
    exact this ▸ hp
  · intro h; exact ⟨x, h, rfl⟩
theorem bas_getD (ns : List (List UInt8)) (j : Nat) (h : j < ns.length) : Value.string ((bas ns).getD j ByteArray.empty) = strV ns[j] := by
  unfold bas
  rw [List.getD_eq_getElem?_getD, List.getElem?_map, List.getElem?_eq_getElem h]; rfl
theorem contains_any (g o c : Nat) (ns : List (List UInt8)) (C : Array Value) (x : List UInt8) (k : Nat) (hk : k ≤ ns.length) (hn : ns.length ≤ 1000000) (w : World) (hb : Blk w g C 9) (hC : ∀ j (h : j < ns.length), C[o + j]? = some (strV ns[j])) :
    Calls Tryz.prog 93 #[.slice (some ⟨g, o, none⟩) k c, strV x] w fun e w' => e = .returned (.bool (decide (x ∈ ns.take k))) ∧ w' = w := by
  refine (Tryz.slices_Contains_string g o k c (bas ns) ⟨x.toArray⟩ w (by rw [bas_len]; exact hk) (by omega) (fun j hj => ?_)).mono ?_
  · rw [bas_len] at hj
    rw [bas_getD ns j hj]
    exact hb.cell (hC j hj)
  · rintro e w' ⟨rfl, rfl⟩
    refine ⟨?_, rfl⟩
    congr 2
    rw [Bool.eq_iff_iff, Lib.containsS_iff, decide_eq_true_eq, show (bas ns).take k = bas (ns.take k) from by simp [bas, List.map_take], bas_mem]

def CtR (w : World) (c : List UInt8) (ns : List (List UInt8)) (i : Value) (wr : World) : Prop :=
  ∃ k : Nat, k ≤ ns.length ∧ i = .int .i64 k ∧ gnGo [] ns = gnGo (ns.take k) (ns.drop k) ∧ Mem w NoS wr [.blk true w.heap.size (strV c :: ns.map strV).toArray 9]

set_option maxHeartbeats 2000000 in
set_option maxRecDepth 100000 in
theorem contacts_n (s : ByteArray) (hs : s.size ≤ 1000000) (c y : List UInt8) (r : List (List UInt8)) (hsp : spl (bl s) = c :: y :: r) (w : World) (hv : Vars w) : Calls Tryz.prog 79 #[.string s] w (CtP s w) := by
  have hlc : c.length ≤ s.size := spl_len (bl s) c (by rw [hsp]; simp)
  have hcount := spl_count (bl s)
  rw [hsp] at hcount
  have hcount' : (y :: r).length ≤ 1000000 := by
    have : (bl s).length = s.size := rfl
    simp only [List.length_cons] at hcount ⊢
    omega
  have hshort : ∀ p ∈ y :: r, p.length ≤ 1000000 := fun p hp => Nat.le_trans (spl_len (bl s) p (by rw [hsp]; simp at hp ⊢; exact .inr hp)) hs
  have hct : contactsS (bl s) = if numB c = true ∧ decV c = (y :: r).length ∧ (y :: r).length ≤ 3 ∧ gnGo [] (y :: r) = true then some (y :: r) else none := by unfold contactsS; rw [hsp]
  have hspl := fun w' h' => split_any s hs w' h'
  rw [hsp] at hspl
  have hnum := fun w' h' => number_list c (by omega) w' h'
  have HC := Lib.hid hct; clear hct hsp
  have HV := Lib.hid hv; clear hv
  have HS := Lib.hid hshort; clear hshort
  have hM := Mem.start w NoS
  clear hcount
  rw [List.map_cons] at hspl
  have hnl : ((y :: r).map strV).length = r.length + 1 := by simp
  have hat : ∀ j (h : j < (y :: r).length), (strV c :: (y :: r).map strV).toArray[1 + j]? = some (strV (y :: r)[j]) := by
    intro j hj
    rw [Nat.add_comm, List.getElem?_toArray, List.getElem?_cons_succ, List.getElem?_map, List.getElem?_eq_getElem hj]; rfl
  have HAT := Lib.hid hat; clear hat
  rw [show (c :: y :: r).length = r.length + 2 from rfl] at hspl
  obtain ⟨ns, hns⟩ : ∃ ns, y :: r = ns := ⟨_, rfl⟩
  have hl1 : ns.length = r.length + 1 := by rw [← hns]; rfl
  rw [hns] at HC HS HAT hnl hcount' hspl
  obtain ⟨m, hm⟩ : ∃ m, r.length = m := ⟨_, rfl⟩
  rw [hm] at hl1 hspl hnl
  clear hm hns hnl
  have HL := Lib.hid hl1
  have hm6 : m + 1 ≤ 1000000 := by omega
  clear hcount' hl1
  cases hn : numB c with
  | true =>
    obtain ⟨n, hdn⟩ : ∃ n, decV c = n := ⟨_, rfl⟩
    have HN := Lib.hid hn
    rw [hn, hdn] at HC
    have HD := Lib.hid hdn; clear hdn hn
    by_cases h0 : n = m + 1
    · subst h0
      by_cases h3 : m + 1 ≤ 3
      · have h3' : (m : Int) + 1 ≤ 3 := by omega
        go_enter Tryz.func79, Tryz.ntmps79
        go_wp2_with (first | ((with_reducible show wpList _ _ _ _ _ (World.alloc _ (Obj.cells _ _))); apply wpList_named hM; clear hM; intro _ hM) | ((with_reducible show wpList _ _ _ (⟨_, .load _ _, _, _, _, _⟩ :: _) _ _); apply wpList_load1 hM; rfl; rfl; rfl; (focus (repeat (first | exact List.Mem.head _ | refine List.Mem.tail _ ?_))); (decide +kernel); (first | (focus fail) | rfl)) | ((with_reducible show wpList _ _ _ (⟨_, .load _ _, _, _, _, _⟩ :: _) _ _); apply wpList_loadA hM; rfl; rfl; rfl; (focus (repeat (first | exact List.Mem.head _ | refine List.Mem.tail _ ?_))); (decide +kernel); (first | (focus fail) | kernel_rfl)) | ((with_reducible show wpList _ _ _ (⟨_, .store _ _ _, _, _, _, _⟩ :: _) _ _); apply wpList_store1 hM; rfl; rfl; rfl; (conv => lhs; whnf); (focus (repeat (first | exact Hole.head | apply Hole.tail))); (first | (focus fail) | exact Nat.le_of_ble_eq_true rfl | (simp; done)); (decide +kernel); (first | rfl | assumption | (apply Mem.rowOne hM; (focus (repeat (first | exact List.Mem.head _ | refine List.Mem.tail _ ?_))))); clear hM; intro _ hM; (try dsimp only at hM); (try simp only [List.setIfInBounds_toArray, List.set_cons_zero, List.set_cons_succ, List.nil_append, List.cons_append, List.length_map] at hM)) | ((with_reducible show wpList _ _ _ (⟨_, .store _ _ _, _, _, _, _⟩ :: _) _ _); apply wpList_storeA hM; rfl; rfl; rfl; (first | rfl | (conv => lhs; whnf)); (focus (repeat (first | exact Hole.head | apply Hole.tail))); (first | (focus fail) | rfl); (first | (focus fail) | kernel_rfl); (first | (focus fail) | exact all_mk rfl); clear hM; intro _ hM; (try dsimp only at hM)) | ((with_reducible show Calls _ 58 _ _ _); refine (hspl _ HV.out).mono ?_; rintro e w1 ⟨rfl, rfl⟩) | ((with_reducible show Calls _ 69 _ _ _); refine (hnum _ (hM.vars HV.out)).mono ?_; rintro e w2 ⟨n', rfl, hn', hx2⟩; replace hM := hM.ext hx2; clear hx2; obtain rfl : n' = (m : Int) + 1 := (by rw [hn' HN.out, HD.out]; rfl); clear hn'; rw [HN.out]))
        clear hnum hspl
        go_loopw [34] (fun i wr => CtR w c ns i wr) (fun i _ => m + 1 - (intOf i).toNat)
        case atStart => exact ⟨0, Nat.zero_le _, rfl, by simp, hM⟩
        case round =>
          obtain ⟨k, hk, rfl, hgn, hM⟩ := hrel
          have hbk := hM.blk (List.Mem.head _)
          have hkm : k ≤ m + 1 := by rw [← HL.out]; exact hk
          by_cases hlt : k < m + 1
          · have hltL : k < ns.length := by rw [HL.out]; exact hlt
            have hlt' : (k : Int) < (m : Int) + 1 := by omega
            obtain ⟨x, hx⟩ : ∃ x, ns[k] = x := ⟨_, rfl⟩
            have hd : ns.drop k = x :: ns.drop (k + 1) := by rw [List.drop_eq_getElem_cons hltL, hx]
            have ht : ns.take (k + 1) = ns.take k ++ [x] := by rw [List.take_succ_eq_append_getElem hltL, hx]
            have hcx : (strV c :: ns.map strV).toArray[1 + k]? = some (strV x) := by rw [HAT.out k hltL, hx]
            have hxl : x.length ≤ 1000000 := HS.out x (by rw [← hx]; exact List.getElem_mem _)
            rw [hd] at hgn
            have HCX := Lib.hid hcx; clear hcx
            clear hd hx hbk
            cases hnm : nameB x with
            | false =>
              rw [gnGo_name hnm] at hgn
              have HG := Lib.hid hgn; clear hgn ht
              have HNM := Lib.hid hnm; clear hnm
              go_wp2_with (first
                | ((with_reducible show wpList _ _ _ _ _ (World.alloc _ (Obj.cells _ _))); apply wpList_named hM; clear hM; intro _ hM) | ((with_reducible show wpList _ _ _ (⟨_, .load _ _, _, _, _, _⟩ :: _) _ _); apply wpList_load1 hM; rfl; rfl; rfl; (focus (repeat (first | exact List.Mem.head _ | refine List.Mem.tail _ ?_))); (decide +kernel); (first | (focus exact HCX.out) | rfl)) | ((with_reducible show wpList _ _ _ (⟨_, .load _ _, _, _, _, _⟩ :: _) _ _); apply wpList_loadA hM; rfl; rfl; rfl; (focus (repeat (first | exact List.Mem.head _ | refine List.Mem.tail _ ?_))); (decide +kernel); (first | (focus fail) | kernel_rfl)) | ((with_reducible show wpList _ _ _ (⟨_, .store _ _ _, _, _, _, _⟩ :: _) _ _); apply wpList_store1 hM; rfl; rfl; rfl; (conv => lhs; whnf); (focus (repeat (first | exact Hole.head | apply Hole.tail))); (first | (focus fail) | exact Nat.le_of_ble_eq_true rfl | (simp; done)); (decide +kernel); (first | rfl | assumption | (apply Mem.rowOne hM; (focus (repeat (first | exact List.Mem.head _ | refine List.Mem.tail _ ?_))))); clear hM; intro _ hM; (try dsimp only at hM); (try simp only [List.setIfInBounds_toArray, List.set_cons_zero, List.set_cons_succ, List.nil_append, List.cons_append, List.length_map] at hM)) | ((with_reducible show wpList _ _ _ (⟨_, .store _ _ _, _, _, _, _⟩ :: _) _ _); apply wpList_storeA hM; rfl; rfl; rfl; (first | rfl | (conv => lhs; whnf)); (focus (repeat (first | exact Hole.head | apply Hole.tail))); (first | (focus fail) | rfl); (first | (focus fail) | kernel_rfl); (first | (focus fail) | exact all_mk rfl); clear hM; intro _ hM; (try dsimp only at hM))
                | ((with_reducible show Calls _ 64 _ _ _); refine (name_list _ (by omega) _).mono ?_; rintro e w3 ⟨rfl, hx3⟩; replace hM := hM.ext hx3; clear hx3; rw [HNM.out]))
              go_ret2
              exact CtP.no rfl (by rw [HC.out, HG.out]; simp) hM.ext0
            | true =>
              have HNM := Lib.hid hnm
              by_cases hmem : x ∈ ns.take k
              · rw [gnGo_twice hmem] at hgn
                have HG := Lib.hid hgn; clear hgn ht
                have HNM := Lib.hid hnm; clear hnm
                have hdec : decide (x ∈ ns.take k) = true := by simpa using hmem
                have HDEC := Lib.hid hdec; clear hdec hmem
                go_wp2_with (first
                  | ((with_reducible show wpList _ _ _ _ _ (World.alloc _ (Obj.cells _ _))); apply wpList_named hM; clear hM; intro _ hM) | ((with_reducible show wpList _ _ _ (⟨_, .load _ _, _, _, _, _⟩ :: _) _ _); apply wpList_load1 hM; rfl; rfl; rfl; (focus (repeat (first | exact List.Mem.head _ | refine List.Mem.tail _ ?_))); (decide +kernel); (first | (focus exact HCX.out) | rfl)) | ((with_reducible show wpList _ _ _ (⟨_, .load _ _, _, _, _, _⟩ :: _) _ _); apply wpList_loadA hM; rfl; rfl; rfl; (focus (repeat (first | exact List.Mem.head _ | refine List.Mem.tail _ ?_))); (decide +kernel); (first | (focus fail) | kernel_rfl)) | ((with_reducible show wpList _ _ _ (⟨_, .store _ _ _, _, _, _, _⟩ :: _) _ _); apply wpList_store1 hM; rfl; rfl; rfl; (conv => lhs; whnf); (focus (repeat (first | exact Hole.head | apply Hole.tail))); (first | (focus fail) | exact Nat.le_of_ble_eq_true rfl | (simp; done)); (decide +kernel); (first | rfl | assumption | (apply Mem.rowOne hM; (focus (repeat (first | exact List.Mem.head _ | refine List.Mem.tail _ ?_))))); clear hM; intro _ hM; (try dsimp only at hM); (try simp only [List.setIfInBounds_toArray, List.set_cons_zero, List.set_cons_succ, List.nil_append, List.cons_append, List.length_map] at hM)) | ((with_reducible show wpList _ _ _ (⟨_, .store _ _ _, _, _, _, _⟩ :: _) _ _); apply wpList_storeA hM; rfl; rfl; rfl; (first | rfl | (conv => lhs; whnf)); (focus (repeat (first | exact Hole.head | apply Hole.tail))); (first | (focus fail) | rfl); (first | (focus fail) | kernel_rfl); (first | (focus fail) | exact all_mk rfl); clear hM; intro _ hM; (try dsimp only at hM))
                  | ((with_reducible show Calls _ 64 _ _ _); refine (name_list _ (by omega) _).mono ?_; rintro e w3 ⟨rfl, hx3⟩; replace hM := hM.ext hx3; clear hx3; rw [HNM.out])
                  | ((with_reducible show Calls _ 93 _ _ _); refine (contains_any w.heap.size 1 _ ns _ x k hk (by have := HL.out; omega) _ (hM.blk (List.Mem.head _)) HAT.out).mono ?_; rintro e w4 ⟨rfl, rfl⟩; rw [HDEC.out]))
                go_ret2
                exact CtP.no rfl (by rw [HC.out, HG.out]; simp) hM.ext0
              · rw [gnGo_on hnm hmem, ← ht] at hgn
                have HG := Lib.hid hgn; clear hgn ht
                have HNM := Lib.hid hnm; clear hnm
                have hdec : decide (x ∈ ns.take k) = false := by simpa using hmem
                have HDEC := Lib.hid hdec; clear hdec hmem
                go_wp2_with (first
                  | ((with_reducible show wpList _ _ _ _ _ (World.alloc _ (Obj.cells _ _))); apply wpList_named hM; clear hM; intro _ hM) | ((with_reducible show wpList _ _ _ (⟨_, .load _ _, _, _, _, _⟩ :: _) _ _); apply wpList_load1 hM; rfl; rfl; rfl; (focus (repeat (first | exact List.Mem.head _ | refine List.Mem.tail _ ?_))); (decide +kernel); (first | (focus exact HCX.out) | rfl)) | ((with_reducible show wpList _ _ _ (⟨_, .load _ _, _, _, _, _⟩ :: _) _ _); apply wpList_loadA hM; rfl; rfl; rfl; (focus (repeat (first | exact List.Mem.head _ | refine List.Mem.tail _ ?_))); (decide +kernel); (first | (focus fail) | kernel_rfl)) | ((with_reducible show wpList _ _ _ (⟨_, .store _ _ _, _, _, _, _⟩ :: _) _ _); apply wpList_store1 hM; rfl; rfl; rfl; (conv => lhs; whnf); (focus (repeat (first | exact Hole.head | apply Hole.tail))); (first | (focus fail) | exact Nat.le_of_ble_eq_true rfl | (simp; done)); (decide +kernel); (first | rfl | assumption | (apply Mem.rowOne hM; (focus (repeat (first | exact List.Mem.head _ | refine List.Mem.tail _ ?_))))); clear hM; intro _ hM; (try dsimp only at hM); (try simp only [List.setIfInBounds_toArray, List.set_cons_zero, List.set_cons_succ, List.nil_append, List.cons_append, List.length_map] at hM)) | ((with_reducible show wpList _ _ _ (⟨_, .store _ _ _, _, _, _, _⟩ :: _) _ _); apply wpList_storeA hM; rfl; rfl; rfl; (first | rfl | (conv => lhs; whnf)); (focus (repeat (first | exact Hole.head | apply Hole.tail))); (first | (focus fail) | rfl); (first | (focus fail) | kernel_rfl); (first | (focus fail) | exact all_mk rfl); clear hM; intro _ hM; (try dsimp only at hM))
                  | ((with_reducible show Calls _ 64 _ _ _); refine (name_list _ (by omega) _).mono ?_; rintro e w3 ⟨rfl, hx3⟩; replace hM := hM.ext hx3; clear hx3; rw [HNM.out])
                  | ((with_reducible show Calls _ 93 _ _ _); refine (contains_any w.heap.size 1 _ ns _ x k hk (by have := HL.out; omega) _ (hM.blk (List.Mem.head _)) HAT.out).mono ?_; rintro e w4 ⟨rfl, rfl⟩; rw [HDEC.out]))
                go_roundw
                case rel => exact ⟨k + 1, by have := HL.out; omega, by go_num, HG.out, hM⟩
                case measure => simp [intOf]; omega
          · obtain rfl : k = m + 1 := by omega
            rw [List.drop_of_length_le (by have := HL.out; omega)] at hgn
            have HG := Lib.hid hgn; clear hgn
            have hfin : contactsS (bl s) = some ns := by
              rw [HC.out, if_pos]
              exact ⟨trivial, HL.out.symm, by have := HL.out; omega, by rw [HG.out]; rfl⟩
            have HF := Lib.hid hfin; clear hfin hbk
            go_wp2
            go_ret2
            refine ⟨_, by rw [HF.out]; rfl, rfl, fun l hl => ?_, hM.ext0⟩
            rw [HF.out] at hl
            injection hl with hl
            subst hl
            exact .inr ⟨w.heap.size, 1, m + 1, _, 9, by rw [List.length_map, HL.out]; rfl, Nat.le_refl _, hM.blk (List.Mem.head _), fun j hj => by rw [List.length_map] at hj; rw [HAT.out j hj, List.getElem?_map, List.getElem?_eq_getElem hj]; rfl⟩
      · have HC' := HC.out
        rw [if_neg (fun h => h3 (by have := h.2.2.1; have := HL.out; omega))] at HC'
        have H2 := Lib.hid HC'; clear HC'
        have h3' : (3 : Int) < (m : Int) + 1 := by omega
        go_enter Tryz.func79, Tryz.ntmps79
        go_wp2_with (first | ((with_reducible show wpList _ _ _ _ _ (World.alloc _ (Obj.cells _ _))); apply wpList_named hM; clear hM; intro _ hM) | ((with_reducible show wpList _ _ _ (⟨_, .load _ _, _, _, _, _⟩ :: _) _ _); apply wpList_load1 hM; rfl; rfl; rfl; (focus (repeat (first | exact List.Mem.head _ | refine List.Mem.tail _ ?_))); (decide +kernel); (first | (focus exact HCX.out) | rfl)) | ((with_reducible show wpList _ _ _ (⟨_, .load _ _, _, _, _, _⟩ :: _) _ _); apply wpList_loadA hM; rfl; rfl; rfl; (focus (repeat (first | exact List.Mem.head _ | refine List.Mem.tail _ ?_))); (decide +kernel); (first | (focus fail) | kernel_rfl)) | ((with_reducible show wpList _ _ _ (⟨_, .store _ _ _, _, _, _, _⟩ :: _) _ _); apply wpList_store1 hM; rfl; rfl; rfl; (conv => lhs; whnf); (focus (repeat (first | exact Hole.head | apply Hole.tail))); (first | (focus fail) | exact Nat.le_of_ble_eq_true rfl | (simp; done)); (decide +kernel); (first | rfl | assumption | (apply Mem.rowOne hM; (focus (repeat (first | exact List.Mem.head _ | refine List.Mem.tail _ ?_))))); clear hM; intro _ hM; (try dsimp only at hM); (try simp only [List.setIfInBounds_toArray, List.set_cons_zero, List.set_cons_succ, List.nil_append, List.cons_append, List.length_map] at hM)) | ((with_reducible show wpList _ _ _ (⟨_, .store _ _ _, _, _, _, _⟩ :: _) _ _); apply wpList_storeA hM; rfl; rfl; rfl; (first | rfl | (conv => lhs; whnf)); (focus (repeat (first | exact Hole.head | apply Hole.tail))); (first | (focus fail) | rfl); (first | (focus fail) | kernel_rfl); (first | (focus fail) | exact all_mk rfl); clear hM; intro _ hM; (try dsimp only at hM)) | ((with_reducible show Calls _ 58 _ _ _); refine (hspl _ HV.out).mono ?_; rintro e w1 ⟨rfl, rfl⟩) | ((with_reducible show Calls _ 69 _ _ _); refine (hnum _ (hM.vars HV.out)).mono ?_; rintro e w2 ⟨n', rfl, hn', hx2⟩; replace hM := hM.ext hx2; clear hx2; obtain rfl : n' = (m : Int) + 1 := (by rw [hn' HN.out, HD.out]; rfl); clear hn'; rw [HN.out]))
        go_ret2
        exact CtP.no rfl H2.out hM.ext0
    · have HC' := HC.out
      rw [if_neg (fun h => h0 (by have := HL.out; omega))] at HC'
      have H2 := Lib.hid HC'; clear HC'
      have h0' : ((n : Int) != (m : Int) + 1) = true := by simp; omega
      go_enter Tryz.func79, Tryz.ntmps79
      go_wp2_with (first | ((with_reducible show wpList _ _ _ _ _ (World.alloc _ (Obj.cells _ _))); apply wpList_named hM; clear hM; intro _ hM) | ((with_reducible show wpList _ _ _ (⟨_, .load _ _, _, _, _, _⟩ :: _) _ _); apply wpList_load1 hM; rfl; rfl; rfl; (focus (repeat (first | exact List.Mem.head _ | refine List.Mem.tail _ ?_))); (decide +kernel); (first | (focus exact HCX.out) | rfl)) | ((with_reducible show wpList _ _ _ (⟨_, .load _ _, _, _, _, _⟩ :: _) _ _); apply wpList_loadA hM; rfl; rfl; rfl; (focus (repeat (first | exact List.Mem.head _ | refine List.Mem.tail _ ?_))); (decide +kernel); (first | (focus fail) | kernel_rfl)) | ((with_reducible show wpList _ _ _ (⟨_, .store _ _ _, _, _, _, _⟩ :: _) _ _); apply wpList_store1 hM; rfl; rfl; rfl; (conv => lhs; whnf); (focus (repeat (first | exact Hole.head | apply Hole.tail))); (first | (focus fail) | exact Nat.le_of_ble_eq_true rfl | (simp; done)); (decide +kernel); (first | rfl | assumption | (apply Mem.rowOne hM; (focus (repeat (first | exact List.Mem.head _ | refine List.Mem.tail _ ?_))))); clear hM; intro _ hM; (try dsimp only at hM); (try simp only [List.setIfInBounds_toArray, List.set_cons_zero, List.set_cons_succ, List.nil_append, List.cons_append, List.length_map] at hM)) | ((with_reducible show wpList _ _ _ (⟨_, .store _ _ _, _, _, _, _⟩ :: _) _ _); apply wpList_storeA hM; rfl; rfl; rfl; (first | rfl | (conv => lhs; whnf)); (focus (repeat (first | exact Hole.head | apply Hole.tail))); (first | (focus fail) | rfl); (first | (focus fail) | kernel_rfl); (first | (focus fail) | exact all_mk rfl); clear hM; intro _ hM; (try dsimp only at hM)) | ((with_reducible show Calls _ 58 _ _ _); refine (hspl _ HV.out).mono ?_; rintro e w1 ⟨rfl, rfl⟩) | ((with_reducible show Calls _ 69 _ _ _); refine (hnum _ (hM.vars HV.out)).mono ?_; rintro e w2 ⟨n', rfl, hn', hx2⟩; replace hM := hM.ext hx2; clear hx2; obtain rfl : n' = (n : Int) := (by rw [hn' HN.out, HD.out]); clear hn'; rw [HN.out]))
      go_ret2
      exact CtP.no rfl H2.out hM.ext0
  | false =>
    have HN := Lib.hid hn; clear hn
    have HC' := HC.out
    rw [HN.out, if_neg (by simp)] at HC'
    have H2 := Lib.hid HC'; clear HC'
    go_enter Tryz.func79, Tryz.ntmps79
    go_wp2_with (first | ((with_reducible show wpList _ _ _ _ _ (World.alloc _ (Obj.cells _ _))); apply wpList_named hM; clear hM; intro _ hM) | ((with_reducible show wpList _ _ _ (⟨_, .load _ _, _, _, _, _⟩ :: _) _ _); apply wpList_load1 hM; rfl; rfl; rfl; (focus (repeat (first | exact List.Mem.head _ | refine List.Mem.tail _ ?_))); (decide +kernel); (first | (focus exact HCX.out) | rfl)) | ((with_reducible show wpList _ _ _ (⟨_, .load _ _, _, _, _, _⟩ :: _) _ _); apply wpList_loadA hM; rfl; rfl; rfl; (focus (repeat (first | exact List.Mem.head _ | refine List.Mem.tail _ ?_))); (decide +kernel); (first | (focus fail) | kernel_rfl)) | ((with_reducible show wpList _ _ _ (⟨_, .store _ _ _, _, _, _, _⟩ :: _) _ _); apply wpList_store1 hM; rfl; rfl; rfl; (conv => lhs; whnf); (focus (repeat (first | exact Hole.head | apply Hole.tail))); (first | (focus fail) | exact Nat.le_of_ble_eq_true rfl | (simp; done)); (decide +kernel); (first | rfl | assumption | (apply Mem.rowOne hM; (focus (repeat (first | exact List.Mem.head _ | refine List.Mem.tail _ ?_))))); clear hM; intro _ hM; (try dsimp only at hM); (try simp only [List.setIfInBounds_toArray, List.set_cons_zero, List.set_cons_succ, List.nil_append, List.cons_append, List.length_map] at hM)) | ((with_reducible show wpList _ _ _ (⟨_, .store _ _ _, _, _, _, _⟩ :: _) _ _); apply wpList_storeA hM; rfl; rfl; rfl; (first | rfl | (conv => lhs; whnf)); (focus (repeat (first | exact Hole.head | apply Hole.tail))); (first | (focus fail) | rfl); (first | (focus fail) | kernel_rfl); (first | (focus fail) | exact all_mk rfl); clear hM; intro _ hM; (try dsimp only at hM)) | ((with_reducible show Calls _ 58 _ _ _); refine (hspl _ HV.out).mono ?_; rintro e w1 ⟨rfl, rfl⟩) | ((with_reducible show Calls _ 69 _ _ _); refine (hnum _ (hM.vars HV.out)).mono ?_; rintro e w2 ⟨n', rfl, hn', hx2⟩; replace hM := hM.ext hx2; clear hx2; clear hn'; rw [HN.out]))
    go_ret2
    exact CtP.no rfl H2.out hM.ext0
theorem contacts_any (s : ByteArray) (hs : s.size ≤ 1000000) (w : World) (hv : Vars w) : Calls Tryz.prog 79 #[.string s] w (CtP s w) := by
  cases h : spl (bl s) with
  | nil => exact absurd h (spl_ne _)
  | cons c ns =>
    cases ns with
    | nil => exact contacts_0 s hs c h w hv
    | cons y r => exact contacts_n s hs c y r h w hv
end Go.Proofs.YtigfkfjlfpndfaaGreatDoor
