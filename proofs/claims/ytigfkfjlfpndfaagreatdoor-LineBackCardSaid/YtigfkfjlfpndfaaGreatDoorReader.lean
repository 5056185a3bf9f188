/-
  line's reader: fail, the closures of rest, next, text, rest.
-/
import Derived.Test.YtigfkfjlfpndfaaGreatDoorCmd
namespace Go.Proofs.YtigfkfjlfpndfaaGreatDoor
open Go.RowKit Sp

def rcell (s : ByteArray) (at_ : Int) (e a : Int) : Array Value := #[.string s, .int .i64 at_, .int .i64 e, .int .i64 a]

set_option maxHeartbeats 1000000 in
set_option maxRecDepth 100000 in
theorem fail_any (rb : Nat) (s : ByteArray) (p : Int) (e0 a0 e a : Int) (w : World) (hb : Blk w rb (rcell s p e0 a0) 65) :
    Calls Tryz.prog 84 #[.pointer (some ⟨rb, 0, none⟩), .int .i64 e, .int .i64 a] w fun en w' => en = .returned (.bool false) ∧ Blk w' rb (rcell s p e a) 65 ∧ Mods w w' (· = rb) := by
  have c2 := hb.cell (i := 2) rfl
  have c3 := hb.cell (i := 3) rfl
  have f2 := hb.free 2
  have f3 := hb.free 3
  go_enter Tryz.func84, Tryz.ntmps84
  go_wp2
  go_ret
  refine ⟨rfl, ?_, ?_⟩
  · exact ((hb.set 2 _).set 3 _).congr rfl
  · exact ((Mods.refl w (· = rb)).set ⟨rb, 2, none⟩ _ (fun _ => rfl)).set ⟨rb, 3, none⟩ _ (fun _ => rfl)

/-- what a closure of rest does: it judges a part and puts it into the command -/
def CloPost (R : ByteArray → Bool) (U : Cmd → ByteArray → Cmd → Prop) (cb : Nat) (c : Cmd) (p : ByteArray) (w : World) (en : Ending) (w' : World) : Prop :=
  ∃ c', en = .returned (.bool (R p)) ∧ U c p c' ∧ Blk w' cb (ccell c') 27 ∧ Mods w w' (· = cb)

set_option maxHeartbeats 1000000 in
set_option maxRecDepth 100000 in
theorem clo1 (p : ByteArray) (hp : p.size ≤ 140737488351232) (kb cb : Nat) (c : Cmd) (w : World) (hk : Blk w kb #[.pointer (some ⟨cb, 0, none⟩)] 67) (hc : Blk w cb (ccell c) 27) :
    Calls Tryz.prog 63 #[.string p, .pointer (some ⟨kb, 0, none⟩)] w (CloPost isName (fun c p c' => c' = { c with name := p }) cb c p w) := by
  have k0 := hk.cell (i := 0) rfl
  have c1 := hc.cell (ccell_1 c)
  have f1 := hc.free 1
  have hcall := fun w' => lName_any p w' hp
  go_enter Tryz.func63, Tryz.ntmps63
  go_wp2_with (go_at_call 64; refine (hcall _).mono ?_; rintro e w1 ⟨rfl, hx1⟩)
  go_ret
  have m1 : Mods w (w.setCell ⟨cb, 1, none⟩ (.string p)) (· = cb) := (Mods.refl w (· = cb)).set ⟨cb, 1, none⟩ _ (fun _ => rfl)
  refine ⟨_, rfl, rfl, ?_, ?_⟩
  · exact ((hc.set 1 (.string p)).below hx1 (hc.set 1 (.string p)).lt).congr (ccell_set1 c p)
  · exact m1.andThen (Mods.of_below hx1 (fun _ => False)) (fun _ _ h => h.elim)

set_option maxHeartbeats 2000000 in
set_option maxRecDepth 100000 in
theorem clo3 (p : ByteArray) (hp : p.size ≤ 140737488351232) (kb cb : Nat) (c : Cmd) (w : World) (hv : Vars w) (hk : Blk w kb #[.pointer (some ⟨cb, 0, none⟩)] 67) (hc : Blk w cb (ccell c) 27) :
    Calls Tryz.prog 68 #[.string p, .pointer (some ⟨kb, 0, none⟩)] w (CloPost isNum (fun c p c' => ∃ n, c' = { c with count := n } ∧ (isNum p = true → n = numV p)) cb c p w) := by
  have hcall := fun w' h' => number_any p w' hp h'
  have HV := Lib.hid hv; clear hv
  go_enter Tryz.func68, Tryz.ntmps68
  go_wp2_with (go_at_call 69; refine (hcall _ HV.out).mono ?_; rintro e w1 ⟨n, rfl, hn, hx1⟩; have HN := Lib.hid hn; clear hn; have hk' := hk.below hx1 hk.lt; have hc' := hc.below hx1 hc.lt; have k0 := hk'.cell (i := 0) rfl; have c1 := hc'.cell (ccell_35 c); have f1 := hc'.free 35)
  go_ret
  refine ⟨{ c with count := n }, rfl, ⟨n, rfl, fun h => ?_⟩, ?_, ?_⟩
  · have := HN.out h
    unfold numV; rw [this]
  · exact (hc'.set 35 (.int .i64 n)).congr (ccell_set35 c n)
  · exact ((Mods.of_below hx1 (· = cb)).set ⟨cb, 35, none⟩ _ (fun _ => rfl))

set_option maxHeartbeats 2000000 in
set_option maxRecDepth 100000 in
theorem clo2 (p : ByteArray) (hp : p.size ≤ 140737488351232) (kb cb : Nat) (c : Cmd) (w : World) (hk : Blk w kb #[.pointer (some ⟨cb, 0, none⟩)] 67) (hc : Blk w cb (ccell c) 27) :
    Calls Tryz.prog 66 #[.string p, .pointer (some ⟨kb, 0, none⟩)] w (CloPost keyB (fun c p c' => c' = { c with key := keyF p }) cb c p w) := by
  have hcall := fun w' => lKey_any p w' hp
  have hkl := hk.lt
  have hcl := hc.lt
  have fin : ∀ (w1 w2 w3 w4 : World), Ext w w1 → (∀ k D u, k ≠ w1.heap.size → Blk ((w1.alloc (.cells (kcell fun _ => 0) 25)).alloc (.cells #[.int .i64 0, .int .i64 0] 30)) k D u → Blk w2 k D u) → Mods ((w1.alloc (.cells (kcell fun _ => 0) 25)).alloc (.cells #[.int .i64 0, .int .i64 0] 30)) w2 (· = w1.heap.size) → Mods w2 w3 (· = w1.heap.size + 1) → Mods w3 w4 (· = cb) → Mods w w4 (· = cb) := by
    intro w1 w2 w3 w4 hx1 _ m2 m3 m4
    have h1 := hx1.size
    have e2 : Ext w w2 := ((hx1.alloc _).alloc _).mods m2 (fun i hi e => by omega)
    have e3 : Ext w w3 := e2.mods m3 (fun i hi e => by omega)
    exact (Mods.of_below e3 (· = cb)).andThen m4 (fun _ _ h => h)
  cases hkey : keyB p with
  | false =>
    have HB := Lib.hid hkey; clear hkey
    go_enter Tryz.func66, Tryz.ntmps66
    go_wp2_with (first
      | (go_at_call 67; refine (hcall _).mono ?_; rintro e w1 ⟨at_, rfl, hx1⟩; have h1 := hx1.size; replace hk := hk.below hx1 hkl; replace hc := hc.below hx1 hcl; rw [HB.out]; simp only [if_true, if_false, Bool.false_eq_true])
      | ((with_reducible show wpList _ _ _ (⟨none, .store 25 (.tmp 4) (.tmp 9), _, _, _, _⟩ :: _) _ _); refine wpList_store_new rfl 25 _ _ rfl w1.heap.size 0 (kcell (keyF p)) rfl rfl (((Blk.new w1 (kcell fun _ => 0) 25).alloc _).congr rfl) (by rw [kcell_size, kcell_size]; exact Nat.le_refl _) (i25k _) (kcell_one _) ?_; intro w2 hb4 hk2 hm2; rw [put_whole] at hb4; have hb5 := hk2 _ _ _ (by omega) (Blk.new' (w1.alloc _) #[.int .i64 0, .int .i64 0] 30 (w1.heap.size + 1) (by rw [sz_alloc])); replace hk := hk2 _ _ _ (by omega) ((hk.alloc _).alloc _); replace hc := hk2 _ _ _ (by omega) ((hc.alloc _).alloc _); have c0 := hb5.cell (i := 0) rfl; have c1 := hb5.cell (i := 1) rfl; have f0 := hb5.free 0; have f1 := hb5.free 1; have n1 : kb ≠ w1.heap.size + 1 := (by omega); replace hk := (hk.setOther ⟨w1.heap.size + 1, 0, none⟩ (.int .i64 (261)) n1).setOther ⟨w1.heap.size + 1, 1, none⟩ (.int .i64 at_) n1; have k0 := hk.cell (i := 0) rfl; replace hc := (hc.setOther ⟨w1.heap.size + 1, 0, none⟩ (.int .i64 (261)) (show cb ≠ w1.heap.size + 1 by omega)).setOther ⟨w1.heap.size + 1, 1, none⟩ (.int .i64 at_) (show cb ≠ w1.heap.size + 1 by omega); replace hb4 := (hb4.setOther ⟨w1.heap.size + 1, 0, none⟩ (.int .i64 (261)) (show w1.heap.size ≠ w1.heap.size + 1 by omega)).setOther ⟨w1.heap.size + 1, 1, none⟩ (.int .i64 at_) (show w1.heap.size ≠ w1.heap.size + 1 by omega); replace hb5 := (hb5.set 0 (.int .i64 (261))).set 1 (.int .i64 at_))
      | ((with_reducible show wpList _ _ _ (⟨some 12, .load 25 (.tmp 4), _, _, _, _⟩ :: _) _ _); refine wpList_load_blk rfl 25 _ rfl w1.heap.size 0 rfl (kcell (keyF p)).toList _ hb4 (fun j hj => by simp) Tryz.underlying25 rfl (by rw [Array.length_toList]; exact i25k _) ?_; simp only [Array.toArray_toList])
      | ((with_reducible show wpList _ _ _ (⟨none, .store 25 (.tmp 14) (.tmp 12), _, _, _, _⟩ :: _) _ _); refine wpList_store_new rfl 25 _ _ rfl cb 2 (kcell (keyF p)) rfl rfl hc (by rw [kcell_size, ccell_size]; omega) (i25k _) (kcell_one _) ?_; intro w4 hc' hk4 hm4; replace hb5 := hk4 _ _ _ (by omega) hb5; have c0 := hb5.cell (i := 0) rfl))
    go_ret
    refine ⟨_, by rw [HB.out]; rfl, rfl, hc'.congr (ccell_putKey c _), fin w1 w2 _ w4 hx1 hk2 hm2 ?_ hm4⟩
    exact ((Mods.refl w2 (· = w1.heap.size + 1)).set ⟨w1.heap.size + 1, 0, none⟩ _ (fun _ => rfl)).set ⟨w1.heap.size + 1, 1, none⟩ _ (fun _ => rfl)
  | true =>
    have HB := Lib.hid hkey; clear hkey
    go_enter Tryz.func66, Tryz.ntmps66
    go_wp2_with (first
      | (go_at_call 67; refine (hcall _).mono ?_; rintro e w1 ⟨at_, rfl, hx1⟩; have h1 := hx1.size; replace hk := hk.below hx1 hkl; replace hc := hc.below hx1 hcl; rw [HB.out]; simp only [if_true, if_false, Bool.false_eq_true])
      | ((with_reducible show wpList _ _ _ (⟨none, .store 25 (.tmp 4) (.tmp 9), _, _, _, _⟩ :: _) _ _); refine wpList_store_new rfl 25 _ _ rfl w1.heap.size 0 (kcell (keyF p)) rfl rfl (((Blk.new w1 (kcell fun _ => 0) 25).alloc _).congr rfl) (by rw [kcell_size, kcell_size]; exact Nat.le_refl _) (i25k _) (kcell_one _) ?_; intro w2 hb4 hk2 hm2; rw [put_whole] at hb4; have hb5 := hk2 _ _ _ (by omega) (Blk.new' (w1.alloc _) #[.int .i64 0, .int .i64 0] 30 (w1.heap.size + 1) (by rw [sz_alloc])); replace hk := hk2 _ _ _ (by omega) ((hk.alloc _).alloc _); replace hc := hk2 _ _ _ (by omega) ((hc.alloc _).alloc _); have c0 := hb5.cell (i := 0) rfl; have c1 := hb5.cell (i := 1) rfl; have f0 := hb5.free 0; have f1 := hb5.free 1; have n1 : kb ≠ w1.heap.size + 1 := (by omega); replace hk := (hk.setOther ⟨w1.heap.size + 1, 0, none⟩ (.int .i64 (0)) n1).setOther ⟨w1.heap.size + 1, 1, none⟩ (.int .i64 at_) n1; have k0 := hk.cell (i := 0) rfl; replace hc := (hc.setOther ⟨w1.heap.size + 1, 0, none⟩ (.int .i64 (0)) (show cb ≠ w1.heap.size + 1 by omega)).setOther ⟨w1.heap.size + 1, 1, none⟩ (.int .i64 at_) (show cb ≠ w1.heap.size + 1 by omega); replace hb4 := (hb4.setOther ⟨w1.heap.size + 1, 0, none⟩ (.int .i64 (0)) (show w1.heap.size ≠ w1.heap.size + 1 by omega)).setOther ⟨w1.heap.size + 1, 1, none⟩ (.int .i64 at_) (show w1.heap.size ≠ w1.heap.size + 1 by omega); replace hb5 := (hb5.set 0 (.int .i64 (0))).set 1 (.int .i64 at_))
      | ((with_reducible show wpList _ _ _ (⟨some 12, .load 25 (.tmp 4), _, _, _, _⟩ :: _) _ _); refine wpList_load_blk rfl 25 _ rfl w1.heap.size 0 rfl (kcell (keyF p)).toList _ hb4 (fun j hj => by simp) Tryz.underlying25 rfl (by rw [Array.length_toList]; exact i25k _) ?_; simp only [Array.toArray_toList])
      | ((with_reducible show wpList _ _ _ (⟨none, .store 25 (.tmp 14) (.tmp 12), _, _, _, _⟩ :: _) _ _); refine wpList_store_new rfl 25 _ _ rfl cb 2 (kcell (keyF p)) rfl rfl hc (by rw [kcell_size, ccell_size]; omega) (i25k _) (kcell_one _) ?_; intro w4 hc' hk4 hm4; replace hb5 := hk4 _ _ _ (by omega) hb5; have c0 := hb5.cell (i := 0) rfl))
    go_ret
    refine ⟨_, by rw [HB.out]; rfl, rfl, hc'.congr (ccell_putKey c _), fin w1 w2 _ w4 hx1 hk2 hm2 ?_ hm4⟩
    exact ((Mods.refl w2 (· = w1.heap.size + 1)).set ⟨w1.heap.size + 1, 0, none⟩ _ (fun _ => rfl)).set ⟨w1.heap.size + 1, 1, none⟩ _ (fun _ => rfl)

end Go.Proofs.YtigfkfjlfpndfaaGreatDoor
