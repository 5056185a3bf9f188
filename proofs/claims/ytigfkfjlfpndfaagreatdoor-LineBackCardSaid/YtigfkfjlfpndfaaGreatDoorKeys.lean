/-
  Keys' texts: which are, and of which key.
-/
import Derived.Test.YtigfkfjlfpndfaaGreatDoorVars
import Derived.StillTailTactics
namespace Go.Proofs.YtigfkfjlfpndfaaGreatDoor
open Go.RowKit Sp

/-- a key's cells -/
def kcell (f : Nat → Int) : Array Value := ((List.range 32).map fun j => Value.int .u8 (f j)).toArray
theorem kcell_size (f : Nat → Int) : (kcell f).size = 32 := by simp [kcell]
theorem kcell_at (f : Nat → Int) (j : Nat) (h : j < 32) : (kcell f)[j]? = some (.int .u8 (f j)) := by simp [kcell, h]
theorem kcell_set (f : Nat → Int) (i : Nat) (v : Int) : (kcell f).setIfInBounds i (.int .u8 v) = kcell (fun j => if j = i then v else f j) := by
  apply Array.ext_getElem?
  intro j
  rw [Array.getElem?_setIfInBounds]
  by_cases hj : j < 32
  · rw [kcell_at _ j hj, kcell_at _ j hj, kcell_size]
    by_cases e : i = j
    · subst e; simp [hj]
    · simp [e, Ne.symm e, show ¬ j = i from fun h => e h.symm]
  · have h1 : (kcell f)[j]? = none := Array.getElem?_eq_none (by rw [kcell_size]; omega)
    have h2 : (kcell (fun j => if j = i then v else f j))[j]? = none := Array.getElem?_eq_none (by rw [kcell_size]; omega)
    rw [h1, h2, kcell_size]
    split
    · rename_i e; subst e; simp; omega
    · rfl
theorem kcell_congr {f g : Nat → Int} (h : ∀ j, j < 32 → f j = g j) : kcell f = kcell g := by
  unfold kcell
  rw [List.map_congr_left (fun j hj => by rw [h j (List.mem_range.1 hj)])]
theorem kcell_one (f : Nat → Int) : (kcell f).all (·.oneCell') = true := by
  rw [Array.all_eq_true_iff_forall_mem]
  intro v hv
  simp only [kcell, List.mem_toArray, List.mem_map] at hv
  obtain ⟨j, _, rfl⟩ := hv
  rfl

/-- digit number x of a text -/
def hx (s : ByteArray) (x : Nat) : Int := if h : x < s.size then hexD s[x] else 0
/-- what stands in a key behind i digits (the reference's) -/
def rk (s : ByteArray) (i j : Nat) : Int := if 2 * j + 1 < i then hx s (2 * j) * 16 + hx s (2 * j + 1) else if 2 * j < i then hx s (2 * j) else 0
/-- all bytes ahead of place k are digits -/
def HexTo (s : ByteArray) (k : Nat) : Prop := ∀ j (_ : j < k) (h : j < s.size), 0 ≤ hexD s[j]

theorem i25 : (Tryz.prog.info? 25).map (·.size) = some 32 := by kernel_rfl
theorem i30 : (Tryz.prog.info? 30).map (·.size) = some 2 := by kernel_rfl

theorem or_nib (q d : Int) (hq : 0 ≤ q ∧ q ≤ 15) (hd : 0 ≤ d ∧ d ≤ 15) : bits BinOp.or IntKind.u8 (IntKind.u8.wrap (q * 16)) (IntKind.u8.wrap d) = q * 16 + d := by
  have h : ∀ q d : Fin 16, bits BinOp.or IntKind.u8 (IntKind.u8.wrap ((q.val : Int) * 16)) (IntKind.u8.wrap (d.val : Int)) = (q.val : Int) * 16 + d.val := by decide +kernel
  have := h ⟨q.toNat, by omega⟩ ⟨d.toNat, by omega⟩
  simp only [Int.toNat_of_nonneg hq.1, Int.toNat_of_nonneg hd.1] at this
  exact this
theorem hx_in {s : ByteArray} {x : Nat} (h : x < s.size) : hx s x = hexD s[x] := by unfold hx; rw [dif_pos h]
theorem rk_in {s : ByteArray} {k : Nat} (hk : k ≤ s.size) (h : HexTo s k) (j : Nat) : 0 ≤ rk s k (k / 2) ∧ rk s k (k / 2) ≤ 15 := by
  unfold rk
  rw [if_neg (by omega)]
  split
  · rename_i h2
    have h3 : 2 * (k / 2) < s.size := by omega
    rw [hx_in h3]
    exact ⟨h _ h2 h3, (hexD_range _).2⟩
  · exact ⟨Int.le_refl _, by decide⟩
theorem rk_step {s : ByteArray} {k : Nat} (hlt : k < s.size) (j : Nat) : (if j = k / 2 then rk s k (k / 2) * 16 + hexD s[k] else rk s k j) = rk s (k + 1) j := by
  by_cases e : j = k / 2
  · rw [if_pos e]; subst e
    unfold rk
    by_cases ho : 2 * (k / 2) < k
    · rw [if_neg (by omega), if_pos ho, if_pos (by omega), show 2 * (k / 2) + 1 = k from by omega, hx_in hlt]
    · rw [if_neg (by omega), if_neg ho, if_neg (by omega), if_pos (by omega), show 2 * (k / 2) = k from by omega, hx_in hlt]; omega
  · rw [if_neg e]
    unfold rk
    by_cases h1 : 2 * j + 1 < k
    · rw [if_pos h1, if_pos (by omega)]
    · rw [if_neg h1]
      by_cases h2 : 2 * j < k
      · omega
      · rw [if_neg h2, if_neg (by omega), if_neg (by omega)]
theorem HexTo.succ {s : ByteArray} {k : Nat} (h : HexTo s k) (hk : k < s.size) (hb : 0 ≤ hexD s[k]) : HexTo s (k + 1) := by
  intro j hj h'
  by_cases e : j = k
  · subst e; exact hb
  · exact h j (by omega) h'

/-- is it a key's text? -/
def keyB (s : ByteArray) : Bool := decide (s.size = 64) && s.data.toList.all fun c => decide (0 ≤ hexD c)
/-- the key's cells; zeros where the text is none -/
def keyF (s : ByteArray) (j : Nat) : Int := if keyB s then hx s (2 * j) * 16 + hx s (2 * j + 1) else 0
theorem keyB_bad {s : ByteArray} {k : Nat} (hk : k < s.size) (h : hexD s[k] < 0) : keyB s = false := by
  have : (s.data.toList.all fun c => decide (0 ≤ hexD c)) = false := by
    rw [List.all_eq_false]
    exact ⟨s[k], by rw [← get_list s k hk]; exact List.getElem_mem _, by simp; omega⟩
  simp [keyB, this]
theorem keyB_size {s : ByteArray} (h : s.size ≠ 64) : keyB s = false := by simp [keyB, h]
theorem keyB_yes {s : ByteArray} (h : s.size = 64) (ha : HexTo s 64) : keyB s = true := by
  have : (s.data.toList.all fun c => decide (0 ≤ hexD c)) = true := by
    rw [List.all_eq_true]
    intro x hx
    obtain ⟨j, hj, rfl⟩ := List.getElem_of_mem hx
    rw [size_list] at hj
    exact decide_eq_true (ha j (by omega) hj)
  simp [keyB, h, this]
theorem keyF_no {s : ByteArray} (h : keyB s = false) : kcell (keyF s) = kcell fun _ => 0 := kcell_congr fun j _ => by simp [keyF, h]
theorem keyF_yes {s : ByteArray} (h : keyB s = true) : kcell (keyF s) = kcell (rk s 64) := kcell_congr fun j hj => by
  unfold keyF rk
  rw [if_pos h, if_pos (by omega)]

/-- what a key's reading tells: the cells, and whether the text is a key's -/
def KeyPost (s : ByteArray) (w : World) (e : Ending) (w' : World) : Prop :=
  ∃ at_ : Int, e = .returned (.tuple #[.agg (kcell (keyF s)), .agg #[.int .i64 (if keyB s then 0 else 261), .int .i64 at_]]) ∧ Ext w w'
theorem KeyPost.no {s : ByteArray} {w w' : World} {at_ : Int} (h : keyB s = false) (hx : Ext w w') : KeyPost s w (.returned (.tuple #[.agg (kcell fun _ => 0), .agg #[.int .i64 261, .int .i64 at_]])) w' :=
  ⟨at_, by rw [keyF_no h, h]; rfl, hx⟩
theorem KeyPost.yes {s : ByteArray} {w w' : World} (h : keyB s = true) (hx : Ext w w') : KeyPost s w (.returned (.tuple #[.agg (kcell (rk s 64)), .agg #[.int .i64 0, .int .i64 0]])) w' :=
  ⟨0, by rw [keyF_yes h, h]; rfl, hx⟩

theorem i25k (f : Nat → Int) : (Tryz.prog.info? 25).map (·.size) = some (kcell f).size := by rw [kcell_size]; exact i25
theorem put_whole (f : Nat → Int) : putCells (kcell fun _ => 0) 0 (kcell f).toList = kcell f := by rw [putCells_whole (by simp [kcell_size])]
/-- how the function ends: both results written -/
theorem key_end {fn : Func} (hfn : fn.results = #[.cell 2 25, .cell 3 30]) {s : ByteArray} {w wr w1 : World} {f : Nat → Int} {e a : Int} {tmps : Array Value} (h2 : tmps.getD 2 undef = .pointer (some ⟨w.heap.size, 0, none⟩)) (h3 : tmps.getD 3 undef = .pointer (some ⟨w.heap.size + 1, 0, none⟩))
    (hb0 : Blk w1 w.heap.size (putCells (kcell fun _ => 0) 0 (kcell f).toList) 25) (hb1 : Blk w1 (w.heap.size + 1) #[.int .i64 0, .int .i64 0] 30) (hx : Ext w wr) (hm : Mods wr w1 (· = w.heap.size))
    (hp : ∀ w', Ext w w' → KeyPost s w (.returned (.tuple #[.agg (kcell f), .agg #[.int .i64 e, .int .i64 a]])) w') :
    bodyPost Tryz.prog fn (KeyPost s w) .ret { tmps := tmps, defers := [] } ((w1.setCell ⟨w.heap.size + 1, 0, none⟩ (.int .i64 e)).setCell ⟨w.heap.size + 1, 1, none⟩ (.int .i64 a)) := by
  refine bodyPost_ret (v := .tuple #[.agg (kcell f), .agg #[.int .i64 e, .int .i64 a]]) (results_cell2 hfn _ _ h2 h3
    (((hb0.congr (put_whole f)).setOther _ _ (by show w.heap.size ≠ w.heap.size + 1; omega)).setOther _ _ (by show w.heap.size ≠ w.heap.size + 1; omega)) (((hb1.set 0 _).set 1 _).congr rfl) Tryz.underlying25 rfl (i25k f) Tryz.underlying30 rfl i30) rfl (hp _ ?_)
  exact ((hx.mods hm (fun i hi => by omega)).setCell (by show w.heap.size ≤ w.heap.size + 1; omega) _).setCell (by show w.heap.size ≤ w.heap.size + 1; omega) _

set_option maxHeartbeats 4000000 in
set_option maxRecDepth 100000 in
theorem rKey_any (s : ByteArray) (w : World) (hs : s.size ≤ 140737488351232) : Calls Tryz.prog 43 #[.string s] w (KeyPost s w) := by
  go_enter Tryz.func43, Tryz.ntmps43
  go_wp2
  go_loopw [5] (fun i wr => ∃ k : Nat, k ≤ s.size ∧ k ≤ 64 ∧ i = .int .i64 k ∧ HexTo s k ∧ Blk wr (w.heap.size + 1 + 1) (kcell (rk s k)) 25 ∧ Blk wr w.heap.size (kcell fun _ => 0) 25 ∧ Blk wr (w.heap.size + 1) #[.int .i64 0, .int .i64 0] 30 ∧ Ext w wr) (fun i _ => s.size - (intOf i).toNat)
  case atStart =>
    have e0 : kcell (rk s 0) = kcell fun _ => 0 := kcell_congr fun j _ => by unfold rk; rw [if_neg (by omega), if_neg (by omega)]
    refine ⟨0, Nat.zero_le _, Nat.zero_le _, rfl, fun j h => by omega, ?_, ?_, ?_, ?_⟩
    · exact (Blk.new' _ _ 25 _ (by rw [sz_alloc, sz_alloc])).congr (by rw [e0]; rfl)
    · exact (((Blk.new w _ 25).alloc _).alloc _).congr rfl
    · exact (Blk.new' _ _ 30 _ (by rw [sz_alloc])).alloc _
    · exact ((Ext.alloc (Below.refl _ w) _).alloc _).alloc _
  case round =>
    obtain ⟨k, hk, hk64, rfl, hinv, hb2, hb0, hb1, hx0⟩ := hrel
    by_cases hlt : k < s.size
    · by_cases h64 : k = 64
      · have hno := keyB_size (s := s) (by omega)
        have h64b : (((k : Nat) : Int) == 64) = true := by simp; omega
        have H64 := Lib.hid h64; clear h64
        go_wp2_with ((with_reducible show wpList _ _ _ (⟨none, .store 25 (.tmp 2) (.tmp 21), _, _, _, _⟩ :: _) _ _); refine wpList_store_new rfl 25 _ _ rfl w.heap.size 0 (kcell fun _ => 0) rfl rfl hb0 (by decide) (i25k _) (kcell_one _) ?_; intro w1 hb0' hk1 hm1; have hb1' := hk1 _ _ _ (by omega) hb1; have c0 := hb1'.cell (i := 0) rfl; have c1 := hb1'.cell (i := 1) rfl; have f0 := hb1'.free 0; have f1 := hb1'.free 1)
        exact key_end rfl rfl rfl hb0' hb1' hx0 hm1 (fun _ h => .no hno h)
      · have h64b : (((k : Nat) : Int) == 64) = false := by simp; omega
        cases hd : decide (hexD s[k] < 0) with
        | true =>
          have hno := keyB_bad hlt (by simpa using hd)
          have hc := fun w' => digit_any s[k] w'
          generalize hexD s[k] = d at hc hd
          go_wp2_with (first | (go_at_call 71; refine (hc _).mono ?_; rintro e w' ⟨rfl, rfl⟩) | ((with_reducible show wpList _ _ _ (⟨none, .store 25 (.tmp 2) (.tmp 21), _, _, _, _⟩ :: _) _ _); refine wpList_store_new rfl 25 _ _ rfl w.heap.size 0 (kcell fun _ => 0) rfl rfl hb0 (by decide) (i25k _) (kcell_one _) ?_; intro w1 hb0' hk1 hm1; have hb1' := hk1 _ _ _ (by omega) hb1; have c0 := hb1'.cell (i := 0) rfl; have c1 := hb1'.cell (i := 1) rfl; have f0 := hb1'.free 0; have f1 := hb1'.free 1))
          exact key_end rfl rfl rfl hb0' hb1' hx0 hm1 (fun _ h => .no hno h)
        | false =>
          have hd' : 0 ≤ hexD s[k] := by simpa using hd
          have hn := hinv.succ hlt hd'
          have hc := fun w' => digit_any s[k] w'
          have hr := hexD_range s[k]
          have hqr := rk_in hk hinv k
          have hst := Lib.hid (rk_step hlt)
          obtain ⟨m, hm⟩ : ∃ m, k / 2 = m := ⟨_, rfl⟩
          rw [hm] at hqr hst
          have hm32 : m < 32 := by omega
          have hcell := hb2.cell (kcell_at (rk s k) m hm32)
          have hfree := hb2.free m
          have e1 : IntKind.i64.wrap ((k : Int) / 2) = (m : Int) := by rw [IntWalk.i64_in _ (by omega)]; omega
          have e2 : (m : Int) < 32 := by omega
          generalize hexD s[k] = d at hc hd hd' hr hst
          obtain ⟨q, hq⟩ : ∃ q, rk s k m = q := ⟨_, rfl⟩
          rw [hq] at hcell hqr hst
          have HOR := Lib.hid (or_nib q d hqr ⟨hd', hr.2⟩)
          have HQ := Lib.hid hq; clear hq
          have HM := Lib.hid hm; clear hm
          go_wp2_with (go_at_call 71; refine (hc _).mono ?_; rintro e w' ⟨rfl, rfl⟩)
          refine wp_region_still_tail 14 (by kernel_rfl) (by kernel_rfl) ?_
          simp only [List.take_succ_cons, List.take_zero, List.drop_succ_cons, List.drop_zero]
          repeat still_step
          still_call (hc _)
          repeat still_step
          refine wpStill_nil ?_
          change wpList _ _ _ _ _ w'.drew
          rw [HOR.out]
          go_wp2
          go_roundw
          case rel =>
            refine ⟨k + 1, by omega, by omega, by go_num, hn, ?_, ?_, ?_, ?_⟩
            · exact (hb2.drew.set m _).congr (by rw [kcell_set]; exact kcell_congr fun j _ => hst.out j)
            · exact hb0.drew.setOther _ _ (by show w.heap.size ≠ w.heap.size + 1 + 1; omega)
            · exact hb1.drew.setOther _ _ (by show w.heap.size + 1 ≠ w.heap.size + 1 + 1; omega)
            · exact hx0.drew.setCell (by show w.heap.size ≤ w.heap.size + 1 + 1; omega) _
          case measure => simp [intOf]; omega
    · by_cases h64 : s.size < 64
      · have hno := keyB_size (s := s) (by omega)
        go_wp2_with ((with_reducible show wpList _ _ _ (⟨none, .store 25 (.tmp 2) (.tmp 41), _, _, _, _⟩ :: _) _ _); refine wpList_store_new rfl 25 _ _ rfl w.heap.size 0 (kcell fun _ => 0) rfl rfl hb0 (by decide) (i25k _) (kcell_one _) ?_; intro w1 hb0' hk1 hm1; have hb1' := hk1 _ _ _ (by omega) hb1; have c0 := hb1'.cell (i := 0) rfl; have c1 := hb1'.cell (i := 1) rfl; have f0 := hb1'.free 0; have f1 := hb1'.free 1)
        exact key_end rfl rfl rfl hb0' hb1' hx0 hm1 (fun _ h => .no hno h)
      · obtain rfl : k = 64 := by omega
        have hyes := keyB_yes (s := s) (by omega) hinv
        go_wp2_with (first | ((with_reducible show wpList _ _ _ (⟨some 45, .load 25 (.tmp 4), _, _, _, _⟩ :: _) _ _); refine wpList_load_blk rfl 25 _ rfl (w.heap.size + 1 + 1) 0 rfl (kcell (rk s 64)).toList _ hb2 (fun j hj => by simp) Tryz.underlying25 rfl (by rw [Array.length_toList]; exact i25k _) ?_; simp only [Array.toArray_toList]) | ((with_reducible show wpList _ _ _ (⟨none, .store 25 (.tmp 2) (.tmp 45), _, _, _, _⟩ :: _) _ _); refine wpList_store_new rfl 25 _ _ rfl w.heap.size 0 (kcell (rk s 64)) rfl rfl hb0 (by rw [kcell_size, kcell_size]; exact Nat.le_refl _) (i25k _) (kcell_one _) ?_; intro w1 hb0' hk1 hm1; have hb1' := hk1 _ _ _ (by omega) hb1; have c0 := hb1'.cell (i := 0) rfl; have c1 := hb1'.cell (i := 1) rfl; have f0 := hb1'.free 0; have f1 := hb1'.free 1))
        exact key_end rfl rfl rfl hb0' hb1' hx0 hm1 (fun _ h => .yes hyes h)

end Go.Proofs.YtigfkfjlfpndfaaGreatDoor
