/-
  line.Command.
-/
import Derived.Test.YtigfkfjlfpndfaaGreatDoorWords
import Derived.Deep.RegionHeld3
namespace Go.Proofs.YtigfkfjlfpndfaaGreatDoor
open Go.RowKit Sp

def cmdRes (s : ByteArray) : Cmd × Int × Int := match cmdOf s with | .ok c => (c, 0, 0) | .error (e, a) => (Cmd.zero, e, a)
/-- what a line's reading tells -/
def CmdPost (s : ByteArray) (w : World) (e : Ending) (w' : World) : Prop :=
  e = .returned (.tuple #[.agg (ccell (cmdRes s).1), .agg #[.int .i64 (cmdRes s).2.1, .int .i64 (cmdRes s).2.2]]) ∧ Ext w w'

/-- a value of several cells is written, at a step of a region that draws its order -/
theorem step_store_new {P : Program} {ops : Array Oper} {op : Oper} {a : Act} {w : World} {Q : Exit → Act → World → Prop} {K : Act → World → Prop} {E : Prop} (hgd : op.guard = none) (ty : TypeId) (x y : Operand) (ho : op.op = .store ty x y) (b o : Nat) (cells : Array Value) (hx : a.eval x = .pointer (some ⟨b, o, none⟩)) (hy : a.eval y = .agg cells)
    {C : Array Value} {t : TypeId} (hb : Blk w b C t) (hn : o + cells.size ≤ C.size) (hi : (P.info? ty).map (·.size) = some cells.size) (h1 : cells.all (·.oneCell') = true)
    (h : ∀ w1, Blk w1 b (putCells C o cells.toList) t → (∀ k D u, k ≠ b → Blk w k D u → Blk w1 k D u) → Mods w w1 (· = b) → K (a.put op.dst undef) w1) :
    if Region.wanted op (yielded ops a.tmps) = true then Oper.wp P op a w K Q else E := by
  have hw : Region.wanted op (yielded ops a.tmps) = true := by simp [Region.wanted, hgd]
  rw [if_pos hw]
  exact wp_store_mid ty x y ho b o cells hx hy (hb.there hn) hi h1 (h _ (hb.puts o _) (fun _ _ _ hk hB => hB.putsOther b o _ hk) ((Mods.refl w _).sets b o _ (fun _ => rfl)))

/-- .. and the way on -/
theorem wpAnyH_store {P : Program} {md : Region.Mode} {ops : Array Oper} {S : World → Prop} {fuel : Nat} {listed : Array Bool} {a : Act} {w : World} {Q : Exit → Act → World → Prop} (i : Nat) (op : Oper) (hr : Region.ready md ops listed = [i]) (hop : ops[i]? = some op) (hgd : op.guard = none) (ty : TypeId) (x y : Operand) (ho : op.op = .store ty x y) (b o : Nat) (cells : Array Value) (hx : a.eval x = .pointer (some ⟨b, o, none⟩)) (hy : a.eval y = .agg cells)
    {C : Array Value} {t : TypeId} (hb : Blk w b C t) (hn : o + cells.size ≤ C.size) (hi : (P.info? ty).map (·.size) = some cells.size) (h1 : cells.all (·.oneCell') = true)
    (h : ∀ w1, Blk w1 b (putCells C o cells.toList) t → (∀ k D u, k ≠ b → Blk w k D u → Blk w1 k D u) → Mods w w1 (· = b) → S w1 ∧ wpAnyH P md ops Q S fuel (listed.setIfInBounds i true) (a.put op.dst undef) w1) :
    wpAnyH P md ops Q S (fuel + 1) listed a w := by
  refine wpAnyH_ready hr (by simp) (AllReadyH.cons hop (fun K hK => ?_) AllReadyH.nil)
  refine step_store_new hgd ty x y ho b o cells hx hy hb hn hi h1 fun w1 h2 h3 h4 => ?_
  exact hK.out _ _ (h w1 h2 h3 h4).1 fun _ => (h w1 h2 h3 h4).2

abbrev cz : Value := .int .u8 0
abbrev zlit : Array Value := #[.int .i64 0, .string ⟨#[]⟩, cz, cz, cz, cz, cz, cz, cz, cz, cz, cz, cz, cz, cz, cz, cz, cz, cz, cz, cz, cz, cz, cz, cz, cz, cz, cz, cz, cz, cz, cz, cz, cz, .string ⟨#[]⟩, .int .i64 0]
theorem ccell_lit (k : Int) : ccell { Cmd.zero with kind := k } = #[.int .i64 k, .string ⟨#[]⟩, cz, cz, cz, cz, cz, cz, cz, cz, cz, cz, cz, cz, cz, cz, cz, cz, cz, cz, cz, cz, cz, cz, cz, cz, cz, cz, cz, cz, cz, cz, cz, cz, .string ⟨#[]⟩, .int .i64 0] := by
  apply Array.toList_inj.1
  simp only [ccell, kcell, Cmd.zero, Array.toList_append]
  rfl

theorem i27z : (Tryz.prog.info? 27).map (·.size) = some zlit.size := by kernel_rfl
theorem zlit_one : zlit.all (·.oneCell') = true := by simp [Value.oneCell']
theorem zlit_fits : 0 + zlit.size ≤ (ccell Cmd.zero).size := by rw [ccell_size]; decide
theorem i30p (e a : Int) : (#[Value.int .i64 e, .int .i64 a]).all (·.oneCell') = true := by simp [Value.oneCell']
theorem put_lit (k : Int) (C : Array Value) (h : C.size = 36) : putCells C 0 [.int .i64 k, .string ⟨#[]⟩, cz, cz, cz, cz, cz, cz, cz, cz, cz, cz, cz, cz, cz, cz, cz, cz, cz, cz, cz, cz, cz, cz, cz, cz, cz, cz, cz, cz, cz, cz, cz, cz, .string ⟨#[]⟩, .int .i64 0] = ccell { Cmd.zero with kind := k } := by
  rw [putCells_whole (by rw [h]; rfl), ccell_lit]
theorem put_cmd (c d : Cmd) : putCells (ccell c) 0 (ccell d).toList = ccell d := by rw [putCells_whole (by simp [ccell_size])]
theorem cmd_end {fn : Func} (hfn : fn.results = #[.cell 2 27, .cell 3 30]) {s : ByteArray} {w wr w1 : World} {c : Cmd} {e a : Int} {tmps : Array Value} (h2 : tmps.getD 2 undef = .pointer (some ⟨w.heap.size, 0, none⟩)) (h3 : tmps.getD 3 undef = .pointer (some ⟨w.heap.size + 1, 0, none⟩))
    (hb0 : Blk w1 w.heap.size (ccell c) 27) (hb1 : Blk w1 (w.heap.size + 1) #[.int .i64 0, .int .i64 0] 30) (hx : Ext w wr) (hm : Mods wr w1 (· = w.heap.size))
    (hp : ∀ w', Ext w w' → CmdPost s w (.returned (.tuple #[.agg (ccell c), .agg #[.int .i64 e, .int .i64 a]])) w') :
    bodyPost Tryz.prog fn (CmdPost s w) .ret { tmps := tmps, defers := [] } ((w1.setCell ⟨w.heap.size + 1, 0, none⟩ (.int .i64 e)).setCell ⟨w.heap.size + 1, 1, none⟩ (.int .i64 a)) := by
  refine bodyPost_ret (v := .tuple #[.agg (ccell c), .agg #[.int .i64 e, .int .i64 a]]) (results_cell2 hfn _ _ h2 h3
    ((hb0.setOther _ _ (by show w.heap.size ≠ w.heap.size + 1; omega)).setOther _ _ (by show w.heap.size ≠ w.heap.size + 1; omega)) (((hb1.set 0 _).set 1 _).congr rfl) Tryz.underlying27 rfl (i27k c) Tryz.underlying30 rfl i30) rfl (hp _ ?_)
  exact ((hx.mods hm (fun i hi => by omega)).setCell (by show w.heap.size ≤ w.heap.size + 1; omega) _).setCell (by show w.heap.size ≤ w.heap.size + 1; omega) _

/-- the empty command is written over itself: what the walk reckons with -/
theorem store_zero {w : World} {b : Nat} (hb : Blk w b (ccell Cmd.zero) 27) : ∃ w1, (Instr.storeAt 27 (.pointer (some ⟨b, 0, none⟩)) (.agg #[.int .i64 0, .string ⟨#[]⟩, .int .u8 0, .int .u8 0, .int .u8 0, .int .u8 0, .int .u8 0, .int .u8 0, .int .u8 0, .int .u8 0, .int .u8 0, .int .u8 0, .int .u8 0, .int .u8 0, .int .u8 0, .int .u8 0, .int .u8 0, .int .u8 0, .int .u8 0, .int .u8 0, .int .u8 0, .int .u8 0, .int .u8 0, .int .u8 0, .int .u8 0, .int .u8 0, .int .u8 0, .int .u8 0, .int .u8 0, .int .u8 0, .int .u8 0, .int .u8 0, .int .u8 0, .int .u8 0, .string ⟨#[]⟩, .int .i64 0])).run Tryz.prog w = .ok () w1 ∧ (storeVar 27 ⟨b, 0, none⟩ (.agg #[.int .i64 0, .string ⟨#[]⟩, .int .u8 0, .int .u8 0, .int .u8 0, .int .u8 0, .int .u8 0, .int .u8 0, .int .u8 0, .int .u8 0, .int .u8 0, .int .u8 0, .int .u8 0, .int .u8 0, .int .u8 0, .int .u8 0, .int .u8 0, .int .u8 0, .int .u8 0, .int .u8 0, .int .u8 0, .int .u8 0, .int .u8 0, .int .u8 0, .int .u8 0, .int .u8 0, .int .u8 0, .int .u8 0, .int .u8 0, .int .u8 0, .int .u8 0, .int .u8 0, .int .u8 0, .int .u8 0, .string ⟨#[]⟩, .int .i64 0])).run Tryz.prog w = .ok () w1 ∧
    Blk w1 b (ccell Cmd.zero) 27 ∧ (∀ k D u, k ≠ b → Blk w k D u → Blk w1 k D u) ∧ Mods w w1 (· = b) := by
  refine ⟨w.setCells b 0 zlit.toList, run_storeAt_mid w b 0 27 zlit (hb.there zlit_fits) i27z zlit_one, run_storeVar_mid w b 0 27 zlit (hb.there zlit_fits) i27z zlit_one, ?_, fun _ _ _ hk hB => hB.putsOther b 0 _ hk, (Mods.refl w _).sets b 0 _ (fun _ => rfl)⟩
  exact (hb.puts 0 zlit.toList).congr (put_lit 0 _ (ccell_size _))

set_option maxHeartbeats 4000000 in
set_option maxRecDepth 100000 in
theorem cmd_long (s : ByteArray) (hl : 640 < s.size) (w : World) : Calls Tryz.prog 13 #[.string s] w (CmdPost s w) := by
  have hl' : (640 : Int) < (s.size : Int) := by omega
  have hres : cmdRes s = (Cmd.zero, 3, 640) := by unfold cmdRes cmdOf; rw [if_pos hl]
  have HRES := Lib.hid hres; clear hres
  go_enter Tryz.func13, Tryz.ntmps13
  go_wp2_with (first
    | ((with_reducible show wpList _ _ _ (⟨none, .store 27 (.tmp 2) (.tmp 13), _, _, _, _⟩ :: _) _ _); refine wpList_store_new rfl 27 _ _ rfl w.heap.size 0 _ rfl rfl ((Blk.new w _ 27).alloc _) (by decide) (by kernel_rfl) (by simp [Value.oneCell']) ?_; intro w1 hb2 hk1 hm1; have hb3 := hk1 _ _ _ (by omega) (Blk.new' (w.alloc _) #[.int .i64 0, .int .i64 0] 30 (w.heap.size + 1) (by rw [sz_alloc])); have c0 := hb3.cell (i := 0) rfl; have c1 := hb3.cell (i := 1) rfl; have f0 := hb3.free 0; have f1 := hb3.free 1))
  refine cmd_end (c := Cmd.zero) rfl rfl rfl (hb2.congr ?_) hb3 (Ext.alloc (Ext.alloc (Below.refl _ w) _) _) hm1 fun w' hx => ⟨by rw [HRES.out], hx⟩
  exact put_lit 0 _ rfl

-- THE REST BY PROGRAM
structure Outs (w w' : World) : Prop where
  b2 : Blk w' w.heap.size (ccell Cmd.zero) 27
  b3 : Blk w' (w.heap.size + 1) #[.int .i64 0, .int .i64 0] 30
  x : Ext w w'
  v : Vars w'
  big : 8 ≤ w.heap.size
theorem Outs.ext {w w1 w2 : World} (h : Outs w w1) (m : Ext w1 w2) : Outs w w2 := ⟨h.b2.below m h.b2.lt, h.b3.below m h.b3.lt, h.x.go m, h.v.ext m, h.big⟩
theorem Outs.alloc' {w w1 w2 : World} {o : Obj} {k : Nat} (h : Outs w w1) (m : Mods (w1.alloc o) w2 (· = k)) (hk : w1.heap.size ≤ k) : Outs w w2 :=
  h.ext ((Ext.alloc (Below.refl _ w1) o).mods m (fun i hi e => by omega))
theorem outs0 {w : World} (hv : Vars w) (n : Nat) : Outs w (((w.alloc (.cells (ccell Cmd.zero) 27)).alloc (.cells #[.int .i64 0, .int .i64 0] 30)).drewN n) :=
  ⟨((Blk.new w _ 27).alloc _).drewN n, (Blk.new' (w.alloc _) _ 30 _ (by rw [sz_alloc])).drewN n, ((Ext.alloc (Below.refl _ w) _).alloc _).drewN n, hv.ext (((Ext.alloc (Below.refl _ w) _).alloc _).drewN n), hv.big⟩
theorem cut_any (s : ByteArray) (hs : s.size ≤ 1000) (w : World) (hv : Vars w) : Calls Tryz.prog 34 #[.string s, .string ⟨#[32]⟩] w fun e w' => (∃ r b, e = .returned (.tuple #[.string (s.extract 0 (blank s.data.toList)), r, b])) ∧ ∃ n, w' = w.drewN n := by
  obtain ⟨m, hm⟩ := hv.maxlen
  refine (Tryz.strings_Cut s ⟨#[32]⟩ m w (by omega) hm).mono ?_
  rintro e w' ⟨rfl, hw⟩
  exact ⟨⟨_, _, by rw [← cut_blank]⟩, hw⟩

set_option maxHeartbeats 4000000 in
set_option maxRecDepth 100000 in
theorem cmd_noword (s : ByteArray) (hl : ¬ 640 < s.size) (hk : wordAt (s.extract 0 (blank s.data.toList)) = 0) (w : World) (hv : Vars w) : Calls Tryz.prog 13 #[.string s] w (CmdPost s w) := by
  have hl' : ¬ (640 : Int) < (s.size : Int) := by omega
  have hres : cmdRes s = (Cmd.zero, 340, 0) := by unfold cmdRes cmdOf; rw [if_neg hl]; simp [hk]
  have HRES := Lib.hid hres; clear hres
  have hcut := fun w' h' => cut_any s (by omega) w' h'
  have hix : ∃ i : Int, i < 1 ∧ Lib.idxOfS wordsL (s.extract 0 (blank s.data.toList)) = i := by
    rcases wordAt_idx (s.extract 0 (blank s.data.toList)) with h | h
    · exact ⟨_, h.2, rfl⟩
    · omega
  obtain ⟨i, hi1, hix⟩ := hix
  have HIX := Lib.hid hix; clear hix hk
  generalize s.extract 0 (blank s.data.toList) = word at hcut HIX
  have V0 := Lib.hid (hv.ext ((Ext.alloc (Ext.alloc (Below.refl _ w) (.cells (ccell Cmd.zero) 27)) (.cells #[.int .i64 0, .int .i64 0] 30))))
  have H0 := Lib.hid (outs0 hv)
  rw [show ccell Cmd.zero = _ from ccell_lit 0] at V0 H0
  clear hv
  go_enter Tryz.func13, Tryz.ntmps13
  go_wp2_with (first
    | ((with_reducible show Calls _ 34 _ _ _); refine (hcut _ V0.out).mono ?_; rintro e w1 ⟨⟨r, b, rfl⟩, n, rfl⟩)
    | ((with_reducible show Calls _ 35 _ _ _); refine (words_any _).mono ?_; rintro e w3 ⟨rfl, hx3⟩; obtain ⟨hb2, hb3, hxw, hv3, hbig⟩ := (H0.out n).ext hx3; have hz := hxw.size; have hz3 := hb3.lt)
    | ((with_reducible show wpList _ _ _ (⟨none, .store 60 (.tmp 7) (.tmp 21), _, _, _, _⟩ :: _) _ _); refine wpList_store_new rfl 60 _ _ rfl w3.heap.size 0 wordsA rfl rfl (Blk.new w3 _ 60) (by decide) i60 (by simp [wordsA, Value.oneCell']) ?_; intro w4 hb7 hk4 hm4; rw [putCells_whole (by rfl)] at hb7; replace hb7 := hb7.congr (D := wordsA) (by simp); obtain ⟨hb2, hb3, hxw, hv3, hbig⟩ := (Outs.mk hb2 hb3 hxw hv3 hbig).alloc' hm4 (by omega); have hz4 := hb7.lt)
    | ((with_reducible show Calls _ 36 _ _ _); refine (Tryz.slices_Index_string w3.heap.size 0 8 8 wordsL word w4 (by decide) (by decide) (fun j hj => hb7.cell (by rw [Nat.zero_add]; exact wordsA_at j hj))).mono ?_; rintro e w5 ⟨rfl, rfl⟩; rw [show wordsL.take 8 = wordsL from rfl, HIX.out])
    | ((with_reducible show wpList _ _ _ (⟨none, .store 27 (.tmp 8) (.tmp 25), _, _, _, _⟩ :: _) _ _); refine wpList_store_new rfl 27 _ _ rfl w5.heap.size 0 _ rfl rfl (Blk.new w5 _ 27) (by show 0 + 36 ≤ 36; omega) (by kernel_rfl) (by simp [Value.oneCell']) ?_; intro w6 hb8 hk6 hm6; replace hb8 := hb8.congr (put_lit i _ rfl); obtain ⟨hb2, hb3, hxw, hv3, hbig⟩ := (Outs.mk hb2 hb3 hxw hv3 hbig).alloc' hm6 (by omega); have hz6 := hb8.lt; have k8 : w6.cell? ⟨w5.heap.size, 0, none⟩ = some (.int .i64 i) := hb8.cell (ccell_0 _))
    | ((with_reducible show wpList _ _ _ (⟨none, .store 27 (.tmp 2) (.tmp 29), _, _, _, _⟩ :: _) _ _); refine wpList_store_new rfl 27 _ _ rfl w.heap.size 0 _ rfl rfl hb2 (by rw [ccell_size]; decide) (by kernel_rfl) (by simp [Value.oneCell']) ?_; intro w7 hb2' hk1 hm1; replace hb3 := hk1 _ _ _ (by omega) hb3; have c0 := hb3.cell (i := 0) rfl; have c1 := hb3.cell (i := 1) rfl; have f0 := hb3.free 0; have f1 := hb3.free 1)
    )
  refine cmd_end (c := Cmd.zero) rfl rfl rfl (hb2'.congr (put_lit 0 _ (ccell_size _))) hb3 hxw hm1 fun w' hx => ⟨by rw [HRES.out], hx⟩
theorem cmd_end' {fn : Func} (hfn : fn.results = #[.cell 2 27, .cell 3 30]) {s : ByteArray} {w wr w1 w2 : World} {c : Cmd} {e a : Int} {tmps : Array Value} (h2 : tmps.getD 2 undef = .pointer (some ⟨w.heap.size, 0, none⟩)) (h3 : tmps.getD 3 undef = .pointer (some ⟨w.heap.size + 1, 0, none⟩))
    (hb0 : Blk w1 w.heap.size (ccell c) 27) (hb1 : Blk w2 (w.heap.size + 1) (putCells #[.int .i64 0, .int .i64 0] 0 [.int .i64 e, .int .i64 a]) 30) (hx : Ext w wr) (hm : Mods wr w1 (· = w.heap.size)) (hm2 : Mods w1 w2 (· = w.heap.size + 1))
    (hk : ∀ k D u, k ≠ w.heap.size + 1 → Blk w1 k D u → Blk w2 k D u)
    (hp : ∀ w', Ext w w' → CmdPost s w (.returned (.tuple #[.agg (ccell c), .agg #[.int .i64 e, .int .i64 a]])) w') :
    bodyPost Tryz.prog fn (CmdPost s w) .ret { tmps := tmps, defers := [] } w2 := by
  refine bodyPost_ret (v := .tuple #[.agg (ccell c), .agg #[.int .i64 e, .int .i64 a]]) (results_cell2 hfn _ _ h2 h3
    (hk _ _ _ (by omega) hb0) (hb1.congr (by rw [putCells_whole (by rfl)])) Tryz.underlying27 rfl (i27k c) Tryz.underlying30 rfl i30) rfl (hp _ ?_)
  exact (hx.mods hm (fun i hi => by omega)).mods hm2 (fun i hi => by omega)
theorem Outs.mods {w w1 w2 : World} {S : Nat → Prop} (h : Outs w w1) (m : Mods w1 w2 S) (hS : ∀ i, S i → w.heap.size + 2 ≤ i) : Outs w w2 :=
  ⟨h.b2.mods m (fun e => by have := hS _ e; omega), h.b3.mods m (fun e => by have := hS _ e; omega), h.x.mods m (fun i hi e => by have := hS _ e; omega), h.v.mods m (fun i hi e => by have := hS _ e; have := h.big; omega), h.big⟩
theorem RestPost.no {k : Nat} {s : ByteArray} {at_ rb cb : Nat} {c : Cmd} {w w' : World} {en : Ending} (h : RestPost k s at_ rb cb c w en w') {e a : Int} (hR : restS k s at_ c = .error (e, a)) : en = .returned (.bool false) ∧ (∃ d, Blk w' rb (rcell s d e a) 65) ∧ Mods w w' (fun k => k = cb ∨ k = rb) := by
  obtain ⟨hm, h⟩ := h
  rw [hR] at h
  exact ⟨h.1, h.2, hm⟩
theorem RestPost.yes {k : Nat} {s : ByteArray} {at_ rb cb : Nat} {c : Cmd} {w w' : World} {en : Ending} (h : RestPost k s at_ rb cb c w en w') {c' : Cmd} {d : Nat} (hR : restS k s at_ c = .ok (c', d)) : en = .returned (.bool true) ∧ Blk w' cb (ccell c') 27 ∧ Blk w' rb (rcell s d 0 0) 65 ∧ Mods w w' (fun k => k = cb ∨ k = rb) := by
  obtain ⟨hm, h⟩ := h
  rw [hR] at h
  exact ⟨h.1, h.2.1, h.2.2, hm⟩

set_option maxHeartbeats 4000000 in
set_option maxRecDepth 100000 in
theorem cmd_bad (s : ByteArray) (hl : ¬ 640 < s.size) (k : Nat) (hk : wordAt (s.extract 0 (blank s.data.toList)) = k) (hk1 : 1 ≤ k) (e a : Int) (hR : restS k s (blank s.data.toList) { Cmd.zero with kind := k } = .error (e, a)) (w : World) (hv : Vars w) : Calls Tryz.prog 13 #[.string s] w (CmdPost s w) := by
  have hl' : ¬ (640 : Int) < (s.size : Int) := by omega
  have hres : cmdRes s = (Cmd.zero, e, a) := by unfold cmdRes cmdOf; rw [if_neg hl]; simp only [hk, hR]; rw [if_neg (by omega)]
  have HRES := Lib.hid hres; clear hres
  have hcut := fun w' h' => cut_any s (by omega) w' h'
  obtain ⟨hk7, hix⟩ : k ≤ 7 ∧ Lib.idxOfS wordsL (s.extract 0 (blank s.data.toList)) = (k : Int) := by
    rcases wordAt_idx (s.extract 0 (blank s.data.toList)) with h | h
    · omega
    · rw [← hk]; exact h.2
  have HIX := Lib.hid hix; clear hix hk
  have HB := Lib.hid (show (s.extract 0 (blank s.data.toList)).size = blank s.data.toList by rw [ByteArray.size_extract]; have := blank_le s.data.toList; rw [size_list] at this; omega)
  have hat : blank s.data.toList ≤ s.size := by have := blank_le s.data.toList; rw [size_list] at this; exact this
  generalize s.extract 0 (blank s.data.toList) = word at hcut HIX HB
  generalize blank s.data.toList = at_ at *
  have V0 := Lib.hid (hv.ext ((Ext.alloc (Ext.alloc (Below.refl _ w) (.cells (ccell Cmd.zero) 27)) (.cells #[.int .i64 0, .int .i64 0] 30))))
  have H0 := Lib.hid (outs0 hv)
  rw [show ccell Cmd.zero = _ from ccell_lit 0] at V0 H0
  have h8 := hv.big
  have hki : ¬ (k : Int) < 1 := by omega
  clear hv
  have HR := Lib.hid hR; clear hR
  go_enter Tryz.func13, Tryz.ntmps13
  go_wp2_with (first
    | ((with_reducible show Calls _ 34 _ _ _); refine (hcut _ V0.out).mono ?_; rintro e w1 ⟨⟨r, b, rfl⟩, n, rfl⟩)
    | ((with_reducible show Calls _ 35 _ _ _); refine (words_any _).mono ?_; rintro e w3 ⟨rfl, hx3⟩; obtain ⟨hb2, hb3, hxw, hv3, hbig⟩ := (H0.out n).ext hx3; have hz := hxw.size; have hz3 := hb3.lt)
    | ((with_reducible show wpList _ _ _ (⟨none, .store 60 (.tmp 7) (.tmp 21), _, _, _, _⟩ :: _) _ _); refine wpList_store_new rfl 60 _ _ rfl w3.heap.size 0 wordsA rfl rfl (Blk.new w3 _ 60) (by decide) i60 (by simp [wordsA, Value.oneCell']) ?_; intro w4 hb7 hk4 hm4; rw [putCells_whole (by rfl)] at hb7; replace hb7 := hb7.congr (D := wordsA) (by simp); obtain ⟨hb2, hb3, hxw, hv3, hbig⟩ := (Outs.mk hb2 hb3 hxw hv3 hbig).alloc' hm4 (by omega); have hz4 := hb7.lt)
    | ((with_reducible show Calls _ 36 _ _ _); refine (Tryz.slices_Index_string w3.heap.size 0 8 8 wordsL word w4 (by decide) (by decide) (fun j hj => hb7.cell (by rw [Nat.zero_add]; exact wordsA_at j hj))).mono ?_; rintro e w5 ⟨rfl, rfl⟩; rw [show wordsL.take 8 = wordsL from rfl, HIX.out])
    | ((with_reducible show wpList _ _ _ (⟨none, .store 27 (.tmp 8) (.tmp 25), _, _, _, _⟩ :: _) _ _); refine wpList_store_new rfl 27 _ _ rfl w5.heap.size 0 _ rfl rfl (Blk.new w5 _ 27) (by show 0 + 36 ≤ 36; omega) (by kernel_rfl) (by simp [Value.oneCell']) ?_; intro w6 hb8 hk6 hm6; replace hb8 := hb8.congr (put_lit (k : Int) _ rfl); obtain ⟨hb2, hb3, hxw, hv3, hbig⟩ := (Outs.mk hb2 hb3 hxw hv3 hbig).alloc' hm6 (by omega); have hz6 := hb8.lt; have k8 : w6.cell? ⟨w5.heap.size, 0, none⟩ = some (.int .i64 (k : Int)) := hb8.cell (ccell_0 _))
    | ((with_reducible show Calls _ 37 _ _ _); refine (rest_any k hk1 hk7 s (by omega) at_ hat w6.heap.size w5.heap.size { Cmd.zero with kind := k } rfl _ (hv3.ext (Ext.alloc (Below.refl _ w6) _)) ((Blk.new w6 _ 65).congr (by rw [HB.out]; rfl)) (hb8.alloc _) (by omega) (by omega) (by omega)).mono ?_; rintro e8 w8 hrest; obtain ⟨rfl, ⟨d, hr8⟩, hm8⟩ := hrest.no HR.out; obtain ⟨hb2, hb3, hxw, hv3, hbig⟩ := ((Outs.mk hb2 hb3 hxw hv3 hbig).ext (Ext.alloc (Below.refl _ w6) _)).mods hm8 (fun i hi => by rcases hi with rfl | rfl <;> omega))
    )
  refine wp_region_noPanic ?_
  refine wp_region_held_drew (S := fun w' => w'.cell? ⟨w6.heap.size, 2, none⟩ = some (.int .i64 e) ∧ w'.cell? ⟨w6.heap.size, 3, none⟩ = some (.int .i64 a)) (by kernel_rfl) ⟨hr8.drew.cell rfl, hr8.drew.cell rfl⟩ (fun hHeld => ?_)
  refine wpAnyH_take (i := 0) (v := ?v0) rfl (by kernel_rfl) (by kernel_rfl) (by kernel_rfl) (fun _ _ _ h => h) (Or.inl ⟨by rfl, ?hy0⟩) hHeld ?rest0
  case hy0 => ((intro w hSw); (try dsimp only at hSw); go_simp; try with_reducible rfl)
  simp only [Act.put, List.setIfInBounds_toArray, List.set_cons_zero, List.set_cons_succ]
  refine wpAnyH_take (i := 1) (v := ?v1) rfl (by kernel_rfl) (by kernel_rfl) (by kernel_rfl) (fun _ _ _ h => h) (Or.inl ⟨by rfl, ?hy1⟩) hHeld ?rest1
  case hy1 => ((intro w hSw); (try dsimp only at hSw); go_simp; try with_reducible rfl)
  simp only [Act.put, List.setIfInBounds_toArray, List.set_cons_zero, List.set_cons_succ]
  refine wpAnyH_take (i := 2) (v := ?v2) rfl (by kernel_rfl) (by kernel_rfl) (by kernel_rfl) (fun _ _ _ h => h) (Or.inl ⟨by rfl, ?hy2⟩) hHeld ?rest2
  case hy2 => ((intro w hSw); (try dsimp only at hSw); go_simp; try with_reducible rfl)
  simp only [Act.put, List.setIfInBounds_toArray, List.set_cons_zero, List.set_cons_succ]
  refine wpAnyH_take (i := 3) (v := ?v3) rfl (by kernel_rfl) (by kernel_rfl) (by kernel_rfl) (fun _ _ _ h => h) (Or.inl ⟨by rfl, ?hy3⟩) hHeld ?rest3
  case hy3 => ((intro w hSw); (try dsimp only at hSw); go_simp; try with_reducible rfl)
  simp only [Act.put, List.setIfInBounds_toArray, List.set_cons_zero, List.set_cons_succ]
  refine wpAnyH_take (i := 4) (v := ?v4) rfl (by kernel_rfl) (by kernel_rfl) (by kernel_rfl) (fun _ _ _ h => h) (Or.inl ⟨by rfl, ?hy4⟩) hHeld ?rest4
  case hy4 => ((intro w hSw); (try dsimp only at hSw); go_simp; try with_reducible rfl)
  simp only [Act.put, List.setIfInBounds_toArray, List.set_cons_zero, List.set_cons_succ]
  refine wpAnyH_store 5 ({ dst := none, op := Op.store 27 (Operand.tmp 2) (Operand.tmp 39), type := 0, pos := "line.go:172", after := #[{ on := 0, ground := Ground.data }, { on := 0, ground := Ground.phase }, { on := 1, ground := Ground.textOnly Departure.lateStores }, { on := 2, ground := Ground.textOnly Departure.lateStores }, { on := 3, ground := Ground.textOnly Departure.lateStores }, { on := 4, ground := Ground.textOnly Departure.lateStores }], guard := none } : Oper) (by kernel_rfl) rfl rfl 27 (.tmp 2) (.tmp 39) rfl w.heap.size 0 zlit (by rfl) (by rfl) hb2.drew zlit_fits i27z zlit_one ?_
  intro w9 hb2' hk9 hm9
  have hr9 := hk9 _ _ _ (show w6.heap.size ≠ w.heap.size by omega) hr8.drew
  have hb3' := hk9 _ _ _ (show w.heap.size + 1 ≠ w.heap.size by omega) hb3.drew
  have hHeld9 : (fun w' => w'.cell? ⟨w6.heap.size, 2, none⟩ = some (.int .i64 e) ∧ w'.cell? ⟨w6.heap.size, 3, none⟩ = some (.int .i64 a)) w9 := ⟨hr9.cell rfl, hr9.cell rfl⟩
  refine ⟨hHeld9, ?_⟩
  simp only [Act.put, List.setIfInBounds_toArray, List.set_cons_zero, List.set_cons_succ]
  refine wpAnyH_store 6 ({ dst := none, op := Op.store 30 (Operand.tmp 3) (Operand.tmp 43), type := 0, pos := "line.go:172", after := #[{ on := 4, ground := Ground.data }, { on := 5, ground := Ground.chain }, { on := 0, ground := Ground.phase }, { on := 1, ground := Ground.phase }, { on := 2, ground := Ground.phase }, { on := 3, ground := Ground.phase }, { on := 4, ground := Ground.phase }, { on := 5, ground := Ground.phase }], guard := none } : Oper) (by kernel_rfl) rfl rfl 30 (.tmp 3) (.tmp 43) rfl (w.heap.size + 1) 0 #[.int .i64 e, .int .i64 a] (by rfl) (by rfl) hb3' (Nat.le_refl 2) i30 (i30p _ _) ?_
  intro w10 hb3'' hk10 hm10
  have hr10 := hk10 _ _ _ (show w6.heap.size ≠ w.heap.size + 1 by omega) hr9
  refine ⟨⟨hr10.cell rfl, hr10.cell rfl⟩, ?_⟩
  simp only [Act.put, List.setIfInBounds_toArray, List.set_cons_zero, List.set_cons_succ]
  refine wpAnyH_done (by kernel_rfl) ?_ _
  refine NoPanic.normal ?_
  go_wp2
  refine cmd_end' (c := Cmd.zero) rfl rfl rfl (hb2'.congr (put_lit 0 _ (ccell_size _))) hb3'' (Ext.drew hxw) hm9 hm10 hk10 fun w' hx => ⟨by rw [HRES.out], hx⟩
set_option maxHeartbeats 4000000 in
set_option maxRecDepth 100000 in
theorem cmd_beyond (s : ByteArray) (hl : ¬ 640 < s.size) (k : Nat) (hk : wordAt (s.extract 0 (blank s.data.toList)) = k) (hk1 : 1 ≤ k) (c' : Cmd) (d : Nat) (hR : restS k s (blank s.data.toList) { Cmd.zero with kind := k } = .ok (c', d)) (hd : d < s.size) (w : World) (hv : Vars w) : Calls Tryz.prog 13 #[.string s] w (CmdPost s w) := by
  have hl' : ¬ (640 : Int) < (s.size : Int) := by omega
  have hres : cmdRes s = (Cmd.zero, 340, (d : Int)) := by unfold cmdRes cmdOf; rw [if_neg hl]; simp only [hk, hR]; rw [if_neg (by omega), if_pos hd]
  have HRES := Lib.hid hres; clear hres
  have hcut := fun w' h' => cut_any s (by omega) w' h'
  obtain ⟨hk7, hix⟩ : k ≤ 7 ∧ Lib.idxOfS wordsL (s.extract 0 (blank s.data.toList)) = (k : Int) := by
    rcases wordAt_idx (s.extract 0 (blank s.data.toList)) with h | h
    · omega
    · rw [← hk]; exact h.2
  have HIX := Lib.hid hix; clear hix hk
  have HB := Lib.hid (show (s.extract 0 (blank s.data.toList)).size = blank s.data.toList by rw [ByteArray.size_extract]; have := blank_le s.data.toList; rw [size_list] at this; omega)
  have hat : blank s.data.toList ≤ s.size := by have := blank_le s.data.toList; rw [size_list] at this; exact this
  generalize s.extract 0 (blank s.data.toList) = word at hcut HIX HB
  generalize blank s.data.toList = at_ at *
  have V0 := Lib.hid (hv.ext ((Ext.alloc (Ext.alloc (Below.refl _ w) (.cells (ccell Cmd.zero) 27)) (.cells #[.int .i64 0, .int .i64 0] 30))))
  have H0 := Lib.hid (outs0 hv)
  rw [show ccell Cmd.zero = _ from ccell_lit 0] at V0 H0
  have h8 := hv.big
  have hki : ¬ (k : Int) < 1 := by omega
  clear hv
  have HR := Lib.hid hR; clear hR
  have hd2 : (d : Int) < (s.size : Int) := by omega
  go_enter Tryz.func13, Tryz.ntmps13
  go_wp2_with (first
    | ((with_reducible show Calls _ 34 _ _ _); refine (hcut _ V0.out).mono ?_; rintro e w1 ⟨⟨r, b, rfl⟩, n, rfl⟩)
    | ((with_reducible show Calls _ 35 _ _ _); refine (words_any _).mono ?_; rintro e w3 ⟨rfl, hx3⟩; obtain ⟨hb2, hb3, hxw, hv3, hbig⟩ := (H0.out n).ext hx3; have hz := hxw.size; have hz3 := hb3.lt)
    | ((with_reducible show wpList _ _ _ (⟨none, .store 60 (.tmp 7) (.tmp 21), _, _, _, _⟩ :: _) _ _); refine wpList_store_new rfl 60 _ _ rfl w3.heap.size 0 wordsA rfl rfl (Blk.new w3 _ 60) (by decide) i60 (by simp [wordsA, Value.oneCell']) ?_; intro w4 hb7 hk4 hm4; rw [putCells_whole (by rfl)] at hb7; replace hb7 := hb7.congr (D := wordsA) (by simp); obtain ⟨hb2, hb3, hxw, hv3, hbig⟩ := (Outs.mk hb2 hb3 hxw hv3 hbig).alloc' hm4 (by omega); have hz4 := hb7.lt)
    | ((with_reducible show Calls _ 36 _ _ _); refine (Tryz.slices_Index_string w3.heap.size 0 8 8 wordsL word w4 (by decide) (by decide) (fun j hj => hb7.cell (by rw [Nat.zero_add]; exact wordsA_at j hj))).mono ?_; rintro e w5 ⟨rfl, rfl⟩; rw [show wordsL.take 8 = wordsL from rfl, HIX.out])
    | ((with_reducible show wpList _ _ _ (⟨none, .store 27 (.tmp 8) (.tmp 25), _, _, _, _⟩ :: _) _ _); refine wpList_store_new rfl 27 _ _ rfl w5.heap.size 0 _ rfl rfl (Blk.new w5 _ 27) (by show 0 + 36 ≤ 36; omega) (by kernel_rfl) (by simp [Value.oneCell']) ?_; intro w6 hb8 hk6 hm6; replace hb8 := hb8.congr (put_lit (k : Int) _ rfl); obtain ⟨hb2, hb3, hxw, hv3, hbig⟩ := (Outs.mk hb2 hb3 hxw hv3 hbig).alloc' hm6 (by omega); have hz6 := hb8.lt; have k8 : w6.cell? ⟨w5.heap.size, 0, none⟩ = some (.int .i64 (k : Int)) := hb8.cell (ccell_0 _))
    | ((with_reducible show Calls _ 37 _ _ _); refine (rest_any k hk1 hk7 s (by omega) at_ hat w6.heap.size w5.heap.size { Cmd.zero with kind := k } rfl _ (hv3.ext (Ext.alloc (Below.refl _ w6) _)) ((Blk.new w6 _ 65).congr (by rw [HB.out]; rfl)) (hb8.alloc _) (by omega) (by omega) (by omega)).mono ?_; rintro e8 w8 hrest; obtain ⟨rfl, hc8, hr8, hm8⟩ := hrest.yes HR.out; have r1 : w8.cell? ⟨w6.heap.size, 1, none⟩ = some (.int .i64 d) := hr8.cell rfl; obtain ⟨hb2, hb3, hxw, hv3, hbig⟩ := ((Outs.mk hb2 hb3 hxw hv3 hbig).ext (Ext.alloc (Below.refl _ w6) _)).mods hm8 (fun i hi => by rcases hi with rfl | rfl <;> omega))
    )
  refine wp_region_noPanic ?_
  refine wp_region_held_drew (S := fun w' => w'.cell? ⟨w6.heap.size, 1, none⟩ = some (.int .i64 d)) (by kernel_rfl) (hr8.drew.cell rfl) (fun hHeld => ?_)
  refine wpAnyH_take (i := 0) (v := ?v0) rfl (by kernel_rfl) (by kernel_rfl) (by kernel_rfl) (fun _ _ _ h => h) (Or.inl ⟨by rfl, ?hy0⟩) hHeld ?rest0
  case hy0 => ((intro w hSw); (try dsimp only at hSw); go_simp; try with_reducible rfl)
  simp only [Act.put, List.setIfInBounds_toArray, List.set_cons_zero, List.set_cons_succ]
  refine wpAnyH_take (i := 1) (v := ?v1) rfl (by kernel_rfl) (by kernel_rfl) (by kernel_rfl) (fun _ _ _ h => h) (Or.inl ⟨by rfl, ?hy1⟩) hHeld ?rest1
  case hy1 => ((intro w hSw); (try dsimp only at hSw); go_simp; try with_reducible rfl)
  simp only [Act.put, List.setIfInBounds_toArray, List.set_cons_zero, List.set_cons_succ]
  refine wpAnyH_take (i := 2) (v := ?v2) rfl (by kernel_rfl) (by kernel_rfl) (by kernel_rfl) (fun _ _ _ h => h) (Or.inl ⟨by rfl, ?hy2⟩) hHeld ?rest2
  case hy2 => ((intro w hSw); (try dsimp only at hSw); go_simp; try with_reducible rfl)
  simp only [Act.put, List.setIfInBounds_toArray, List.set_cons_zero, List.set_cons_succ]
  refine wpAnyH_take (i := 3) (v := ?v3) rfl (by kernel_rfl) (by kernel_rfl) (by kernel_rfl) (fun _ _ _ h => h) (Or.inl ⟨by rfl, ?hy3⟩) hHeld ?rest3
  case hy3 => ((intro w hSw); (try dsimp only at hSw); go_simp; try with_reducible rfl)
  simp only [Act.put, List.setIfInBounds_toArray, List.set_cons_zero, List.set_cons_succ]
  refine wpAnyH_take (i := 4) (v := ?v4) rfl (by kernel_rfl) (by kernel_rfl) (by kernel_rfl) (fun _ _ _ h => h) (Or.inl ⟨by rfl, ?hy4⟩) hHeld ?rest4
  case hy4 => ((intro w hSw); (try dsimp only at hSw); go_simp; try with_reducible rfl)
  simp only [Act.put, List.setIfInBounds_toArray, List.set_cons_zero, List.set_cons_succ]
  refine wpAnyH_take (i := 5) (v := ?v5) rfl (by kernel_rfl) (by kernel_rfl) (by kernel_rfl) (fun _ _ _ h => h) (Or.inl ⟨by rfl, ?hy5⟩) hHeld ?rest5
  case hy5 => ((intro w hSw); (try dsimp only at hSw); go_simp; try with_reducible rfl)
  simp only [Act.put, List.setIfInBounds_toArray, List.set_cons_zero, List.set_cons_succ]
  refine wpAnyH_store 6 ({ dst := none, op := Op.store 27 (Operand.tmp 2) (Operand.tmp 51), type := 0, pos := "line.go:175", after := #[{ on := 0, ground := Ground.data }, { on := 0, ground := Ground.phase }, { on := 1, ground := Ground.textOnly Departure.lateStores }, { on := 2, ground := Ground.textOnly Departure.lateStores }, { on := 3, ground := Ground.textOnly Departure.lateStores }, { on := 4, ground := Ground.textOnly Departure.lateStores }, { on := 5, ground := Ground.textOnly Departure.lateStores }], guard := none } : Oper) (by kernel_rfl) rfl rfl 27 (.tmp 2) (.tmp 51) rfl w.heap.size 0 zlit (by rfl) (by rfl) hb2.drew zlit_fits i27z zlit_one ?_
  intro w9 hb2' hk9 hm9
  have hr9 := hk9 _ _ _ (show w6.heap.size ≠ w.heap.size by omega) hr8.drew
  have hb3' := hk9 _ _ _ (show w.heap.size + 1 ≠ w.heap.size by omega) hb3.drew
  have hHeld9 : (fun w' => w'.cell? ⟨w6.heap.size, 1, none⟩ = some (.int .i64 d)) w9 := (hr9.cell rfl)
  refine ⟨hHeld9, ?_⟩
  simp only [Act.put, List.setIfInBounds_toArray, List.set_cons_zero, List.set_cons_succ]
  refine wpAnyH_store 7 ({ dst := none, op := Op.store 30 (Operand.tmp 3) (Operand.tmp 56), type := 0, pos := "line.go:175", after := #[{ on := 5, ground := Ground.data }, { on := 6, ground := Ground.chain }, { on := 0, ground := Ground.phase }, { on := 1, ground := Ground.phase }, { on := 2, ground := Ground.phase }, { on := 3, ground := Ground.phase }, { on := 4, ground := Ground.phase }, { on := 5, ground := Ground.phase }, { on := 6, ground := Ground.phase }], guard := none } : Oper) (by kernel_rfl) rfl rfl 30 (.tmp 3) (.tmp 56) rfl (w.heap.size + 1) 0 #[.int .i64 340, .int .i64 d] (by rfl) (by rfl) hb3' (Nat.le_refl 2) i30 (i30p _ _) ?_
  intro w10 hb3'' hk10 hm10
  have hr10 := hk10 _ _ _ (show w6.heap.size ≠ w.heap.size + 1 by omega) hr9
  refine ⟨(hr10.cell rfl), ?_⟩
  simp only [Act.put, List.setIfInBounds_toArray, List.set_cons_zero, List.set_cons_succ]
  refine wpAnyH_done (by kernel_rfl) ?_ _
  refine NoPanic.normal ?_
  go_wp2
  refine cmd_end' (c := Cmd.zero) rfl rfl rfl (hb2'.congr (put_lit 0 _ (ccell_size _))) hb3'' (Ext.drew hxw) hm9 hm10 hk10 fun w' hx => ⟨by rw [HRES.out], hx⟩

set_option maxHeartbeats 4000000 in
set_option maxRecDepth 100000 in
theorem cmd_good (s : ByteArray) (hl : ¬ 640 < s.size) (k : Nat) (hk : wordAt (s.extract 0 (blank s.data.toList)) = k) (hk1 : 1 ≤ k) (c' : Cmd) (d : Nat) (hR : restS k s (blank s.data.toList) { Cmd.zero with kind := k } = .ok (c', d)) (hd : ¬ d < s.size) (w : World) (hv : Vars w) : Calls Tryz.prog 13 #[.string s] w (CmdPost s w) := by
  have hl' : ¬ (640 : Int) < (s.size : Int) := by omega
  have hres : cmdRes s = (c', 0, 0) := by unfold cmdRes cmdOf; rw [if_neg hl]; simp only [hk, hR]; rw [if_neg (by omega), if_neg hd]
  have HRES := Lib.hid hres; clear hres
  have hcut := fun w' h' => cut_any s (by omega) w' h'
  obtain ⟨hk7, hix⟩ : k ≤ 7 ∧ Lib.idxOfS wordsL (s.extract 0 (blank s.data.toList)) = (k : Int) := by
    rcases wordAt_idx (s.extract 0 (blank s.data.toList)) with h | h
    · omega
    · rw [← hk]; exact h.2
  have HIX := Lib.hid hix; clear hix hk
  have HB := Lib.hid (show (s.extract 0 (blank s.data.toList)).size = blank s.data.toList by rw [ByteArray.size_extract]; have := blank_le s.data.toList; rw [size_list] at this; omega)
  have hat : blank s.data.toList ≤ s.size := by have := blank_le s.data.toList; rw [size_list] at this; exact this
  generalize s.extract 0 (blank s.data.toList) = word at hcut HIX HB
  generalize blank s.data.toList = at_ at *
  have V0 := Lib.hid (hv.ext ((Ext.alloc (Ext.alloc (Below.refl _ w) (.cells (ccell Cmd.zero) 27)) (.cells #[.int .i64 0, .int .i64 0] 30))))
  have H0 := Lib.hid (outs0 hv)
  rw [show ccell Cmd.zero = _ from ccell_lit 0] at V0 H0
  have h8 := hv.big
  have hki : ¬ (k : Int) < 1 := by omega
  clear hv
  have HR := Lib.hid hR; clear hR
  have hd2 : ¬ (d : Int) < (s.size : Int) := by omega
  go_enter Tryz.func13, Tryz.ntmps13
  go_wp2_with (first
    | ((with_reducible show Calls _ 34 _ _ _); refine (hcut _ V0.out).mono ?_; rintro e w1 ⟨⟨r, b, rfl⟩, n, rfl⟩)
    | ((with_reducible show Calls _ 35 _ _ _); refine (words_any _).mono ?_; rintro e w3 ⟨rfl, hx3⟩; obtain ⟨hb2, hb3, hxw, hv3, hbig⟩ := (H0.out n).ext hx3; have hz := hxw.size; have hz3 := hb3.lt)
    | ((with_reducible show wpList _ _ _ (⟨none, .store 60 (.tmp 7) (.tmp 21), _, _, _, _⟩ :: _) _ _); refine wpList_store_new rfl 60 _ _ rfl w3.heap.size 0 wordsA rfl rfl (Blk.new w3 _ 60) (by decide) i60 (by simp [wordsA, Value.oneCell']) ?_; intro w4 hb7 hk4 hm4; rw [putCells_whole (by rfl)] at hb7; replace hb7 := hb7.congr (D := wordsA) (by simp); obtain ⟨hb2, hb3, hxw, hv3, hbig⟩ := (Outs.mk hb2 hb3 hxw hv3 hbig).alloc' hm4 (by omega); have hz4 := hb7.lt)
    | ((with_reducible show Calls _ 36 _ _ _); refine (Tryz.slices_Index_string w3.heap.size 0 8 8 wordsL word w4 (by decide) (by decide) (fun j hj => hb7.cell (by rw [Nat.zero_add]; exact wordsA_at j hj))).mono ?_; rintro e w5 ⟨rfl, rfl⟩; rw [show wordsL.take 8 = wordsL from rfl, HIX.out])
    | ((with_reducible show wpList _ _ _ (⟨none, .store 27 (.tmp 8) (.tmp 25), _, _, _, _⟩ :: _) _ _); refine wpList_store_new rfl 27 _ _ rfl w5.heap.size 0 _ rfl rfl (Blk.new w5 _ 27) (by show 0 + 36 ≤ 36; omega) (by kernel_rfl) (by simp [Value.oneCell']) ?_; intro w6 hb8 hk6 hm6; replace hb8 := hb8.congr (put_lit (k : Int) _ rfl); obtain ⟨hb2, hb3, hxw, hv3, hbig⟩ := (Outs.mk hb2 hb3 hxw hv3 hbig).alloc' hm6 (by omega); have hz6 := hb8.lt; have k8 : w6.cell? ⟨w5.heap.size, 0, none⟩ = some (.int .i64 (k : Int)) := hb8.cell (ccell_0 _))
    | ((with_reducible show Calls _ 37 _ _ _); refine (rest_any k hk1 hk7 s (by omega) at_ hat w6.heap.size w5.heap.size { Cmd.zero with kind := k } rfl _ (hv3.ext (Ext.alloc (Below.refl _ w6) _)) ((Blk.new w6 _ 65).congr (by rw [HB.out]; rfl)) (hb8.alloc _) (by omega) (by omega) (by omega)).mono ?_; rintro e8 w8 hrest; obtain ⟨rfl, hc8, hr8, hm8⟩ := hrest.yes HR.out; have r1 : w8.cell? ⟨w6.heap.size, 1, none⟩ = some (.int .i64 d) := hr8.cell rfl; obtain ⟨hb2, hb3, hxw, hv3, hbig⟩ := ((Outs.mk hb2 hb3 hxw hv3 hbig).ext (Ext.alloc (Below.refl _ w6) _)).mods hm8 (fun i hi => by rcases hi with rfl | rfl <;> omega))
    | ((with_reducible show wpList _ _ _ (⟨some 57, .load 27 (.tmp 8), _, _, _, _⟩ :: _) _ _); refine wpList_load_blk rfl 27 _ rfl w5.heap.size 0 rfl (ccell c').toList _ hc8 (fun j hj => by simp) Tryz.underlying27 rfl (by rw [Array.length_toList]; exact i27k _) ?_; simp only [Array.toArray_toList])
    | ((with_reducible show wpList _ _ _ (⟨none, .store 27 (.tmp 2) (.tmp 57), _, _, _, _⟩ :: _) _ _); refine wpList_store_new rfl 27 _ _ rfl w.heap.size 0 (ccell c') rfl rfl hb2 (by rw [ccell_size, ccell_size]; exact Nat.le_refl _) (i27k _) (ccell_one _) ?_; intro w9 hb2' hk9 hm9; rw [put_cmd] at hb2'; have hb3' := hk9 _ _ _ (show w.heap.size + 1 ≠ w.heap.size by omega) hb3; have c0 : w9.cell? ⟨w.heap.size + 1, 0, none⟩ = some (.int .i64 0) := hb3'.cell rfl; have c1 : w9.cell? ⟨w.heap.size + 1, 1, none⟩ = some (.int .i64 0) := hb3'.cell rfl; have f0 := hb3'.free 0; have f1 := hb3'.free 1)
    )
  refine cmd_end (c := c') rfl rfl rfl hb2' hb3' hxw hm9 fun w' hx => ⟨by rw [HRES.out], hx⟩

/-- line.Command -/
theorem Command_any (s : ByteArray) (w : World) (hv : Vars w) : Calls Tryz.prog 13 #[.string s] w (CmdPost s w) := by
  by_cases hl : 640 < s.size
  · exact cmd_long s hl w
  · by_cases hk : wordAt (s.extract 0 (blank s.data.toList)) = 0
    · exact cmd_noword s hl hk w hv
    · cases hR : restS (wordAt (s.extract 0 (blank s.data.toList))) s (blank s.data.toList) { Cmd.zero with kind := (wordAt (s.extract 0 (blank s.data.toList)) : Nat) } with
      | error e => exact cmd_bad s hl _ rfl (by omega) e.1 e.2 hR w hv
      | ok r =>
        by_cases hd : r.2 < s.size
        · exact cmd_beyond s hl _ rfl (by omega) r.1 r.2 hR hd w hv
        · exact cmd_good s hl _ rfl (by omega) r.1 r.2 hR hd w hv

end Go.Proofs.YtigfkfjlfpndfaaGreatDoor
