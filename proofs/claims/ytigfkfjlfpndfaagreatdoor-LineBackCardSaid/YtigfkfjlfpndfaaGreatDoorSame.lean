/-
  line.same.
-/
import Derived.Test.YtigfkfjlfpndfaaGreatDoorPReply
namespace Go.Proofs.YtigfkfjlfpndfaaGreatDoor
open Go.RowKit Sp

/-! ### keys and counts compared -/
theorem key_eq (f g : Nat → Int) (hf : KeyR f) (hg : KeyR g) (w : World) : ∃ r : Bool, (Op.equalIn 10000 25 (.agg (kcell f)) (.agg (kcell g))).run Tryz.prog w = .ok r w ∧ (r = true ↔ ∀ j, j < 32 → f j = g j) := by
  have hform : ∀ c : Nat → Int, (Value.agg (kcell c)).formed Tryz.prog 25 = true := by
    intro c
    unfold Value.formed
    rw [Tryz.underlying25]
    have h32 : Tryz.prog.cellsOf 25 = 32 := by kernel_rfl
    simp [kcell_size, h32]
  obtain ⟨r, h1, h2⟩ := run_equalIn_deep (P := Tryz.prog) 9998 2 25 (by kernel_rfl) w 2 2 (.agg (kcell f)) (.agg (kcell g)) _ _ (hform f) (hform g) (by simpa [Value.cells] using lits25 f hf 0) (by simpa [Value.cells] using lits25 g hg 0)
  refine ⟨r, h1, h2.trans ?_⟩
  constructor
  · intro h j hj
    have := congrArg (fun l => l[j]?) h
    simp only [List.getElem?_map, List.getElem?_range hj, Option.map_some, Option.some.injEq, Lit.int.injEq, true_and] at this
    exact this
  · intro h
    exact List.map_congr_left fun j hj => by rw [h j (by simpa using hj)]
theorem lits112 (a b c d : Int) (ha : -9223372036854775808 ≤ a ∧ a ≤ 9223372036854775807) (hb : -9223372036854775808 ≤ b ∧ b ≤ 9223372036854775807) (hc : -9223372036854775808 ≤ c ∧ c ≤ 9223372036854775807) (hd : -9223372036854775808 ≤ d ∧ d ≤ 9223372036854775807) (n : Nat) :
    Tryz.prog.keyLits (n + 2) 112 [.int .i64 a, .int .i64 b, .int .i64 c, .int .i64 d] = some [.int .i64 a, .int .i64 b, .int .i64 c, .int .i64 d] := by
  unfold Program.keyLits
  rw [Tryz.underlying112]
  have h4 : Tryz.prog.cellsOf 112 = 4 := by kernel_rfl
  have h1 : Tryz.prog.cellsOf 3 = 1 := by kernel_rfl
  simp only [h4, h1]
  have e : List.range 4 = [0, 1, 2, 3] := rfl
  simp [e, lit_i64 a ha, lit_i64 b hb, lit_i64 c hc, lit_i64 d hd]
def I64 (a : Int) : Prop := -9223372036854775808 ≤ a ∧ a ≤ 9223372036854775807
theorem four_eq (a b c d x y z u : Int) (ha : I64 a) (hb : I64 b) (hc : I64 c) (hd : I64 d) (hx : I64 x) (hy : I64 y) (hz : I64 z) (hu : I64 u) (w : World) :
    ∃ r : Bool, (Op.equalIn 10000 112 (.agg #[.int .i64 a, .int .i64 b, .int .i64 c, .int .i64 d]) (.agg #[.int .i64 x, .int .i64 y, .int .i64 z, .int .i64 u])).run Tryz.prog w = .ok r w ∧ (r = true ↔ a = x ∧ b = y ∧ c = z ∧ d = u) := by
  have hform : ∀ a b c d : Int, (Value.agg #[.int .i64 a, .int .i64 b, .int .i64 c, .int .i64 d]).formed Tryz.prog 112 = true := by
    intro a b c d
    unfold Value.formed
    rw [Tryz.underlying112]
    have h4 : Tryz.prog.cellsOf 112 = 4 := by kernel_rfl
    simp [h4]
  obtain ⟨r, h1, h2⟩ := run_equalIn_deep (P := Tryz.prog) 9998 2 112 (by kernel_rfl) w 2 2 _ _ _ _ (hform a b c d) (hform x y z u) (by simpa [Value.cells] using lits112 a b c d ha hb hc hd 0) (by simpa [Value.cells] using lits112 x y z u hx hy hz hu 0)
  refine ⟨r, h1, h2.trans ?_⟩
  simp

/-! ### lists of texts compared -/
theorem bas_at (xs : List (List UInt8)) (j : Nat) (h : j < (bas xs).length) : (xs.map strV)[j]? = some (.string ((bas xs).getD j ByteArray.empty)) := by
  rw [bas_len] at h
  rw [bas_getD xs j h, List.getElem?_map, List.getElem?_eq_getElem h]; rfl
theorem bas_inj {xs ys : List (List UInt8)} : bas xs = bas ys ↔ xs = ys := by
  constructor
  · intro h
    have := congrArg (List.map bl) h
    unfold bas at this
    rw [List.map_map, List.map_map] at this
    have e : (bl ∘ fun p : List UInt8 => (⟨p.toArray⟩ : ByteArray)) = id := by funext p; rfl
    rw [e, List.map_id, List.map_id] at this
    exact this
  · intro h; rw [h]
theorem eq_list {w : World} {B B' : Nat} {v u : Value} {xs ys : List (List UInt8)} (hv : SlR w B v xs) (hu : SlR w B' u ys) (hx : xs.length ≤ 1000000) (hy : ys.length ≤ 1000000) :
    Calls Tryz.prog 76 #[v, u] w fun e w' => e = .returned (.bool (decide (xs = ys))) ∧ Ext w w' := by
  have lens : ∀ a a' c d, xs.length ≠ ys.length → v = .slice a xs.length c → u = .slice a' ys.length d → Calls Tryz.prog 76 #[v, u] w fun e w' => e = .returned (.bool (decide (xs = ys))) ∧ Ext w w' := by
    rintro a a' c d hne rfl rfl
    refine (Tryz.slices_Equal_string_lens a a' _ c _ d w hne).mono ?_
    rintro e w' ⟨rfl, rfl⟩
    refine ⟨?_, Below.refl _ _⟩
    rw [show decide (xs = ys) = false from by simpa using fun h => hne (by rw [h])]
  rcases hv with ⟨a, c, rfl, h1⟩ | ⟨g, o, c, C, t, h1, _, h3, h4⟩
  · have hx0 : xs = [] := by simpa using h1
    subst hx0
    rcases hu with ⟨a', c', rfl, h2⟩ | ⟨g', o', c', C', t', h2, _, h5, h6⟩
    · have hy0 : ys = [] := by simpa using h2
      subst hy0
      refine (Tryz.slices_Equal_string_empty a a' c 0 c' w (by omega)).mono ?_
      rintro e w' ⟨rfl, rfl⟩
      exact ⟨rfl, Below.refl _ _⟩
    · rw [List.length_map] at h2
      by_cases hy0 : ys.length = 0
      · subst h2
        have : ys = [] := List.length_eq_zero_iff.1 hy0
        subst this
        refine (Tryz.slices_Equal_string_empty a _ c 0 c' w (by omega)).mono ?_
        rintro e w' ⟨rfl, rfl⟩
        exact ⟨rfl, Below.refl _ _⟩
      · exact lens a _ c c' (by show 0 ≠ _; omega) rfl h2
  · rw [List.length_map] at h1
    rcases hu with ⟨a', c', rfl, h2⟩ | ⟨g', o', c', C', t', h2, _, h5, h6⟩
    · have hy0 : ys = [] := by simpa using h2
      subst hy0
      by_cases hx0 : xs.length = 0
      · have : xs = [] := List.length_eq_zero_iff.1 hx0
        subst this
        subst h1
        refine (Tryz.slices_Equal_string_empty _ a' c 0 c' w (by omega)).mono ?_
        rintro e w' ⟨rfl, rfl⟩
        exact ⟨rfl, Below.refl _ _⟩
      · exact lens _ a' c c' (by show _ ≠ 0; omega) h1 rfl
    · rw [List.length_map] at h2
      subst h1 h2
      refine (Tryz.slices_Equal_string g o xs.length c g' o' ys.length c' (bas xs) (bas ys) w (by rw [bas_len]; omega) (by rw [bas_len]; omega) (by omega) (by omega) (fun j hj => ?_) (fun j hj => ?_)).mono ?_
      · refine h3.cell ?_
        rw [h4 j (by rw [List.length_map]; rw [bas_len] at hj; exact hj), bas_at xs j hj]
      · refine h5.cell ?_
        rw [h6 j (by rw [List.length_map]; rw [bas_len] at hj; exact hj), bas_at ys j hj]
      · rintro e w' ⟨rfl, q, rfl⟩
        refine ⟨?_, Ext.drewN (Below.refl _ _) q⟩
        congr 2
        rw [List.take_of_length_le (by rw [bas_len]; omega), List.take_of_length_le (by rw [bas_len]; omega), decide_eq_decide, bas_inj]

/-- a reply as Go can hold it, its lists not too long -/
structure RepW (r : Rep) : Prop where
  kind : I64 r.kind
  key : KeyR r.key
  seq : I64 r.seq
  out : I64 r.out
  acked : I64 r.acked
  inn : I64 r.inn
  err : I64 r.err
  names : r.names.length ≤ 1000000
  texts : r.texts.length ≤ 1000000
def Rep.same (a b : Rep) : Prop := a.names = b.names ∧ a.texts = b.texts ∧ a.kind = b.kind ∧ (∀ j, j < 32 → a.key j = b.key j) ∧ a.err = b.err ∧ a.seq = b.seq ∧ a.out = b.out ∧ a.acked = b.acked ∧ a.inn = b.inn
open Classical in
noncomputable def sameB (a b : Rep) : Bool := decide (a.same b)
theorem wpList_loadK {ops : Array Oper} {rest : List Oper} {op : Oper} {a : Act} {w w0 : World} {Q : Exit → Act → World → Prop} {S : Nat → Prop} {L : List Ent} (hM : Mem w0 S w L) (hw : Region.wanted op (yielded ops a.tmps) = true) {x : Operand} (ho : op.op = .load 25 x) {b o : Nat} (hx : a.eval x = .pointer (some ⟨b, o, none⟩)) {own : Bool} {C : Array Value} {t : TypeId} (hi : Ent.blk own b C t ∈ L)
    {f : Nat → Int} (hc : ∀ j, j < 32 → C[o + j]? = (kcell f)[j]?) (h : wpList Tryz.prog ops Q rest (a.put op.dst (.agg (kcell f))) w) : wpList Tryz.prog ops Q (op :: rest) a w :=
  wpList_loadN hM hw ho hx hi (by decide +kernel) (kcell f) (i25k f) (fun j hj => hc j (by rw [kcell_size] at hj; exact hj)) h
set_option maxHeartbeats 2000000 in
set_option maxRecDepth 100000 in
theorem same_0 (a b : Rep) (nv tv nv' tv' : Value) (ha : RepW a) (hb : RepW b) (hn : a.names ≠ b.names) (w : World) (h1 : SlR w 0 nv a.names) (h2 : SlR w 0 tv a.texts) (h3 : SlR w 0 nv' b.names) (h4 : SlR w 0 tv' b.texts) : Calls Tryz.prog 47 #[.agg (pcell a nv tv), .agg (pcell b nv' tv')] w fun e w' => e = .returned (.bool false) ∧ Ext w w' := by
  have hM := Mem.start w NoS
  have HA := pc_of a nv tv
  have HB := pc_of b nv' tv'
  have heqn : ∀ w', Ext w w' → Calls Tryz.prog 76 #[nv, nv'] w' fun e w'' => e = .returned (.bool false) ∧ Ext w' w'' := fun w' h => (eq_list (h1.ext h) (h3.ext h) ha.names hb.names).mono fun e w'' ⟨h5, h6⟩ => ⟨by rw [h5]; simp [hn], h6⟩
  clear hn ha hb h1 h2 h3 h4
  generalize pcell a nv tv = KA at *
  generalize pcell b nv' tv' = KB at *
  go_enter Tryz.func47, Tryz.ntmps47
  go_wp2_with (first
    | ((with_reducible show wpList _ _ _ (⟨_, .load 25 _, _, _, _, _⟩ :: _) _ _); apply wpList_loadK hM; rfl; rfl; rfl; (focus (repeat (first | exact List.Mem.head _ | refine List.Mem.tail _ ?_))); (first | exact HA.key | exact HB.key))
    | ((with_reducible show wpList _ _ _ _ _ (World.alloc _ (Obj.cells _ _))); apply wpList_named hM; clear hM; intro _ hM) | ((with_reducible show wpList _ _ _ (⟨_, .load _ _, _, _, _, _⟩ :: _) _ _); apply wpList_load1 hM; rfl; rfl; rfl; (focus (repeat (first | exact List.Mem.head _ | refine List.Mem.tail _ ?_))); (decide +kernel); (first | (focus (first | exact HA.i0 | exact HA.i33 | exact HA.i34 | exact HA.i35 | exact HA.i36 | exact HA.i37 | exact HA.i38 | exact HA.i39 | exact HB.i0 | exact HB.i33 | exact HB.i34 | exact HB.i35 | exact HB.i36 | exact HB.i37 | exact HB.i38 | exact HB.i39)) | rfl)) | ((with_reducible show wpList _ _ _ (⟨_, .load _ _, _, _, _, _⟩ :: _) _ _); apply wpList_loadA hM; rfl; rfl; rfl; (focus (repeat (first | exact List.Mem.head _ | refine List.Mem.tail _ ?_))); (decide +kernel); (first | (focus fail) | kernel_rfl)) | ((with_reducible show wpList _ _ _ (⟨_, .store _ _ _, _, _, _, _⟩ :: _) _ _); apply wpList_store1 hM; rfl; rfl; rfl; (conv => lhs; whnf); (focus (repeat (first | exact Hole.head | apply Hole.tail))); (first | (focus fail) | exact Nat.le_of_ble_eq_true rfl | (simp; done)); (decide +kernel); (first | rfl | assumption | (apply Mem.rowOne hM; (focus (repeat (first | exact List.Mem.head _ | refine List.Mem.tail _ ?_))))); clear hM; intro _ hM; (try dsimp only at hM); (try simp only [List.setIfInBounds_toArray, List.set_cons_zero, List.set_cons_succ, List.nil_append, List.cons_append, List.length_map] at hM)) | ((with_reducible show wpList _ _ _ (⟨_, .store _ _ _, _, _, _, _⟩ :: _) _ _); apply wpList_storeA hM; rfl; rfl; rfl; (first | rfl | (conv => lhs; whnf)); (focus (repeat (first | exact Hole.head | apply Hole.tail))); (first | (focus fail) | rfl); (first | (focus fail) | kernel_rfl); (first | (focus fail) | exact all_mk rfl); clear hM; intro _ hM; (try dsimp only at hM))
    | ((with_reducible show Calls _ 76 #[nv, nv'] _ _); refine (heqn _ hM.ext0).mono ?_; rintro e _ ⟨rfl, hx2⟩; replace hM := hM.ext hx2; clear hx2)
    | ((with_reducible show Calls _ 76 _ _ _); refine (heqn _ hM.ext0).mono ?_; rintro e _ ⟨rfl, hx2⟩; replace hM := hM.ext hx2; clear hx2))
  go_ret
  exact ⟨rfl, hM.ext0⟩
set_option maxHeartbeats 2000000 in
set_option maxRecDepth 100000 in
theorem same_1 (a b : Rep) (nv tv nv' tv' : Value) (ha : RepW a) (hb : RepW b) (hn : a.names = b.names) (ht : a.texts ≠ b.texts) (w : World) (h1 : SlR w 0 nv a.names) (h2 : SlR w 0 tv a.texts) (h3 : SlR w 0 nv' b.names) (h4 : SlR w 0 tv' b.texts) : Calls Tryz.prog 47 #[.agg (pcell a nv tv), .agg (pcell b nv' tv')] w fun e w' => e = .returned (.bool false) ∧ Ext w w' := by
  have hM := Mem.start w NoS
  have HA := pc_of a nv tv
  have HB := pc_of b nv' tv'
  have heqn : ∀ w', Ext w w' → Calls Tryz.prog 76 #[nv, nv'] w' fun e w'' => e = .returned (.bool true) ∧ Ext w' w'' := fun w' h => (eq_list (h1.ext h) (h3.ext h) ha.names hb.names).mono fun e w'' ⟨h5, h6⟩ => ⟨by rw [h5]; simp [hn], h6⟩
  have heqt : ∀ w', Ext w w' → Calls Tryz.prog 76 #[tv, tv'] w' fun e w'' => e = .returned (.bool false) ∧ Ext w' w'' := fun w' h => (eq_list (h2.ext h) (h4.ext h) ha.texts hb.texts).mono fun e w'' ⟨h5, h6⟩ => ⟨by rw [h5]; simp [ht], h6⟩
  clear hn ht ha hb h1 h2 h3 h4
  generalize pcell a nv tv = KA at *
  generalize pcell b nv' tv' = KB at *
  go_enter Tryz.func47, Tryz.ntmps47
  go_wp2_with (first
    | ((with_reducible show wpList _ _ _ (⟨_, .load 25 _, _, _, _, _⟩ :: _) _ _); apply wpList_loadK hM; rfl; rfl; rfl; (focus (repeat (first | exact List.Mem.head _ | refine List.Mem.tail _ ?_))); (first | exact HA.key | exact HB.key))
    | ((with_reducible show wpList _ _ _ _ _ (World.alloc _ (Obj.cells _ _))); apply wpList_named hM; clear hM; intro _ hM) | ((with_reducible show wpList _ _ _ (⟨_, .load _ _, _, _, _, _⟩ :: _) _ _); apply wpList_load1 hM; rfl; rfl; rfl; (focus (repeat (first | exact List.Mem.head _ | refine List.Mem.tail _ ?_))); (decide +kernel); (first | (focus (first | exact HA.i0 | exact HA.i33 | exact HA.i34 | exact HA.i35 | exact HA.i36 | exact HA.i37 | exact HA.i38 | exact HA.i39 | exact HB.i0 | exact HB.i33 | exact HB.i34 | exact HB.i35 | exact HB.i36 | exact HB.i37 | exact HB.i38 | exact HB.i39)) | rfl)) | ((with_reducible show wpList _ _ _ (⟨_, .load _ _, _, _, _, _⟩ :: _) _ _); apply wpList_loadA hM; rfl; rfl; rfl; (focus (repeat (first | exact List.Mem.head _ | refine List.Mem.tail _ ?_))); (decide +kernel); (first | (focus fail) | kernel_rfl)) | ((with_reducible show wpList _ _ _ (⟨_, .store _ _ _, _, _, _, _⟩ :: _) _ _); apply wpList_store1 hM; rfl; rfl; rfl; (conv => lhs; whnf); (focus (repeat (first | exact Hole.head | apply Hole.tail))); (first | (focus fail) | exact Nat.le_of_ble_eq_true rfl | (simp; done)); (decide +kernel); (first | rfl | assumption | (apply Mem.rowOne hM; (focus (repeat (first | exact List.Mem.head _ | refine List.Mem.tail _ ?_))))); clear hM; intro _ hM; (try dsimp only at hM); (try simp only [List.setIfInBounds_toArray, List.set_cons_zero, List.set_cons_succ, List.nil_append, List.cons_append, List.length_map] at hM)) | ((with_reducible show wpList _ _ _ (⟨_, .store _ _ _, _, _, _, _⟩ :: _) _ _); apply wpList_storeA hM; rfl; rfl; rfl; (first | rfl | (conv => lhs; whnf)); (focus (repeat (first | exact Hole.head | apply Hole.tail))); (first | (focus fail) | rfl); (first | (focus fail) | kernel_rfl); (first | (focus fail) | exact all_mk rfl); clear hM; intro _ hM; (try dsimp only at hM))
    | ((with_reducible show Calls _ 76 #[nv, nv'] _ _); refine (heqn _ hM.ext0).mono ?_; rintro e _ ⟨rfl, hx2⟩; replace hM := hM.ext hx2; clear hx2)
    | ((with_reducible show Calls _ 76 _ _ _); refine (heqt _ hM.ext0).mono ?_; rintro e _ ⟨rfl, hx2⟩; replace hM := hM.ext hx2; clear hx2))
  go_ret
  exact ⟨rfl, hM.ext0⟩
set_option maxHeartbeats 2000000 in
set_option maxRecDepth 100000 in
theorem same_2 (a b : Rep) (nv tv nv' tv' : Value) (ha : RepW a) (hb : RepW b) (hn : a.names = b.names) (ht : a.texts = b.texts) (hk : a.kind ≠ b.kind) (w : World) (h1 : SlR w 0 nv a.names) (h2 : SlR w 0 tv a.texts) (h3 : SlR w 0 nv' b.names) (h4 : SlR w 0 tv' b.texts) : Calls Tryz.prog 47 #[.agg (pcell a nv tv), .agg (pcell b nv' tv')] w fun e w' => e = .returned (.bool false) ∧ Ext w w' := by
  have hM := Mem.start w NoS
  have HA := pc_of a nv tv
  have HB := pc_of b nv' tv'
  have heqn : ∀ w', Ext w w' → Calls Tryz.prog 76 #[nv, nv'] w' fun e w'' => e = .returned (.bool true) ∧ Ext w' w'' := fun w' h => (eq_list (h1.ext h) (h3.ext h) ha.names hb.names).mono fun e w'' ⟨h5, h6⟩ => ⟨by rw [h5]; simp [hn], h6⟩
  have heqt : ∀ w', Ext w w' → Calls Tryz.prog 76 #[tv, tv'] w' fun e w'' => e = .returned (.bool true) ∧ Ext w' w'' := fun w' h => (eq_list (h2.ext h) (h4.ext h) ha.texts hb.texts).mono fun e w'' ⟨h5, h6⟩ => ⟨by rw [h5]; simp [ht], h6⟩
  have ek : (a.kind == b.kind) = false := by simpa using hk
  clear hn ht hk ha hb h1 h2 h3 h4
  generalize pcell a nv tv = KA at *
  generalize pcell b nv' tv' = KB at *
  go_enter Tryz.func47, Tryz.ntmps47
  go_wp2_with (first
    | ((with_reducible show wpList _ _ _ (⟨_, .load 25 _, _, _, _, _⟩ :: _) _ _); apply wpList_loadK hM; rfl; rfl; rfl; (focus (repeat (first | exact List.Mem.head _ | refine List.Mem.tail _ ?_))); (first | exact HA.key | exact HB.key))
    | ((with_reducible show wpList _ _ _ _ _ (World.alloc _ (Obj.cells _ _))); apply wpList_named hM; clear hM; intro _ hM) | ((with_reducible show wpList _ _ _ (⟨_, .load _ _, _, _, _, _⟩ :: _) _ _); apply wpList_load1 hM; rfl; rfl; rfl; (focus (repeat (first | exact List.Mem.head _ | refine List.Mem.tail _ ?_))); (decide +kernel); (first | (focus (first | exact HA.i0 | exact HA.i33 | exact HA.i34 | exact HA.i35 | exact HA.i36 | exact HA.i37 | exact HA.i38 | exact HA.i39 | exact HB.i0 | exact HB.i33 | exact HB.i34 | exact HB.i35 | exact HB.i36 | exact HB.i37 | exact HB.i38 | exact HB.i39)) | rfl)) | ((with_reducible show wpList _ _ _ (⟨_, .load _ _, _, _, _, _⟩ :: _) _ _); apply wpList_loadA hM; rfl; rfl; rfl; (focus (repeat (first | exact List.Mem.head _ | refine List.Mem.tail _ ?_))); (decide +kernel); (first | (focus fail) | kernel_rfl)) | ((with_reducible show wpList _ _ _ (⟨_, .store _ _ _, _, _, _, _⟩ :: _) _ _); apply wpList_store1 hM; rfl; rfl; rfl; (conv => lhs; whnf); (focus (repeat (first | exact Hole.head | apply Hole.tail))); (first | (focus fail) | exact Nat.le_of_ble_eq_true rfl | (simp; done)); (decide +kernel); (first | rfl | assumption | (apply Mem.rowOne hM; (focus (repeat (first | exact List.Mem.head _ | refine List.Mem.tail _ ?_))))); clear hM; intro _ hM; (try dsimp only at hM); (try simp only [List.setIfInBounds_toArray, List.set_cons_zero, List.set_cons_succ, List.nil_append, List.cons_append, List.length_map] at hM)) | ((with_reducible show wpList _ _ _ (⟨_, .store _ _ _, _, _, _, _⟩ :: _) _ _); apply wpList_storeA hM; rfl; rfl; rfl; (first | rfl | (conv => lhs; whnf)); (focus (repeat (first | exact Hole.head | apply Hole.tail))); (first | (focus fail) | rfl); (first | (focus fail) | kernel_rfl); (first | (focus fail) | exact all_mk rfl); clear hM; intro _ hM; (try dsimp only at hM))
    | ((with_reducible show Calls _ 76 #[nv, nv'] _ _); refine (heqn _ hM.ext0).mono ?_; rintro e _ ⟨rfl, hx2⟩; replace hM := hM.ext hx2; clear hx2)
    | ((with_reducible show Calls _ 76 _ _ _); refine (heqt _ hM.ext0).mono ?_; rintro e _ ⟨rfl, hx2⟩; replace hM := hM.ext hx2; clear hx2))
  go_ret
  exact ⟨rfl, hM.ext0⟩
set_option maxHeartbeats 2000000 in
set_option maxRecDepth 100000 in
theorem same_3 (a b : Rep) (nv tv nv' tv' : Value) (ha : RepW a) (hb : RepW b) (hn : a.names = b.names) (ht : a.texts = b.texts) (hk : a.kind = b.kind) (hf : ¬ ∀ j, j < 32 → a.key j = b.key j) (w : World) (h1 : SlR w 0 nv a.names) (h2 : SlR w 0 tv a.texts) (h3 : SlR w 0 nv' b.names) (h4 : SlR w 0 tv' b.texts) : Calls Tryz.prog 47 #[.agg (pcell a nv tv), .agg (pcell b nv' tv')] w fun e w' => e = .returned (.bool false) ∧ Ext w w' := by
  have hM := Mem.start w NoS
  have HA := pc_of a nv tv
  have HB := pc_of b nv' tv'
  have heqn : ∀ w', Ext w w' → Calls Tryz.prog 76 #[nv, nv'] w' fun e w'' => e = .returned (.bool true) ∧ Ext w' w'' := fun w' h => (eq_list (h1.ext h) (h3.ext h) ha.names hb.names).mono fun e w'' ⟨h5, h6⟩ => ⟨by rw [h5]; simp [hn], h6⟩
  have heqt : ∀ w', Ext w w' → Calls Tryz.prog 76 #[tv, tv'] w' fun e w'' => e = .returned (.bool true) ∧ Ext w' w'' := fun w' h => (eq_list (h2.ext h) (h4.ext h) ha.texts hb.texts).mono fun e w'' ⟨h5, h6⟩ => ⟨by rw [h5]; simp [ht], h6⟩
  have ek : (a.kind == b.kind) = true := by simpa using hk
  have ef : ∀ w', (Op.equalIn 10000 25 (.agg (kcell a.key)) (.agg (kcell b.key))).run Tryz.prog w' = .ok false w' := fun w' => by
    obtain ⟨r, h5, h6⟩ := key_eq a.key b.key ha.key hb.key w'
    rw [h5]; congr 1; cases r; rfl; exact absurd (h6.1 rfl) hf
  clear hn ht hk hf ha hb h1 h2 h3 h4
  generalize pcell a nv tv = KA at *
  generalize pcell b nv' tv' = KB at *
  go_enter Tryz.func47, Tryz.ntmps47
  go_wp2_with (first
    | ((with_reducible show wpList _ _ _ (⟨_, .load 25 _, _, _, _, _⟩ :: _) _ _); apply wpList_loadK hM; rfl; rfl; rfl; (focus (repeat (first | exact List.Mem.head _ | refine List.Mem.tail _ ?_))); (first | exact HA.key | exact HB.key))
    | ((with_reducible show wpList _ _ _ _ _ (World.alloc _ (Obj.cells _ _))); apply wpList_named hM; clear hM; intro _ hM) | ((with_reducible show wpList _ _ _ (⟨_, .load _ _, _, _, _, _⟩ :: _) _ _); apply wpList_load1 hM; rfl; rfl; rfl; (focus (repeat (first | exact List.Mem.head _ | refine List.Mem.tail _ ?_))); (decide +kernel); (first | (focus (first | exact HA.i0 | exact HA.i33 | exact HA.i34 | exact HA.i35 | exact HA.i36 | exact HA.i37 | exact HA.i38 | exact HA.i39 | exact HB.i0 | exact HB.i33 | exact HB.i34 | exact HB.i35 | exact HB.i36 | exact HB.i37 | exact HB.i38 | exact HB.i39)) | rfl)) | ((with_reducible show wpList _ _ _ (⟨_, .load _ _, _, _, _, _⟩ :: _) _ _); apply wpList_loadA hM; rfl; rfl; rfl; (focus (repeat (first | exact List.Mem.head _ | refine List.Mem.tail _ ?_))); (decide +kernel); (first | (focus fail) | kernel_rfl)) | ((with_reducible show wpList _ _ _ (⟨_, .store _ _ _, _, _, _, _⟩ :: _) _ _); apply wpList_store1 hM; rfl; rfl; rfl; (conv => lhs; whnf); (focus (repeat (first | exact Hole.head | apply Hole.tail))); (first | (focus fail) | exact Nat.le_of_ble_eq_true rfl | (simp; done)); (decide +kernel); (first | rfl | assumption | (apply Mem.rowOne hM; (focus (repeat (first | exact List.Mem.head _ | refine List.Mem.tail _ ?_))))); clear hM; intro _ hM; (try dsimp only at hM); (try simp only [List.setIfInBounds_toArray, List.set_cons_zero, List.set_cons_succ, List.nil_append, List.cons_append, List.length_map] at hM)) | ((with_reducible show wpList _ _ _ (⟨_, .store _ _ _, _, _, _, _⟩ :: _) _ _); apply wpList_storeA hM; rfl; rfl; rfl; (first | rfl | (conv => lhs; whnf)); (focus (repeat (first | exact Hole.head | apply Hole.tail))); (first | (focus fail) | rfl); (first | (focus fail) | kernel_rfl); (first | (focus fail) | exact all_mk rfl); clear hM; intro _ hM; (try dsimp only at hM))
    | ((with_reducible show Calls _ 76 #[nv, nv'] _ _); refine (heqn _ hM.ext0).mono ?_; rintro e _ ⟨rfl, hx2⟩; replace hM := hM.ext hx2; clear hx2)
    | ((with_reducible show Calls _ 76 _ _ _); refine (heqt _ hM.ext0).mono ?_; rintro e _ ⟨rfl, hx2⟩; replace hM := hM.ext hx2; clear hx2))
  go_ret
  exact ⟨rfl, hM.ext0⟩
set_option maxHeartbeats 2000000 in
set_option maxRecDepth 100000 in
theorem same_4 (a b : Rep) (nv tv nv' tv' : Value) (ha : RepW a) (hb : RepW b) (hn : a.names = b.names) (ht : a.texts = b.texts) (hk : a.kind = b.kind) (hf : ∀ j, j < 32 → a.key j = b.key j) (he : a.err ≠ b.err) (w : World) (h1 : SlR w 0 nv a.names) (h2 : SlR w 0 tv a.texts) (h3 : SlR w 0 nv' b.names) (h4 : SlR w 0 tv' b.texts) : Calls Tryz.prog 47 #[.agg (pcell a nv tv), .agg (pcell b nv' tv')] w fun e w' => e = .returned (.bool false) ∧ Ext w w' := by
  have hM := Mem.start w NoS
  have HA := pc_of a nv tv
  have HB := pc_of b nv' tv'
  have heqn : ∀ w', Ext w w' → Calls Tryz.prog 76 #[nv, nv'] w' fun e w'' => e = .returned (.bool true) ∧ Ext w' w'' := fun w' h => (eq_list (h1.ext h) (h3.ext h) ha.names hb.names).mono fun e w'' ⟨h5, h6⟩ => ⟨by rw [h5]; simp [hn], h6⟩
  have heqt : ∀ w', Ext w w' → Calls Tryz.prog 76 #[tv, tv'] w' fun e w'' => e = .returned (.bool true) ∧ Ext w' w'' := fun w' h => (eq_list (h2.ext h) (h4.ext h) ha.texts hb.texts).mono fun e w'' ⟨h5, h6⟩ => ⟨by rw [h5]; simp [ht], h6⟩
  have ek : (a.kind == b.kind) = true := by simpa using hk
  have ef : ∀ w', (Op.equalIn 10000 25 (.agg (kcell a.key)) (.agg (kcell b.key))).run Tryz.prog w' = .ok true w' := fun w' => by
    obtain ⟨r, h5, h6⟩ := key_eq a.key b.key ha.key hb.key w'
    rw [h5]; congr 1; exact h6.2 hf
  have ee : (a.err == b.err) = false := by simpa using he
  clear hn ht hk hf he ha hb h1 h2 h3 h4
  generalize pcell a nv tv = KA at *
  generalize pcell b nv' tv' = KB at *
  go_enter Tryz.func47, Tryz.ntmps47
  go_wp2_with (first
    | ((with_reducible show wpList _ _ _ (⟨_, .load 25 _, _, _, _, _⟩ :: _) _ _); apply wpList_loadK hM; rfl; rfl; rfl; (focus (repeat (first | exact List.Mem.head _ | refine List.Mem.tail _ ?_))); (first | exact HA.key | exact HB.key))
    | ((with_reducible show wpList _ _ _ _ _ (World.alloc _ (Obj.cells _ _))); apply wpList_named hM; clear hM; intro _ hM) | ((with_reducible show wpList _ _ _ (⟨_, .load _ _, _, _, _, _⟩ :: _) _ _); apply wpList_load1 hM; rfl; rfl; rfl; (focus (repeat (first | exact List.Mem.head _ | refine List.Mem.tail _ ?_))); (decide +kernel); (first | (focus (first | exact HA.i0 | exact HA.i33 | exact HA.i34 | exact HA.i35 | exact HA.i36 | exact HA.i37 | exact HA.i38 | exact HA.i39 | exact HB.i0 | exact HB.i33 | exact HB.i34 | exact HB.i35 | exact HB.i36 | exact HB.i37 | exact HB.i38 | exact HB.i39)) | rfl)) | ((with_reducible show wpList _ _ _ (⟨_, .load _ _, _, _, _, _⟩ :: _) _ _); apply wpList_loadA hM; rfl; rfl; rfl; (focus (repeat (first | exact List.Mem.head _ | refine List.Mem.tail _ ?_))); (decide +kernel); (first | (focus fail) | kernel_rfl)) | ((with_reducible show wpList _ _ _ (⟨_, .store _ _ _, _, _, _, _⟩ :: _) _ _); apply wpList_store1 hM; rfl; rfl; rfl; (conv => lhs; whnf); (focus (repeat (first | exact Hole.head | apply Hole.tail))); (first | (focus fail) | exact Nat.le_of_ble_eq_true rfl | (simp; done)); (decide +kernel); (first | rfl | assumption | (apply Mem.rowOne hM; (focus (repeat (first | exact List.Mem.head _ | refine List.Mem.tail _ ?_))))); clear hM; intro _ hM; (try dsimp only at hM); (try simp only [List.setIfInBounds_toArray, List.set_cons_zero, List.set_cons_succ, List.nil_append, List.cons_append, List.length_map] at hM)) | ((with_reducible show wpList _ _ _ (⟨_, .store _ _ _, _, _, _, _⟩ :: _) _ _); apply wpList_storeA hM; rfl; rfl; rfl; (first | rfl | (conv => lhs; whnf)); (focus (repeat (first | exact Hole.head | apply Hole.tail))); (first | (focus fail) | rfl); (first | (focus fail) | kernel_rfl); (first | (focus fail) | exact all_mk rfl); clear hM; intro _ hM; (try dsimp only at hM))
    | ((with_reducible show Calls _ 76 #[nv, nv'] _ _); refine (heqn _ hM.ext0).mono ?_; rintro e _ ⟨rfl, hx2⟩; replace hM := hM.ext hx2; clear hx2)
    | ((with_reducible show Calls _ 76 _ _ _); refine (heqt _ hM.ext0).mono ?_; rintro e _ ⟨rfl, hx2⟩; replace hM := hM.ext hx2; clear hx2))
  go_ret
  exact ⟨rfl, hM.ext0⟩
set_option maxHeartbeats 2000000 in
set_option maxRecDepth 100000 in
theorem same_5 (a b : Rep) (nv tv nv' tv' : Value) (ha : RepW a) (hb : RepW b) (hn : a.names = b.names) (ht : a.texts = b.texts) (hk : a.kind = b.kind) (hf : ∀ j, j < 32 → a.key j = b.key j) (he : a.err = b.err) (hc : ¬ (a.seq = b.seq ∧ a.out = b.out ∧ a.acked = b.acked ∧ a.inn = b.inn)) (w : World) (h1 : SlR w 0 nv a.names) (h2 : SlR w 0 tv a.texts) (h3 : SlR w 0 nv' b.names) (h4 : SlR w 0 tv' b.texts) : Calls Tryz.prog 47 #[.agg (pcell a nv tv), .agg (pcell b nv' tv')] w fun e w' => e = .returned (.bool false) ∧ Ext w w' := by
  have hM := Mem.start w NoS
  have HA := pc_of a nv tv
  have HB := pc_of b nv' tv'
  have heqn : ∀ w', Ext w w' → Calls Tryz.prog 76 #[nv, nv'] w' fun e w'' => e = .returned (.bool true) ∧ Ext w' w'' := fun w' h => (eq_list (h1.ext h) (h3.ext h) ha.names hb.names).mono fun e w'' ⟨h5, h6⟩ => ⟨by rw [h5]; simp [hn], h6⟩
  have heqt : ∀ w', Ext w w' → Calls Tryz.prog 76 #[tv, tv'] w' fun e w'' => e = .returned (.bool true) ∧ Ext w' w'' := fun w' h => (eq_list (h2.ext h) (h4.ext h) ha.texts hb.texts).mono fun e w'' ⟨h5, h6⟩ => ⟨by rw [h5]; simp [ht], h6⟩
  have ek : (a.kind == b.kind) = true := by simpa using hk
  have ef : ∀ w', (Op.equalIn 10000 25 (.agg (kcell a.key)) (.agg (kcell b.key))).run Tryz.prog w' = .ok true w' := fun w' => by
    obtain ⟨r, h5, h6⟩ := key_eq a.key b.key ha.key hb.key w'
    rw [h5]; congr 1; exact h6.2 hf
  have ee : (a.err == b.err) = true := by simpa using he
  have ec : ∀ w', (Op.equalIn 10000 112 (.agg #[.int .i64 a.seq, .int .i64 a.out, .int .i64 a.acked, .int .i64 a.inn]) (.agg #[.int .i64 b.seq, .int .i64 b.out, .int .i64 b.acked, .int .i64 b.inn])).run Tryz.prog w' = .ok false w' := fun w' => by
    obtain ⟨r, h5, h6⟩ := four_eq _ _ _ _ _ _ _ _ ha.seq ha.out ha.acked ha.inn hb.seq hb.out hb.acked hb.inn w'
    rw [h5]; congr 1; cases r; rfl; exact absurd (h6.1 rfl) hc
  clear hn ht hk hf he hc ha hb h1 h2 h3 h4
  generalize pcell a nv tv = KA at *
  generalize pcell b nv' tv' = KB at *
  go_enter Tryz.func47, Tryz.ntmps47
  go_wp2_with (first
    | ((with_reducible show wpList _ _ _ (⟨_, .load 25 _, _, _, _, _⟩ :: _) _ _); apply wpList_loadK hM; rfl; rfl; rfl; (focus (repeat (first | exact List.Mem.head _ | refine List.Mem.tail _ ?_))); (first | exact HA.key | exact HB.key))
    | ((with_reducible show wpList _ _ _ _ _ (World.alloc _ (Obj.cells _ _))); apply wpList_named hM; clear hM; intro _ hM) | ((with_reducible show wpList _ _ _ (⟨_, .load _ _, _, _, _, _⟩ :: _) _ _); apply wpList_load1 hM; rfl; rfl; rfl; (focus (repeat (first | exact List.Mem.head _ | refine List.Mem.tail _ ?_))); (decide +kernel); (first | (focus (first | exact HA.i0 | exact HA.i33 | exact HA.i34 | exact HA.i35 | exact HA.i36 | exact HA.i37 | exact HA.i38 | exact HA.i39 | exact HB.i0 | exact HB.i33 | exact HB.i34 | exact HB.i35 | exact HB.i36 | exact HB.i37 | exact HB.i38 | exact HB.i39)) | rfl)) | ((with_reducible show wpList _ _ _ (⟨_, .load _ _, _, _, _, _⟩ :: _) _ _); apply wpList_loadA hM; rfl; rfl; rfl; (focus (repeat (first | exact List.Mem.head _ | refine List.Mem.tail _ ?_))); (decide +kernel); (first | (focus fail) | kernel_rfl)) | ((with_reducible show wpList _ _ _ (⟨_, .store _ _ _, _, _, _, _⟩ :: _) _ _); apply wpList_store1 hM; rfl; rfl; rfl; (conv => lhs; whnf); (focus (repeat (first | exact Hole.head | apply Hole.tail))); (first | (focus fail) | exact Nat.le_of_ble_eq_true rfl | (simp; done)); (decide +kernel); (first | rfl | assumption | (apply Mem.rowOne hM; (focus (repeat (first | exact List.Mem.head _ | refine List.Mem.tail _ ?_))))); clear hM; intro _ hM; (try dsimp only at hM); (try simp only [List.setIfInBounds_toArray, List.set_cons_zero, List.set_cons_succ, List.nil_append, List.cons_append, List.length_map] at hM)) | ((with_reducible show wpList _ _ _ (⟨_, .store _ _ _, _, _, _, _⟩ :: _) _ _); apply wpList_storeA hM; rfl; rfl; rfl; (first | rfl | (conv => lhs; whnf)); (focus (repeat (first | exact Hole.head | apply Hole.tail))); (first | (focus fail) | rfl); (first | (focus fail) | kernel_rfl); (first | (focus fail) | exact all_mk rfl); clear hM; intro _ hM; (try dsimp only at hM))
    | ((with_reducible show Calls _ 76 #[nv, nv'] _ _); refine (heqn _ hM.ext0).mono ?_; rintro e _ ⟨rfl, hx2⟩; replace hM := hM.ext hx2; clear hx2)
    | ((with_reducible show Calls _ 76 _ _ _); refine (heqt _ hM.ext0).mono ?_; rintro e _ ⟨rfl, hx2⟩; replace hM := hM.ext hx2; clear hx2))
  go_ret
  exact ⟨rfl, hM.ext0⟩
set_option maxHeartbeats 2000000 in
set_option maxRecDepth 100000 in
theorem same_6 (a b : Rep) (nv tv nv' tv' : Value) (ha : RepW a) (hb : RepW b) (hn : a.names = b.names) (ht : a.texts = b.texts) (hk : a.kind = b.kind) (hf : ∀ j, j < 32 → a.key j = b.key j) (he : a.err = b.err) (hc : (a.seq = b.seq ∧ a.out = b.out ∧ a.acked = b.acked ∧ a.inn = b.inn)) (w : World) (h1 : SlR w 0 nv a.names) (h2 : SlR w 0 tv a.texts) (h3 : SlR w 0 nv' b.names) (h4 : SlR w 0 tv' b.texts) : Calls Tryz.prog 47 #[.agg (pcell a nv tv), .agg (pcell b nv' tv')] w fun e w' => e = .returned (.bool true) ∧ Ext w w' := by
  have hM := Mem.start w NoS
  have HA := pc_of a nv tv
  have HB := pc_of b nv' tv'
  have heqn : ∀ w', Ext w w' → Calls Tryz.prog 76 #[nv, nv'] w' fun e w'' => e = .returned (.bool true) ∧ Ext w' w'' := fun w' h => (eq_list (h1.ext h) (h3.ext h) ha.names hb.names).mono fun e w'' ⟨h5, h6⟩ => ⟨by rw [h5]; simp [hn], h6⟩
  have heqt : ∀ w', Ext w w' → Calls Tryz.prog 76 #[tv, tv'] w' fun e w'' => e = .returned (.bool true) ∧ Ext w' w'' := fun w' h => (eq_list (h2.ext h) (h4.ext h) ha.texts hb.texts).mono fun e w'' ⟨h5, h6⟩ => ⟨by rw [h5]; simp [ht], h6⟩
  have ek : (a.kind == b.kind) = true := by simpa using hk
  have ef : ∀ w', (Op.equalIn 10000 25 (.agg (kcell a.key)) (.agg (kcell b.key))).run Tryz.prog w' = .ok true w' := fun w' => by
    obtain ⟨r, h5, h6⟩ := key_eq a.key b.key ha.key hb.key w'
    rw [h5]; congr 1; exact h6.2 hf
  have ee : (a.err == b.err) = true := by simpa using he
  have ec : ∀ w', (Op.equalIn 10000 112 (.agg #[.int .i64 a.seq, .int .i64 a.out, .int .i64 a.acked, .int .i64 a.inn]) (.agg #[.int .i64 b.seq, .int .i64 b.out, .int .i64 b.acked, .int .i64 b.inn])).run Tryz.prog w' = .ok true w' := fun w' => by
    obtain ⟨r, h5, h6⟩ := four_eq _ _ _ _ _ _ _ _ ha.seq ha.out ha.acked ha.inn hb.seq hb.out hb.acked hb.inn w'
    rw [h5]; congr 1; exact h6.2 hc
  clear hn ht hk hf he hc ha hb h1 h2 h3 h4
  generalize pcell a nv tv = KA at *
  generalize pcell b nv' tv' = KB at *
  go_enter Tryz.func47, Tryz.ntmps47
  go_wp2_with (first
    | ((with_reducible show wpList _ _ _ (⟨_, .load 25 _, _, _, _, _⟩ :: _) _ _); apply wpList_loadK hM; rfl; rfl; rfl; (focus (repeat (first | exact List.Mem.head _ | refine List.Mem.tail _ ?_))); (first | exact HA.key | exact HB.key))
    | ((with_reducible show wpList _ _ _ _ _ (World.alloc _ (Obj.cells _ _))); apply wpList_named hM; clear hM; intro _ hM) | ((with_reducible show wpList _ _ _ (⟨_, .load _ _, _, _, _, _⟩ :: _) _ _); apply wpList_load1 hM; rfl; rfl; rfl; (focus (repeat (first | exact List.Mem.head _ | refine List.Mem.tail _ ?_))); (decide +kernel); (first | (focus (first | exact HA.i0 | exact HA.i33 | exact HA.i34 | exact HA.i35 | exact HA.i36 | exact HA.i37 | exact HA.i38 | exact HA.i39 | exact HB.i0 | exact HB.i33 | exact HB.i34 | exact HB.i35 | exact HB.i36 | exact HB.i37 | exact HB.i38 | exact HB.i39)) | rfl)) | ((with_reducible show wpList _ _ _ (⟨_, .load _ _, _, _, _, _⟩ :: _) _ _); apply wpList_loadA hM; rfl; rfl; rfl; (focus (repeat (first | exact List.Mem.head _ | refine List.Mem.tail _ ?_))); (decide +kernel); (first | (focus fail) | kernel_rfl)) | ((with_reducible show wpList _ _ _ (⟨_, .store _ _ _, _, _, _, _⟩ :: _) _ _); apply wpList_store1 hM; rfl; rfl; rfl; (conv => lhs; whnf); (focus (repeat (first | exact Hole.head | apply Hole.tail))); (first | (focus fail) | exact Nat.le_of_ble_eq_true rfl | (simp; done)); (decide +kernel); (first | rfl | assumption | (apply Mem.rowOne hM; (focus (repeat (first | exact List.Mem.head _ | refine List.Mem.tail _ ?_))))); clear hM; intro _ hM; (try dsimp only at hM); (try simp only [List.setIfInBounds_toArray, List.set_cons_zero, List.set_cons_succ, List.nil_append, List.cons_append, List.length_map] at hM)) | ((with_reducible show wpList _ _ _ (⟨_, .store _ _ _, _, _, _, _⟩ :: _) _ _); apply wpList_storeA hM; rfl; rfl; rfl; (first | rfl | (conv => lhs; whnf)); (focus (repeat (first | exact Hole.head | apply Hole.tail))); (first | (focus fail) | rfl); (first | (focus fail) | kernel_rfl); (first | (focus fail) | exact all_mk rfl); clear hM; intro _ hM; (try dsimp only at hM))
    | ((with_reducible show Calls _ 76 #[nv, nv'] _ _); refine (heqn _ hM.ext0).mono ?_; rintro e _ ⟨rfl, hx2⟩; replace hM := hM.ext hx2; clear hx2)
    | ((with_reducible show Calls _ 76 _ _ _); refine (heqt _ hM.ext0).mono ?_; rintro e _ ⟨rfl, hx2⟩; replace hM := hM.ext hx2; clear hx2))
  go_ret
  exact ⟨rfl, hM.ext0⟩
/-- line.same -/
theorem same_any (a b : Rep) (nv tv nv' tv' : Value) (ha : RepW a) (hb : RepW b) (w : World) (h1 : SlR w 0 nv a.names) (h2 : SlR w 0 tv a.texts) (h3 : SlR w 0 nv' b.names) (h4 : SlR w 0 tv' b.texts) : Calls Tryz.prog 47 #[.agg (pcell a nv tv), .agg (pcell b nv' tv')] w fun e w' => e = .returned (.bool (sameB a b)) ∧ Ext w w' := by
  have no : ¬ a.same b → sameB a b = false := fun h => by unfold sameB; simpa using h
  by_cases hn : a.names = b.names
  · by_cases ht : a.texts = b.texts
    · by_cases hk : a.kind = b.kind
      · by_cases hf : ∀ j, j < 32 → a.key j = b.key j
        · by_cases he : a.err = b.err
          · by_cases hc : a.seq = b.seq ∧ a.out = b.out ∧ a.acked = b.acked ∧ a.inn = b.inn
            · rw [show sameB a b = true from by unfold sameB; simp only [decide_eq_true_eq]; exact ⟨hn, ht, hk, hf, he, hc⟩]
              exact same_6 a b nv tv nv' tv' ha hb hn ht hk hf he hc w h1 h2 h3 h4
            · rw [no fun h => hc h.2.2.2.2.2]
              exact same_5 a b nv tv nv' tv' ha hb hn ht hk hf he hc w h1 h2 h3 h4
          · rw [no fun h => he h.2.2.2.2.1]
            exact same_4 a b nv tv nv' tv' ha hb hn ht hk hf he w h1 h2 h3 h4
        · rw [no fun h => hf h.2.2.2.1]
          exact same_3 a b nv tv nv' tv' ha hb hn ht hk hf w h1 h2 h3 h4
      · rw [no fun h => hk h.2.2.1]
        exact same_2 a b nv tv nv' tv' ha hb hn ht hk w h1 h2 h3 h4
    · rw [no fun h => ht h.2.1]
      exact same_1 a b nv tv nv' tv' ha hb hn ht w h1 h2 h3 h4
  · rw [no fun h => hn h.1]
    exact same_0 a b nv tv nv' tv' ha hb hn w h1 h2 h3 h4
end Go.Proofs.YtigfkfjlfpndfaaGreatDoor
