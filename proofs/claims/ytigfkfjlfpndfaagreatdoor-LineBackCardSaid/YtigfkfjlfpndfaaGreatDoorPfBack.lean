/-
  LineBack: THE ROW AND THE CARD. By an AI agent.
-/
import Derived.Test.YtigfkfjlfpndfaaGreatDoorRowB
import Derived.Test.YtigfkfjlfpndfaaGreatDoorCards
import Derived.Test.YtigfkfjlfpndfaaGreatDoorTie
import Derived.SevenTiedAt
namespace Go.Proofs.YtigfkfjlfpndfaaGreatDoor
open Go.ChangeShapes Go.WideShapes Go.ChangeAt Go.RowKit
set_option maxRecDepth 100000
theorem u24 : ∃ t, Tryz.prog.underlying 25 = some (.array 32 t) ∧ Tryz.prog.underlying t = some (.int .u8) ∧ Tryz.prog.cellsOf t = 1 := ⟨5, by kernel_rfl, by kernel_rfl, by kernel_rfl⟩
section
variable {H : Type} {enc : TypeId × Value → H} {W : World} {base : Nat} {sp : Nat → Bool} {held : Bool}
theorem one_of {cs : List Value} {k : Nat} {v : Value} (h : (cs.drop k).take 1 = [v]) : cs[k]? = some v := by
  have := congrArg (·[0]?) h
  simpa [List.getElem?_take, List.getElem?_drop] using this
theorem pick {Q : Nat → Int → Prop} (h : ∀ j, j < 32 → ∃ z, Q j z) : ∃ f : Nat → Int, ∀ j, j < 32 → Q j (f j) := ⟨fun j => if h' : j < 32 then Classical.choose (h j h') else 0, fun j hj => by simp only [dif_pos hj]; exact Classical.choose_spec (h j hj)⟩
theorem ccell_of {cs : Array Value} (hsz : cs.size = 36) {k ct : Int} {nm tx : ByteArray} {kf : Nat → Int} (q0 : cs.toList[0]? = some (.int .i64 k)) (q1 : cs.toList[1]? = some (.string nm)) (q3 : cs.toList[34]? = some (.string tx)) (q4 : cs.toList[35]? = some (.int .i64 ct))
    (hkf : ∀ j, j < 32 → cs.toList[j + 2]? = some (.int .u8 (kf j))) : cs = ccell ⟨k, nm, kf, tx, ct⟩ := by
  apply Array.ext_getElem?
  intro j
  rw [ccell_get, ← Array.getElem?_toList]
  by_cases j0 : j = 0
  · subst j0; rw [if_pos rfl]; exact q0
  by_cases j1 : j = 1
  · subst j1; rw [if_neg (by omega), if_pos rfl]; exact q1
  rw [if_neg j0, if_neg j1]
  by_cases j2 : j < 34
  · rw [if_pos j2]
    have := hkf (j - 2) (by omega)
    rw [show j - 2 + 2 = j from by omega] at this
    exact this
  rw [if_neg j2]
  by_cases j3 : j = 34
  · subst j3; rw [if_pos rfl]; exact q3
  rw [if_neg j3]
  by_cases j4 : j = 35
  · subst j4; rw [if_pos rfl]; exact q4
  rw [if_neg j4, List.getElem?_eq_none (by rw [Array.length_toList]; omega)]
theorem wf_i64 {n : Int} (w0 : (Lit.int .i64 n).wf = true) : -9223372036854775808 ≤ n ∧ n ≤ 9223372036854775807 := by
  simp [Lit.wf, IntKind.min, IntKind.max, IntKind.bits, IntKind.signed] at w0
  exact w0
theorem wf_u8 {n : Int} (w0 : (Lit.int .u8 n).wf = true) : 0 ≤ n ∧ n < 256 := by
  simp [Lit.wf, IntKind.min, IntKind.max, IntKind.bits, IntKind.signed] at w0
  omega
theorem open_key {m : Nat} {l : List Value} {y : DataW H × List MemPlace} (h2 : DataW.trod enc Tryz.prog W base sp held m 25 ((l.drop 2).take 32) = some y) : ∀ j, j < 32 → ∃ z : Int, l[j + 2]? = some (.int .u8 z) ∧ 0 ≤ z ∧ z < 256 := by
  intro j hj
  obtain ⟨te, ua, ue, ce⟩ := u24
  obtain ⟨zs, m, _, _, _, hzl, hz⟩ := DataW.trod_array ua h2
  have h := hz j hj
  rw [ce] at h
  obtain ⟨b, hb⟩ : ∃ b, zs[j]? = some b := ⟨zs[j]'(by omega), List.getElem?_eq_getElem (by omega)⟩
  rw [hb] at h
  obtain ⟨z, ez, _, wz⟩ := DataW.trod_int ue h
  refine ⟨z, ?_, wf_u8 wz⟩
  have := one_of ez
  rw [List.getElem?_take, List.getElem?_drop] at this
  rw [if_pos (by omega)] at this
  rw [show j + 2 = 2 + j * 1 from by omega]
  exact this
/-- A command by value, opened. -/
theorem open_cmd {b0 : Nat} {v : Value} {d : DataW H} {p : List MemPlace} (hv : Value.okWide Tryz.prog W .any b0 27 v) (h : DataW.Trod enc Tryz.prog W base sp held 27 v d p) :
    ∃ c, v = .agg (ccell c) ∧ CmdW c ∧ ∃ x0 x2 x4, d = .agg [x0, .lit (.string c.name.data.toList), x2, .lit (.string c.text.data.toList), x4] := by
  obtain ⟨cs, rfl, hsz⟩ := okWide_struct Tryz.underlying27 hv
  obtain ⟨fuel, hf⟩ := h
  have hf' : DataW.trod enc Tryz.prog W base sp held fuel 27 cs.toList = some (d, p) := hf
  obtain ⟨xs, n, _, hx, hl, hxl, hall⟩ := DataW.trod_struct Tryz.underlying27 hf'
  rw [c27] at hsz
  obtain ⟨y0, y1, y2, y3, y4, rfl⟩ : ∃ y0 y1 y2 y3 y4, xs = [y0, y1, y2, y3, y4] := by
    match xs, hxl with
    | [y0, y1, y2, y3, y4], _ => exact ⟨y0, y1, y2, y3, y4, rfl⟩
  have h0 : DataW.trod enc Tryz.prog W base sp held n 3 ((cs.toList.drop 0).take (Tryz.prog.cellsOf 3)) = some y0 := hall 0 _ rfl
  have h1 : DataW.trod enc Tryz.prog W base sp held n 9 ((cs.toList.drop 1).take (Tryz.prog.cellsOf 9)) = some y1 := hall 1 _ rfl
  have h2 : DataW.trod enc Tryz.prog W base sp held n 25 ((cs.toList.drop 2).take (Tryz.prog.cellsOf 25)) = some y2 := hall 2 _ rfl
  have h3 : DataW.trod enc Tryz.prog W base sp held n 9 ((cs.toList.drop 34).take (Tryz.prog.cellsOf 9)) = some y3 := hall 3 _ rfl
  have h4 : DataW.trod enc Tryz.prog W base sp held n 3 ((cs.toList.drop 35).take (Tryz.prog.cellsOf 3)) = some y4 := hall 4 _ rfl
  rw [c3] at h0 h4
  rw [c9] at h1 h3
  rw [c25] at h2
  obtain ⟨k, e0, x0, w0⟩ := DataW.trod_int Tryz.underlying3 h0
  obtain ⟨nm, e1, x1, w1⟩ := DataW.trod_string Tryz.underlying9 h1
  obtain ⟨tx, e3, x3, w3⟩ := DataW.trod_string Tryz.underlying9 h3
  obtain ⟨ct, e4, x4, w4⟩ := DataW.trod_int Tryz.underlying3 h4
  obtain ⟨kf, hkf⟩ := pick (open_key h2)
  refine ⟨⟨k, nm, kf, tx, ct⟩, ?_, ⟨wf_i64 w0, w1, fun j hj => (hkf j hj).2, w3, wf_i64 w4⟩, y0.1, y2.1, y4.1, ?_⟩
  · rw [ccell_of hsz (one_of e0) (one_of e1) (one_of e3) (one_of e4) (fun j hj => (hkf j hj).1)]
  · have := congrArg Prod.fst hx
    simp only [List.map_cons, List.map_nil] at this
    rw [this, x1, x3]
end
theorem sized_part {H : Type} {P : Program} {ts : List TypeId} {ds : List (DataW H)} (h : (DataW.weightsEach P ts ds).all (· ≤ reachBytes) = true) {j : Nat} {t : TypeId} {parts : List (DataW H)} {fs : Array Field} (ht : ts[j]? = some t) (hd : ds[j]? = some (.agg parts)) (hu : P.underlying t = some (.struct fs)) :
    (DataW.weightsEach P (fs.toList.map (·.type)) parts).all (· ≤ reachBytes) = true := by
  rw [List.all_eq_true] at h ⊢
  intro n hn
  exact h n (DataW.weights_mem_each ht hd n (by unfold DataW.weights; rw [hu]; exact hn))
theorem back_witness (os : Os) {H : Type} (enc : TypeId × Value → H) :
    (OpenSpec.ofChange Rows.lineBackSpec).preRow enc Tryz.prog Tryz.f10 [] false lay ((laidWorld os).forCall (fun _ _ => 0) ⟨#[], #[.string ⟨#[]⟩, .agg (ccell Cmd.zero)], []⟩).memory #[.string ⟨#[]⟩, .agg (ccell Cmd.zero)] := by
  have hw : ((DataW.whole enc Tryz.prog ((laidWorld os).forCall (fun _ _ => 0) ⟨#[], #[.string ⟨#[]⟩, .agg (ccell Cmd.zero)], []⟩).memory Tryz.f10.params.toList (OpenSpec.ofChange Rows.lineBackSpec).vars false #[Value.string ⟨#[]⟩, Value.agg (ccell Cmd.zero)].toList 8).map (fun x => x.2.1)) = some [] := by kernel_rfl
  obtain ⟨⟨x1, x2, x3⟩, hx, hx1⟩ := Option.map_eq_some_iff.1 hw
  simp only at hx1
  subst hx1
  exact OpenSpec.preRow_of_cond 8 hx rfl (fun k hk => by cases hk) (by kernel_rfl) (laid_metH os _)
theorem back_lifted (os : Os) (started : os.Started) (H : Type) (enc : TypeId × Value → H) (F : Stop.Interp) :
    ReturnsInHanded {} Tryz.checked os 10 .any ((OpenSpec.ofChange Rows.lineBackSpec).preRow enc Tryz.prog Tryz.f10 Rows.lineBackRow.domain false Rows.lineBackRow.laid) (((OpenSpec.ofChange Rows.lineBackSpec).at F).post enc Tryz.prog Tryz.f10 false true false false) := by
  refine returnsInHanded_of_row (C := Tryz.checked) (s := OpenSpec.ofChange Rows.lineBackSpec) Tryz.own started (by kernel_rfl) Tryz.func10
    (witness_row_atRef (enc := enc) (C := Tryz.checked) false (laidWorld os) #[.string ⟨#[]⟩, .agg (ccell Cmd.zero)] rfl (by kernel_rfl) (by kernel_rfl) (by kernel_rfl) (back_witness os enc)) ?_
  intro W base args ds gs before hval0 hW _ _ hsz0 hL hsh _
  have hsz : (DataW.weightsEach Tryz.prog (Tryz.f10.params.toList ++ (OpenSpec.ofChange Rows.lineBackSpec).bare.plain.varTypes Tryz.prog) (ds ++ gs)).all (· ≤ reachBytes) = true := hsz0
  have hval : ∀ (j : Nat) t v, Tryz.f10.params[j]? = some t → args[j]? = some v → Value.okWide Tryz.prog W .any base t v := hval0
  clear hsz0
  have hW' := hW
  obtain ⟨p, q, hA0, hV0, rfl, _, _⟩ := hW
  have hA : DataW.TrodAll enc Tryz.prog W 0 (fun _ => true) true Tryz.f10.params.toList args.toList ds p := hA0
  rw [Tryz.params10] at hA hval hsz
  obtain ⟨v0, v1, d0, d1, p0, p1, rfl, rfl, rfl, h0, h1⟩ := trodAll_two hA
  obtain ⟨rfl, rfl⟩ := trodVars_none hV0
  clear hA0 hV0 hval0
  obtain ⟨s, rfl, rfl, rfl, hs0⟩ := Go.ChangeMaps.open_string Tryz.underlying9 (hval 0 9 v0 rfl rfl) h0
  obtain ⟨c, rfl, hc, x0, x2, x4, rfl⟩ := open_cmd (hval 1 27 v1 rfl rfl) h1
  simp only [List.append_nil] at hW' hsz
  have hlt : ∀ x ∈ p1, x.block < W.heap.size := fun x hx => by simpa using hW'.lt x (by simp [hx])
  have hs : s.size ≤ 140737488351232 := by
    have := sized_string hsz (j := 0) (t := 9) rfl rfl
    rw [← Lib.size_eq] at this
    exact this
  have hpart := sized_part hsz (j := 1) (t := 27) rfl rfl Tryz.underlying27
  have hcn : c.name.size ≤ 140737488351232 := by
    have := sized_string hpart (j := 1) (t := 9) rfl rfl
    rw [← Lib.size_eq] at this
    exact this
  have hct : c.text.size ≤ 140737488351232 := by
    have := sized_string hpart (j := 3) (t := 9) rfl rfl
    rw [← Lib.size_eq] at this
    exact this
  refine (LineBack_any s hs c hc hcn hct W (vars_of hL hsh)).mono ?_
  rintro e W' ⟨rfl, bel⟩
  have bel' : Below W.heap.size W W' := bel
  generalize hd1 : (DataW.agg [x0, .lit (.string c.name.data.toList), x2, .lit (.string c.text.data.toList), x4] : DataW H) = d1 at *
  have e1 : ((OpenSpec.ofChange Rows.lineBackSpec).at F).fn H ([.lit (.string s.data.toList), d1] ++ []) = { results := [.lit (.bool true)], args := [.lit (.string s.data.toList), d1] } := rfl
  refine ⟨_, rfl, _, _, _, [], [] ++ p1, [], hW', ?_, ?_, ?_, bel'.frame _, fun h => by cases h⟩
  · rw [e1]; exact trodAll_mk1 (shut_bool Tryz.underlying4 true)
  · rw [e1]; exact trodAll_mk2 (Below.trod Tryz.laidOut (by kernel_rfl) (of_decide_eq_true (by kernel_rfl)) h0 bel' (fun x hx => by cases hx)) (Below.trod Tryz.laidOut (by kernel_rfl) (of_decide_eq_true (by kernel_rfl)) h1 bel' hlt)
  · rw [e1]; rfl
theorem back_holds : Rows.LineBackSaid :=
  OpenClaim.holds_of_cond 10 Tryz.f10 rfl rfl rfl rfl rfl rfl rfl ⟨rfl, rfl, rfl, rfl, rfl⟩ rfl rfl rfl rfl rfl (by kernel_rfl) Tryz.func10 (by kernel_rfl)
    (of_decide_eq_true (by kernel_rfl)) (by unfold Func.isWrapper; rw [if_neg (of_decide_eq_false (by kernel_rfl))]; exact ⟨rfl, rfl⟩)
    (fun os started H enc _ F0 => by rw [OpenClaim.pre_eq_preRow]; exact back_lifted os started H enc F0)
theorem lineBack_card : Rows.LineBackCardSaid :=
  Claim7.holds_tied_plain_at .later [] [.data, .data, .data, .data, .sentinel, .sentinel, .pinned] true (true, "2708bb1771ecb00a8b57caca8a1acabb72054810cf91821954e65ffdfc65d0b0") true
    back_holds (fun _ h => by cases h) (by kernel_rfl) (fun _ h => by cases h) lineBack_row_tie rfl ⟨rfl, rfl⟩ (by kernel_rfl) rfl
    (fun f fn hf hfn => by
      obtain rfl : f = 10 := Option.some.inj ((show Tryz.prog.funcNamed "hollowtree/hollowtreelaw24.LineBack" = some 10 by kernel_rfl).symm.trans hf) |>.symm
      obtain rfl : fn = Tryz.f10 := (Option.some.inj (Tryz.func10.symm.trans hfn)).symm
      exact ⟨by kernel_rfl, fun j t ht => by
        rw [Tryz.params10] at ht
        rcases j with _ | _ | j
        · obtain rfl : t = 9 := by simpa using ht.symm
          exact (show Tryz.prog.wantsStandIn 9 = false by kernel_rfl)
        · obtain rfl : t = 27 := by simpa using ht.symm
          exact (show Tryz.prog.wantsStandIn 27 = false by kernel_rfl)
        · simp at ht⟩)
    (by kernel_rfl)
#print axioms lineBack_card
end Go.Proofs.YtigfkfjlfpndfaaGreatDoor
