/-
  line.unquote.
-/
import Derived.Test.YtigfkfjlfpndfaaGreatDoorQuote
import Derived.Test.YtigfkfjlfpndfaaGreatDoorPCmds
import Derived.WalkMore
import Derived.Deep.QuietTactic
import Derived.BigQuiet
namespace Go.Proofs.YtigfkfjlfpndfaaGreatDoor
open Go.RowKit Sp

/-- a quoted text's bytes behind the first quote; what is left -/
def unqF : Bool → List UInt8 → List UInt8 → Option (List UInt8 × List UInt8)
  | _, _, [] => none
  | esc, acc, c :: r =>
    if badB c then none
    else if esc then (if c = 34 ∨ c = 92 then unqF false (acc ++ [c]) r else none)
    else if c = 92 then unqF true acc r
    else if c = 34 then some (acc, r)
    else unqF false (acc ++ [c]) r
def unq : List UInt8 → Option (List UInt8 × List UInt8)
  | [] => none
  | c :: r => if c = 34 then unqF false [] r else none
theorem unq_yes {c : UInt8} {r : List UInt8} (h : c = 34) : unq (c :: r) = unqF false [] r := by simp [unq, h]
theorem unq_no {c : UInt8} {r : List UInt8} (h : ¬ c = 34) : unq (c :: r) = none := by simp [unq, h]
abbrev strV (l : List UInt8) : Value := .string ⟨l.toArray⟩
/-- what unquote tells -/
def unqV (o : Option (List UInt8 × List UInt8)) : Value := match o with | some (t, r) => .tuple #[strV t, strV r, .bool true] | none => .tuple #[.string ⟨#[]⟩, .string ⟨#[]⟩, .bool false]

theorem drop_cons (t : ByteArray) (k : Nat) (h : k < t.size) : t.data.toList.drop k = t[k] :: t.data.toList.drop (k + 1) := by
  rw [List.drop_eq_getElem_cons (by simpa using h)]; rfl
theorem u8_eq {c : UInt8} {n : Nat} (hn : n < 256) : c = UInt8.ofNat n ↔ (c.toNat : Int) = n := by
  constructor
  · rintro rfl; simp; omega
  · intro h; exact UInt8.toNat_inj.1 (by simp; omega)

/-- a world goes on under a new name -/
theorem wpList_namedS {P : Program} {ops : Array Oper} {rest : List Oper} {a : Act} {w w0 : World} {Q : Exit → Act → World → Prop} {S : Nat → Prop} {L : List Ent} {F : Ent → List Ent} {r : Nat} {s : ByteArray} {p q : Nat} (hM : Mem w0 S w L) (u : Hole L (.itr r s p) F) (h : ∀ w1, Mem w0 S w1 (F (.itr r s q)) → wpList P ops Q rest a w1) : wpList P ops Q rest a (stepIter w r s q) :=
  h _ (hM.step q (u.upd _))

/-- between two rounds -/
def UnqR (w : World) (t : ByteArray) (esc b : Value) (wr : World) : Prop :=
  ∃ (k : Nat) (e : Bool) (acc : List UInt8), k ≤ t.size ∧ esc = .bool e ∧ unqF false [] t.data.toList = unqF e acc (t.data.toList.drop k) ∧ acc.length ≤ k ∧ Mem w NoS wr [.itr w.heap.size t k, .row w.heap.size 5 b (u8s acc)]
theorem unqF_bad {c : UInt8} {e : Bool} {acc r : List UInt8} (h : badB c = true) : unqF e acc (c :: r) = none := by simp [unqF, h]
theorem unqF_esc {c : UInt8} {acc r : List UInt8} (h : badB c = false) (h2 : c = 34 ∨ c = 92) : unqF true acc (c :: r) = unqF false (acc ++ [c]) r := by simp [unqF, h, h2]
theorem unqF_escno {c : UInt8} {acc r : List UInt8} (h : badB c = false) (h2 : ¬ (c = 34 ∨ c = 92)) : unqF true acc (c :: r) = none := by simp [unqF, h, h2]
theorem unqF_back {acc r : List UInt8} : unqF false acc (92 :: r) = unqF true acc r := by simp [unqF, show badB 92 = false from by decide]
theorem unqF_end {acc r : List UInt8} : unqF false acc (34 :: r) = some (acc, r) := by simp [unqF, show badB 34 = false from by decide]
theorem unqF_on {c : UInt8} {acc r : List UInt8} (h : badB c = false) (h2 : c ≠ 34) (h3 : c ≠ 92) : unqF false acc (c :: r) = unqF false (acc ++ [c]) r := by simp [unqF, h, h2, h3]

set_option maxHeartbeats 2000000 in
set_option maxRecDepth 100000 in
theorem unquote_go (s : ByteArray) (hs : s.size ≤ 1000000) (h1 : 1 ≤ s.size) (h34 : ((s[0]'h1).toNat : Int) = 34) (w : World) :
    Calls Tryz.prog 95 #[.string s] w fun e w' => e = .returned (unqV (unqF false [] (s.extract 1 s.size).data.toList)) ∧ Ext w w' := by
  have e1 := str_some h1
  have g0 : (((s[0]'h1).toNat : Int) == 34) = true := by simpa using h34
  have g1 : (((s[0]'h1).toNat : Int) != 34) = false := by simpa using h34
  clear h34
  obtain ⟨t, ht⟩ : ∃ t, s.extract 1 s.size = t := ⟨_, rfl⟩
  have hts : t.size = s.size - 1 := by rw [← ht, ByteArray.size_extract]; omega
  have htb : t.size ≤ 1000000 := by omega
  have hsub : ∀ i : Nat, i ≤ t.size → s.extract (i + 1) s.size = ⟨(t.data.toList.drop i).toArray⟩ := by
    intro i hi
    apply bytes_inj
    rw [← ht, Lib.extract_data, Lib.extract_data]
    rw [List.take_of_length_le (by rw [List.length_drop, size_list]; omega), List.take_of_length_le (by rw [List.length_drop, size_list]; omega)]
    show _ = List.drop i (List.drop 1 s.data.toList)
    rw [List.drop_drop, Nat.add_comm]
  have HSUB := Lib.hid hsub; clear hsub
  rw [ht]
  have HT := Lib.hid ht; clear ht
  have HTS := Lib.hid hts; clear hts
  have hszge : 1 ≤ (s.size : Int) := by omega
  go_enter Tryz.func95, Tryz.ntmps95
  go_wp2
  go_step3
  go_wp2
  go_step3
  go_wp2
  rw [HT.out]
  go_loopw [5, 6] (fun b e wr => UnqR w t e b wr) (fun _ _ wr => t.size - wr.iterPos w.heap.size)
  case atStart =>
    refine ⟨0, false, [], Nat.zero_le _, rfl, rfl, Nat.zero_le _, ?_⟩
    exact (((Mem.start w NoS).iter t 0).nilRow 5 w.heap.size).swap
  case round =>
    obtain ⟨k, e, acc, hk, rfl, hun, hacc, hM⟩ := hrel
    have hit := hM.theItr (List.Mem.head _)
    have hpos := hit.position
    by_cases hlt : k < t.size
    · have hnx := fun ty => hit.next (P := Tryz.prog) hlt ty
      rw [drop_cons t k hlt] at hun
      obtain ⟨c, hc⟩ : ∃ c, t[k] = c := ⟨_, rfl⟩
      rw [hc] at hun
      cases hb : badB c with
      | true =>
        rw [unqF_bad hb] at hun
        have HU := Lib.hid hun; clear hun
        obtain ⟨r, hr⟩ : ∃ r : Nat, (Utf8.decode t k).1 = r := ⟨_, rfl⟩
        have hrr : (r : Int) < 32 ∨ (126 : Int) < (r : Int) := by
          rw [← hr]
          have hb' : (c.toNat : Int) < 32 ∨ (126 : Int) < (c.toNat : Int) := by simp only [badB, Bool.or_eq_true, decide_eq_true_eq] at hb; omega
          by_cases ha : (t[k].toNat : Int) < 128
          · rw [(rune_lo hlt ha).1, hc]; exact hb'
          · have := rune_hi hlt ha; omega
        rw [hr] at hnx
        generalize (Utf8.decode t k).2 = wd at hnx
        clear hr hb hc hpos hit
        rcases hrr with hrr | hrr
        · go_wp2_with (first | ((with_reducible show wpList _ _ _ _ _ (stepIter _ _ _ _)); apply wpList_namedS hM; (focus (repeat (first | exact Hole.head | apply Hole.tail))); clear hM; intro _ hM; (try dsimp only at hM)))
          try rw [Exit.noGoto_ret]
          go_ret3
          exact ⟨by rw [HU.out]; rfl, hM.ext0⟩
        · have hr0 : ¬ (r : Int) < 32 := by omega
          go_wp2_with (first | ((with_reducible show wpList _ _ _ _ _ (stepIter _ _ _ _)); apply wpList_namedS hM; (focus (repeat (first | exact Hole.head | apply Hole.tail))); clear hM; intro _ hM; (try dsimp only at hM)))
          try rw [Exit.noGoto_ret]
          go_ret3
          exact ⟨by rw [HU.out]; rfl, hM.ext0⟩
      | false =>
        have hcr : ¬ (c.toNat : Int) < 32 ∧ ¬ (126 : Int) < (c.toNat : Int) := by
          have : ¬ badB c = true := by simp [hb]
          simp only [badB, Bool.or_eq_true, decide_eq_true_eq] at this; omega
        obtain ⟨hc1, hc2⟩ := hcr
        have hru := rune_lo hlt (by rw [hc]; omega)
        rw [hru.1, hru.2, hc] at hnx
        have HB := Lib.hid hb
        clear hru hc hb hit
        have hc3 : (c.toNat : Int) ≤ 126 := by omega
        have hl0 : (u8s acc).length + 1 ≤ 1000000000 := by rw [u8s_len]; omega
        clear hc2
        by_cases h34 : (c.toNat : Int) = 34
        · have e34 : c = 34 := UInt8.toNat_inj.1 (by show c.toNat = 34; omega)
          have b34 : ((c.toNat : Int) == 34) = true := by simpa using h34
          have n34 : ((c.toNat : Int) != 34) = false := by simpa using h34
          have b92 : ((c.toNat : Int) == 92) = false := by rw [h34]; rfl
          have n92 : ((c.toNat : Int) != 92) = true := by rw [h34]; rfl
          clear h34
          cases e with
          | true =>
            rw [unqF_esc HB.out (.inl e34)] at hun
            have HU := Lib.hid hun; clear hun
            clear e34
            go_wp2_with (first | ((with_reducible show wpList _ _ _ _ _ (stepIter _ _ _ _)); apply wpList_namedS hM; (focus (repeat (first | exact Hole.head | apply Hole.tail))); clear hM; intro _ hM; (try dsimp only at hM)) | ((with_reducible show wpList _ _ _ _ _ (World.alloc _ (Obj.cells _ _))); apply wpList_named hM; clear hM; intro _ hM) | (at_builtin; apply wpList_appB hM; rfl; rfl; (conv => lhs; whnf); rfl; (focus exact el83); (first | (focus fail) | (focus (repeat (first | exact List.Mem.head _ | refine List.Mem.tail _ ?_)))); (focus (repeat (first | exact Hole.head | apply Hole.tail))); rfl; (first | (focus fail) | decide | (simp; done)); (first | (focus fail) | exact all_mk rfl); (first | omega | (focus fail)); decide; clear hM; intro _ _ _ hM; (try dsimp only at hM); (try simp only [List.setIfInBounds_toArray, List.set_cons_zero, List.set_cons_succ, List.nil_append, List.cons_append, List.length_map] at hM)))
            go_roundw
            case rel =>
              refine ⟨k + 1, false, acc ++ [c], by omega, rfl, HU.out, by simp; omega, ?_⟩
              rw [← u8s_snoc acc c _ rfl]
              exact hM.drop1
            case measure => rw [(hM.drop1.theItr (List.Mem.head _)).position, hpos]; omega
          | false =>
            rw [e34, unqF_end] at hun
            have HU := Lib.hid hun; clear hun
            clear e34
            go_wp2_with (first | ((with_reducible show wpList _ _ _ _ _ (stepIter _ _ _ _)); apply wpList_namedS hM; (focus (repeat (first | exact Hole.head | apply Hole.tail))); clear hM; intro _ hM; (try dsimp only at hM)))
            have hcv := fun nq => ((hM.drewN nq).theRow (List.Mem.tail _ (List.Mem.head _))).toStr (P := Tryz.prog) 83 9 Tryz.underlying83 Tryz.underlying5 Tryz.underlying9
            have hts := HTS.out
            have hk2 : (k : Int) + 2 ≤ (s.size : Int) := by omega
            clear hts
            have HX := Lib.hid hM.ext0; clear hM
            have HS2 := Lib.hid (HSUB.out (k + 1) (by omega))
            go_quiet (fail)
            go_wp2
            try rw [Exit.noGoto_ret]
            go_ret3
            exact ⟨by rw [HU.out]; show _ = Ending.returned (.tuple #[.string _, .string _, _]); rw [← HS2.out]; rfl, HX.out.drewN nq⟩
        · by_cases h92 : (c.toNat : Int) = 92
          · have e92 : c = 92 := UInt8.toNat_inj.1 (by show c.toNat = 92; omega)
            have b34 : ((c.toNat : Int) == 34) = false := by simpa using h34
            have n34 : ((c.toNat : Int) != 34) = true := by simpa using h34
            have b92 : ((c.toNat : Int) == 92) = true := by simpa using h92
            have n92 : ((c.toNat : Int) != 92) = false := by simpa using h92
            clear h34 h92
            cases e with
            | true =>
              rw [unqF_esc HB.out (.inr e92)] at hun
              have HU := Lib.hid hun; clear hun
              clear e92
              go_wp2_with (first | ((with_reducible show wpList _ _ _ _ _ (stepIter _ _ _ _)); apply wpList_namedS hM; (focus (repeat (first | exact Hole.head | apply Hole.tail))); clear hM; intro _ hM; (try dsimp only at hM)) | ((with_reducible show wpList _ _ _ _ _ (World.alloc _ (Obj.cells _ _))); apply wpList_named hM; clear hM; intro _ hM) | (at_builtin; apply wpList_appB hM; rfl; rfl; (conv => lhs; whnf); rfl; (focus exact el83); (first | (focus fail) | (focus (repeat (first | exact List.Mem.head _ | refine List.Mem.tail _ ?_)))); (focus (repeat (first | exact Hole.head | apply Hole.tail))); rfl; (first | (focus fail) | decide | (simp; done)); (first | (focus fail) | exact all_mk rfl); (first | omega | (focus fail)); decide; clear hM; intro _ _ _ hM; (try dsimp only at hM); (try simp only [List.setIfInBounds_toArray, List.set_cons_zero, List.set_cons_succ, List.nil_append, List.cons_append, List.length_map] at hM)))
              go_roundw
              case rel =>
                refine ⟨k + 1, false, acc ++ [c], by omega, rfl, HU.out, by simp; omega, ?_⟩
                rw [← u8s_snoc acc c _ rfl]
                exact hM.drop1
              case measure => rw [(hM.drop1.theItr (List.Mem.head _)).position, hpos]; omega
            | false =>
              rw [e92, unqF_back] at hun
              have HU := Lib.hid hun; clear hun
              clear e92
              go_wp2_with (first | ((with_reducible show wpList _ _ _ _ _ (stepIter _ _ _ _)); apply wpList_namedS hM; (focus (repeat (first | exact Hole.head | apply Hole.tail))); clear hM; intro _ hM; (try dsimp only at hM)))
              go_roundw
              case rel => exact ⟨k + 1, true, acc, by omega, rfl, HU.out, by omega, hM⟩
              case measure => rw [(hM.theItr (List.Mem.head _)).position, hpos]; omega
          · have b34 : ((c.toNat : Int) == 34) = false := by simpa using h34
            have n34 : ((c.toNat : Int) != 34) = true := by simpa using h34
            have b92 : ((c.toNat : Int) == 92) = false := by simpa using h92
            have n92 : ((c.toNat : Int) != 92) = true := by simpa using h92
            have e34 : c ≠ 34 := by rintro rfl; exact h34 rfl
            have e92 : c ≠ 92 := by rintro rfl; exact h92 rfl
            clear h34 h92
            cases e with
            | true =>
              rw [unqF_escno HB.out (by rintro (h | h); exact e34 h; exact e92 h)] at hun
              have HU := Lib.hid hun; clear hun
              clear e34 e92
              go_wp2_with (first | ((with_reducible show wpList _ _ _ _ _ (stepIter _ _ _ _)); apply wpList_namedS hM; (focus (repeat (first | exact Hole.head | apply Hole.tail))); clear hM; intro _ hM; (try dsimp only at hM)))
              try rw [Exit.noGoto_ret]
              go_ret3
              exact ⟨by rw [HU.out]; rfl, hM.ext0⟩
            | false =>
              rw [unqF_on HB.out e34 e92] at hun
              have HU := Lib.hid hun; clear hun
              clear e34 e92
              go_wp2_with (first | ((with_reducible show wpList _ _ _ _ _ (stepIter _ _ _ _)); apply wpList_namedS hM; (focus (repeat (first | exact Hole.head | apply Hole.tail))); clear hM; intro _ hM; (try dsimp only at hM)) | ((with_reducible show wpList _ _ _ _ _ (World.alloc _ (Obj.cells _ _))); apply wpList_named hM; clear hM; intro _ hM) | (at_builtin; apply wpList_appB hM; rfl; rfl; (conv => lhs; whnf); rfl; (focus exact el83); (first | (focus fail) | (focus (repeat (first | exact List.Mem.head _ | refine List.Mem.tail _ ?_)))); (focus (repeat (first | exact Hole.head | apply Hole.tail))); rfl; (first | (focus fail) | decide | (simp; done)); (first | (focus fail) | exact all_mk rfl); (first | omega | (focus fail)); decide; clear hM; intro _ _ _ hM; (try dsimp only at hM); (try simp only [List.setIfInBounds_toArray, List.set_cons_zero, List.set_cons_succ, List.nil_append, List.cons_append, List.length_map] at hM)))
              go_roundw
              case rel =>
                refine ⟨k + 1, false, acc ++ [c], by omega, rfl, HU.out, by simp; omega, ?_⟩
                rw [← u8s_snoc acc c _ rfl]
                exact hM.drop1
              case measure => rw [(hM.drop1.theItr (List.Mem.head _)).position, hpos]; omega
    · have hnx := fun ty => hit.next_end (P := Tryz.prog) hlt ty
      rw [List.drop_of_length_le (by rw [size_list]; omega)] at hun
      have HU := Lib.hid hun; clear hun
      go_wp2_with (first | ((with_reducible show wpList _ _ _ _ _ (stepIter _ _ _ _)); apply wpList_namedS hM; (focus (repeat (first | exact Hole.head | apply Hole.tail))); clear hM; intro _ hM; (try dsimp only at hM)))
      try rw [Exit.noGoto_ret]
      go_ret3
      exact ⟨by rw [HU.out]; rfl, hM.ext0⟩

set_option maxHeartbeats 1000000 in
set_option maxRecDepth 100000 in
theorem unquote_any (s : ByteArray) (hs : s.size ≤ 1000000) (w : World) : Calls Tryz.prog 95 #[.string s] w fun e w' => e = .returned (unqV (unq s.data.toList)) ∧ Ext w w' := by
  by_cases h1 : 1 ≤ s.size
  · have hd : s.data.toList = s[0]'h1 :: s.data.toList.drop 1 := by
      have := drop_cons s 0 h1
      rwa [List.drop_zero] at this
    by_cases h34 : ((s[0]'h1).toNat : Int) = 34
    · have hu : unq s.data.toList = unqF false [] (s.extract 1 s.size).data.toList := by
        rw [hd, unq_yes (UInt8.toNat_inj.1 (by show (s[0]'h1).toNat = 34; omega)), Lib.extract_data]
        rw [List.take_of_length_le (by rw [List.length_drop, size_list]; omega)]
      rw [hu]
      exact unquote_go s hs h1 h34 w
    · have hu : unq s.data.toList = none := by
        rw [hd, unq_no]
        intro h; apply h34; rw [h]; rfl
      have HU := Lib.hid hu; clear hu hd
      have e1 := str_some h1
      have g1 : (((s[0]'h1).toNat : Int) != 34) = true := by simpa using h34
      clear h34
      go_enter Tryz.func95, Tryz.ntmps95
      go_wp2
      go_step3
      go_wp2
      try rw [Exit.noGoto_ret]
      go_ret3
      exact ⟨by rw [HU.out]; rfl, Below.refl _ _⟩
  · have hu : unq s.data.toList = none := by
      have : s.data.toList = [] := List.length_eq_zero_iff.1 (by rw [size_list]; omega)
      rw [this]; rfl
    have HU := Lib.hid hu; clear hu
    have e1 := str_none h1
    go_enter Tryz.func95, Tryz.ntmps95
    go_wp2
    go_step3
    go_wp2
    try rw [Exit.noGoto_ret]
    go_ret3
    exact ⟨by rw [HU.out]; rfl, Below.refl _ _⟩
end Go.Proofs.YtigfkfjlfpndfaaGreatDoor
