/-
  line.inbox.
-/
import Derived.Test.YtigfkfjlfpndfaaGreatDoorUnq
namespace Go.Proofs.YtigfkfjlfpndfaaGreatDoor
open Go.RowKit Sp

/-! ### what a reply's rest says of an inbox -/
/-- the blank ahead of a text is taken away -/
def skipB : List UInt8 → Option (List UInt8)
  | [] => none
  | c :: r => if c = 32 then some r else none
def inboxGo : Nat → Bool → List (List UInt8) → List UInt8 → Option (List (List UInt8) × List UInt8)
  | 0, _, acc, r => some (acc, r)
  | n + 1, first, acc, r =>
    match (if first then some r else skipB r) with
    | none => none
    | some r' => match unq r' with
      | none => none
      | some (t, r'') => if textB t then inboxGo n false (acc ++ [t]) r'' else none
def cutA (l : List UInt8) : List UInt8 := l.take (blank l)
def cutZ (l : List UInt8) : List UInt8 := l.drop (blank l + 1)
def cutM (l : List UInt8) : Bool := decide (blank l < l.length)
def inboxS (l : List UInt8) : Option (List (List UInt8)) :=
  if numB (cutA l) = true ∧ decV (cutA l) ≤ 6 ∧ cutM l = decide (0 < decV (cutA l)) then
    match inboxGo (decV (cutA l)) true [] (cutZ l) with
    | some (ts, r) => if r = [] then some ts else none
    | none => none
  else none

theorem unqF_len : ∀ (l : List UInt8) (e : Bool) (acc : List UInt8) (t r : List UInt8), unqF e acc l = some (t, r) → r.length ≤ l.length ∧ t.length + r.length ≤ acc.length + l.length
  | [], _, _, _, _, h => by simp [unqF] at h
  | c :: l, e, acc, t, r, h => by
    unfold unqF at h
    split at h
    · cases h
    · split at h
      · split at h
        · have := unqF_len l _ _ _ _ h; simp at this ⊢; omega
        · cases h
      · split at h
        · have := unqF_len l _ _ _ _ h; simp at this ⊢; omega
        · split at h
          · injection h with h; injection h with h1 h2; subst h1 h2; simp
          · have := unqF_len l _ _ _ _ h; simp at this ⊢; omega
theorem unq_len {l t r : List UInt8} (h : unq l = some (t, r)) : r.length ≤ l.length ∧ t.length + r.length ≤ l.length := by
  cases l with
  | nil => cases h
  | cons c l =>
    by_cases hc : c = 34
    · rw [unq_yes hc] at h
      have := unqF_len l _ _ _ _ h; simp at this ⊢; omega
    · rw [unq_no hc] at h; cases h
theorem skipB_len {l r : List UInt8} (h : skipB l = some r) : r.length ≤ l.length := by
  cases l with
  | nil => cases h
  | cons c l =>
    by_cases hc : c = 32
    · simp [skipB, hc] at h; subst h; simp
    · simp [skipB, hc] at h
theorem inboxGo_0 (f : Bool) (acc : List (List UInt8)) (r : List UInt8) : inboxGo 0 f acc r = some (acc, r) := rfl
theorem inboxGo_skip {n : Nat} {acc : List (List UInt8)} {r : List UInt8} (h : skipB r = none) : inboxGo (n + 1) false acc r = none := by simp [inboxGo, h]
theorem inboxGo_no {n : Nat} {f : Bool} {acc : List (List UInt8)} {r r' : List UInt8} (hr : (if f then some r else skipB r) = some r') (h : unq r' = none) : inboxGo (n + 1) f acc r = none := by simp [inboxGo, hr, h]
theorem inboxGo_bad {n : Nat} {f : Bool} {acc : List (List UInt8)} {r r' t r'' : List UInt8} (hr : (if f then some r else skipB r) = some r') (h : unq r' = some (t, r'')) (ht : textB t = false) : inboxGo (n + 1) f acc r = none := by simp [inboxGo, hr, h, ht]
theorem inboxGo_on {n : Nat} {f : Bool} {acc : List (List UInt8)} {r r' t r'' : List UInt8} (hr : (if f then some r else skipB r) = some r') (h : unq r' = some (t, r'')) (ht : textB t = true) : inboxGo (n + 1) f acc r = inboxGo n false (acc ++ [t]) r'' := by simp [inboxGo, hr, h, ht]

theorem prefix_skip (l : List UInt8) : Lib.hasPrefix l [32] = (skipB l).isSome ∧ (∀ r, skipB l = some r → Lib.trimPrefix l [32] = r) := by
  cases l with
  | nil => exact ⟨rfl, fun r h => by cases h⟩
  | cons c l =>
    by_cases hc : c = 32
    · subst hc; exact ⟨by simp [Lib.hasPrefix, skipB], fun r h => by simp [skipB] at h; subst h; simp [Lib.trimPrefix, Lib.hasPrefix]⟩
    · refine ⟨?_, fun r h => by simp [skipB, hc] at h⟩
      have h1 : ((32 : UInt8) == c) = false := by simpa using fun h => hc h.symm
      simp [Lib.hasPrefix, skipB, hc, List.isPrefixOf, h1]
theorem cut_all (s : ByteArray) : Lib.cut s.data.toList [32] = (cutA s.data.toList, cutZ s.data.toList, cutM s.data.toList) := by
  have h := indexByte_blank s.data.toList
  have hle := blank_le s.data.toList
  have h1 : Lib.index s.data.toList [32] = Lib.indexByte s.data.toList 32 := Lib.index_one _ _
  unfold Lib.cut
  rw [h1, h]
  unfold cutA cutZ cutM
  generalize s.data.toList = l at *
  by_cases hb : blank l < l.length
  · rw [if_pos hb, if_pos (by omega)]
    simp [hb]
  · rw [if_neg hb, if_neg (by omega)]
    rw [List.take_of_length_le (by omega), List.drop_of_length_le (by omega)]
    simp [hb]
theorem cut3 (s : ByteArray) (hs : s.size ≤ 1000000) (w : World) (hv : Vars w) : Calls Tryz.prog 34 #[.string s, .string ⟨#[32]⟩] w fun e w' => e = .returned (.tuple #[strV (cutA s.data.toList), strV (cutZ s.data.toList), .bool (cutM s.data.toList)]) ∧ Ext w w' := by
  obtain ⟨m, hm⟩ := hv.maxlen
  refine (Tryz.strings_Cut s ⟨#[32]⟩ m w (by omega) hm).mono ?_
  rintro e w' ⟨rfl, n, rfl⟩
  refine ⟨?_, Ext.drewN (Below.refl _ w) n⟩
  show _ = Ending.returned (.tuple #[.string _, .string _, .bool _])
  have : (⟨#[32]⟩ : ByteArray).data.toList = [32] := rfl
  rw [this, cut_all]
theorem skip_any (s : ByteArray) (w : World) : Calls Tryz.prog 94 #[.string s, .string ⟨#[32]⟩] w fun e w' => e = .returned (.tuple #[.string ⟨(Lib.trimPrefix s.data.toList [32]).toArray⟩, .bool (skipB s.data.toList).isSome]) ∧ w' = w := by
  refine (Tryz.strings_CutPrefix s ⟨#[32]⟩ w).mono ?_
  rintro e w' ⟨rfl, rfl⟩
  exact ⟨by rw [← (prefix_skip s.data.toList).1], rfl⟩
theorem cutA_len (l : List UInt8) : (cutA l).length ≤ l.length := by unfold cutA; rw [List.length_take]; omega
theorem cutZ_len (l : List UInt8) : (cutZ l).length ≤ l.length := by unfold cutZ; rw [List.length_drop]; omega

/-- line.number of a text's bytes -/
def NumP (l : List UInt8) (w : World) (e : Ending) (w' : World) : Prop := ∃ n : Int, e = .returned (.tuple #[.int .i64 n, .bool (numB l)]) ∧ (numB l = true → n = (decV l : Int)) ∧ Ext w w'
theorem number_list (l : List UInt8) (hl : l.length ≤ 1000000) (w : World) (hv : Vars w) : Calls Tryz.prog 69 #[strV l] w (NumP l w) := by
  refine (number_any ⟨l.toArray⟩ w (by show l.length ≤ _; omega) hv).mono ?_
  rintro e w' ⟨n, rfl, h1, h2⟩
  have e1 : lineNum (ByteArray.mk l.toArray).data.toList = numB l := lineNum_num l
  rw [e1] at h1 ⊢
  refine ⟨n, rfl, fun h => ?_, h2⟩
  have h3 := h1 h
  rw [show (ByteArray.mk l.toArray).data.toList = l from rfl, (numB_ok h).1] at h3
  injection h3 with h3
  exact h3.symm
theorem Ext.vars {w w' : World} (hv : Vars w) (h : Ext w w') : Vars w' := hv.ext h
theorem Mem.vars {w0 w : World} {L : List Ent} (hM : Mem w0 NoS w L) (hv : Vars w0) : Vars w := hv.ext hM.ext0

theorem skip_list (r : List UInt8) (w : World) : Calls Tryz.prog 94 #[strV r, .string ⟨#[32]⟩] w fun e w' => e = .returned (.tuple #[strV (Lib.trimPrefix r [32]), .bool (skipB r).isSome]) ∧ w' = w := skip_any ⟨r.toArray⟩ w
theorem unq_list (r : List UInt8) (hr : r.length ≤ 1000000) (w : World) : Calls Tryz.prog 95 #[strV r] w fun e w' => e = .returned (unqV (unq r)) ∧ Ext w w' := unquote_any ⟨r.toArray⟩ hr w
theorem text_list (r : List UInt8) (hr : r.length ≤ 1000000) (w : World) : Calls Tryz.prog 27 #[strV r] w fun e w' => e = .returned (.bool (textB r)) ∧ w' = w := lText_any ⟨r.toArray⟩ w (by show r.length ≤ _; omega)
theorem strV_nil {r : List UInt8} (h : r = []) : (ByteArray.mk r.toArray).toList.isEmpty = true := str_none (s := ⟨r.toArray⟩) (by show ¬ 1 ≤ r.length; rw [h]; simp)
theorem strV_cons {r : List UInt8} (h : r ≠ []) : (ByteArray.mk r.toArray).toList.isEmpty = false := str_some (s := ⟨r.toArray⟩) (by show 1 ≤ r.length; cases r; exact absurd rfl h; simp)
/-- what inbox tells -/
def InP (s : ByteArray) (w : World) (e : Ending) (w' : World) : Prop :=
  ∃ v : Value, e = .returned (.tuple #[v, .bool (inboxS s.data.toList).isSome]) ∧ v.oneCell' = true ∧ (∀ l, inboxS s.data.toList = some l → Own w' w.heap.size 9 v (l.map strV)) ∧ Ext w w'
theorem InP.no {s : ByteArray} {w w' : World} {v : Value} {b : Bool} (hb : b = false) (hv : v.oneCell' = true) (h : inboxS s.data.toList = none) (hx : Ext w w') : InP s w (.returned (.tuple #[v, .bool b])) w' := by
  subst hb
  exact ⟨v, by rw [h]; rfl, hv, (fun l hl => by rw [h] at hl; cases hl), hx⟩
/-- between two rounds -/
def InR (w : World) (n : Nat) (s0 : List UInt8) (rest l i : Value) (wr : World) : Prop :=
  ∃ (k : Nat) (acc : List (List UInt8)) (r : List UInt8), k ≤ n ∧ i = .int .i64 k ∧ rest = strV r ∧ inboxGo n true [] s0 = inboxGo (n - k) (decide (k = 0)) acc r ∧ acc.length = k ∧ r.length ≤ s0.length ∧ Mem w NoS wr [.row w.heap.size 9 l (acc.map strV)]

set_option maxHeartbeats 2000000 in
set_option maxRecDepth 100000 in
theorem inbox_go (s : ByteArray) (hs : s.size ≤ 1000000) (hn : numB (cutA s.data.toList) = true) (h6 : decV (cutA s.data.toList) ≤ 6) (hm : cutM s.data.toList = decide (0 < decV (cutA s.data.toList))) (w : World) (hv : Vars w) :
    Calls Tryz.prog 80 #[.string s] w (InP s w) := by
  have hin : inboxS s.data.toList = match inboxGo (decV (cutA s.data.toList)) true [] (cutZ s.data.toList) with
    | some (ts, r) => if r = [] then some ts else none
    | none => none := by unfold inboxS; rw [if_pos ⟨hn, h6, hm⟩]
  have hcut := fun w' h' => cut3 s hs w' h'
  have hnum := fun w' h' => number_list (cutA s.data.toList) (by have := cutA_len s.data.toList; rw [size_list] at this; omega) w' h'
  rw [hm] at hcut
  have hz := cutZ_len s.data.toList
  rw [size_list] at hz
  clear hm
  generalize cutA s.data.toList = A at *
  generalize cutZ s.data.toList = Z at *
  have HV := Lib.hid hv; clear hv
  have HN := Lib.hid hn; clear hn
  obtain ⟨n, hdn⟩ : ∃ n, decV A = n := ⟨_, rfl⟩
  rw [hdn] at hcut h6 hin
  have HIN := Lib.hid hin; clear hin
  have HD := Lib.hid hdn; clear hdn
  have h6' : (n : Int) ≤ 6 := by omega
  have hg : ¬ (6 : Int) < (n : Int) := by omega
  go_enter Tryz.func80, Tryz.ntmps80
  go_wp2_with (first
    | ((with_reducible show Calls _ 34 _ _ _); refine (hcut _ HV.out).mono ?_; rintro e w1 ⟨rfl, hx1⟩)
    | ((with_reducible show Calls _ 69 _ _ _); refine (hnum _ (HV.out.ext hx1)).mono ?_; rintro e w2 ⟨n', rfl, hn', hx2⟩; obtain rfl : n' = (n : Int) := (by rw [hn' HN.out, HD.out]); clear hn'; rw [HN.out]))
  have hW := hx1.go hx2
  clear hx1 hx2 hnum
  go_loopw [5, 9, 38] (fun rest l i wr => InR w n Z rest l i wr) (fun _ _ i _ => n - (intOf i).toNat)
  case atStart => exact ⟨0, [], Z, Nat.zero_le _, rfl, rfl, rfl, rfl, Nat.le_refl _, ((Mem.start w NoS).ext hW).nilRow 9 w.heap.size⟩
  case round =>
    obtain ⟨k, acc, r, hk, rfl, rfl, hgo, hacc, hrl, hM⟩ := hrel
    clear hW
    have hW : Ext w w := Below.refl _ _
    have HA := Lib.hid hacc
    have hal : (acc.map strV).length + 1 ≤ 1000000000 := by rw [List.length_map]; omega
    clear hacc
    by_cases hlt : k < n
    · have hlt' : (k : Int) < (n : Int) := by omega
      rw [show n - k = (n - k - 1) + 1 from by omega] at hgo
      by_cases hk0 : k = 0
      · have hkpos : ¬ (0 : Int) < (k : Int) := by omega
        rw [show decide (k = 0) = true from by simpa using hk0] at hgo
        clear hk0
        obtain ⟨o, ho⟩ : ∃ o, unq r = o := ⟨_, rfl⟩
        cases o with
        | none =>
          rw [inboxGo_no (show (if true = true then some r else skipB r) = some r from rfl) ho] at hgo
          have HO := Lib.hid ho; clear ho
          have HGO := Lib.hid hgo; clear hgo
          go_wp2_with (first
            | fail
            | ((with_reducible show Calls _ 95 _ _ _); refine (unq_list _ (by omega) _).mono ?_; rintro e w4 ⟨rfl, hx4⟩; replace hM := hM.ext hx4; rw [HO.out]; simp only [unqV]))
          go_ret2
          exact InP.no rfl rfl (by rw [HIN.out, HGO.out]) (hW.go hM.ext0)
        | some p =>
          obtain ⟨t, r2⟩ := p
          have hl2 := unq_len ho
          cases htx : textB t with
          | false =>
            rw [inboxGo_bad (show (if true = true then some r else skipB r) = some r from rfl) ho htx] at hgo
            have HO := Lib.hid ho; clear ho
            have HGO := Lib.hid hgo; clear hgo
            have HTX := Lib.hid htx; clear htx
            go_wp2_with (first
              | fail
              | ((with_reducible show Calls _ 95 _ _ _); refine (unq_list _ (by omega) _).mono ?_; rintro e w4 ⟨rfl, hx4⟩; replace hM := hM.ext hx4; rw [HO.out]; simp only [unqV])
              | ((with_reducible show Calls _ 27 _ _ _); refine (text_list _ (by omega) _).mono ?_; rintro e w5 ⟨rfl, rfl⟩; rw [HTX.out]))
            go_ret2
            exact InP.no rfl rfl (by rw [HIN.out, HGO.out]) (hW.go hM.ext0)
          | true =>
            rw [inboxGo_on (show (if true = true then some r else skipB r) = some r from rfl) ho htx] at hgo
            have HO := Lib.hid ho; clear ho
            have HGO := Lib.hid hgo; clear hgo
            have HTX := Lib.hid htx; clear htx
            go_wp2_with (first
              | fail
              | ((with_reducible show wpList _ _ _ _ _ (World.alloc _ (Obj.cells _ _))); apply wpList_named hM; clear hM; intro _ hM)
              | (at_builtin; apply wpList_appB hM; rfl; rfl; (conv => lhs; whnf); rfl; (focus exact el34); (first | (focus fail) | (focus (repeat (first | exact List.Mem.head _ | refine List.Mem.tail _ ?_)))); (focus (repeat (first | exact Hole.head | apply Hole.tail))); rfl; (first | (focus fail) | decide | (simp; done)); (first | (focus fail) | exact all_mk rfl); (first | omega | (focus fail)); decide; clear hM; intro _ _ _ hM; (try dsimp only at hM); (try simp only [List.setIfInBounds_toArray, List.set_cons_zero, List.set_cons_succ, List.nil_append, List.cons_append, List.length_map] at hM))
              | ((with_reducible show Calls _ 95 _ _ _); refine (unq_list _ (by omega) _).mono ?_; rintro e w4 ⟨rfl, hx4⟩; replace hM := hM.ext hx4; rw [HO.out]; simp only [unqV])
              | ((with_reducible show Calls _ 27 _ _ _); refine (text_list _ (by omega) _).mono ?_; rintro e w5 ⟨rfl, rfl⟩; rw [HTX.out]))
            go_roundw
            case rel =>
              refine ⟨k + 1, acc ++ [t], r2, by omega, by go_num, rfl, ?_, by simp [HA.out], by omega, ?_⟩
              · rw [HGO.out, show n - k - 1 = n - (k + 1) from by omega, show decide (k + 1 = 0) = false from by simp]
              · rw [List.map_append]; exact hM.drop1
            case measure => simp [intOf]; omega
      · rw [show decide (k = 0) = false from by simpa using hk0] at hgo
        have hkpos : (0 : Int) < (k : Int) := by omega
        clear hk0
        obtain ⟨o, hsk⟩ : ∃ o, skipB r = o := ⟨_, rfl⟩
        cases o with
        | none =>
          rw [inboxGo_skip hsk] at hgo
          have HGO := Lib.hid hgo; clear hgo
          have HSK := Lib.hid hsk; clear hsk
          go_wp2_with ((with_reducible show Calls _ 94 _ _ _); refine (skip_list _ _).mono ?_; rintro e w3 ⟨rfl, rfl⟩; rw [HSK.out]; simp only [Option.isSome_none])
          go_ret2
          exact InP.no rfl rfl (by rw [HIN.out, HGO.out]) (hW.go hM.ext0)
        | some r1 =>
          have hl1 := skipB_len hsk
          have HTR := Lib.hid ((prefix_skip r).2 r1 hsk)
          have HSK := Lib.hid hsk
          have hsk' := hsk; clear hsk'
          obtain ⟨o, ho⟩ : ∃ o, unq r1 = o := ⟨_, rfl⟩
          cases o with
          | none =>
            rw [inboxGo_no (show (if false = true then some r else skipB r) = some r1 from hsk) ho] at hgo
            have HO := Lib.hid ho; clear ho
            have HGO := Lib.hid hgo; clear hgo
            go_wp2_with (first
              | ((with_reducible show Calls _ 94 _ _ _); refine (skip_list _ _).mono ?_; rintro e w3 ⟨rfl, rfl⟩; rw [HTR.out, HSK.out]; simp only [Option.isSome_some])
              | ((with_reducible show Calls _ 95 _ _ _); refine (unq_list _ (by omega) _).mono ?_; rintro e w4 ⟨rfl, hx4⟩; replace hM := hM.ext hx4; rw [HO.out]; simp only [unqV]))
            go_ret2
            exact InP.no rfl rfl (by rw [HIN.out, HGO.out]) (hW.go hM.ext0)
          | some p =>
            obtain ⟨t, r2⟩ := p
            have hl2 := unq_len ho
            cases htx : textB t with
            | false =>
              rw [inboxGo_bad (show (if false = true then some r else skipB r) = some r1 from hsk) ho htx] at hgo
              have HO := Lib.hid ho; clear ho
              have HGO := Lib.hid hgo; clear hgo
              have HTX := Lib.hid htx; clear htx
              go_wp2_with (first
                | ((with_reducible show Calls _ 94 _ _ _); refine (skip_list _ _).mono ?_; rintro e w3 ⟨rfl, rfl⟩; rw [HTR.out, HSK.out]; simp only [Option.isSome_some])
                | ((with_reducible show Calls _ 95 _ _ _); refine (unq_list _ (by omega) _).mono ?_; rintro e w4 ⟨rfl, hx4⟩; replace hM := hM.ext hx4; rw [HO.out]; simp only [unqV])
                | ((with_reducible show Calls _ 27 _ _ _); refine (text_list _ (by omega) _).mono ?_; rintro e w5 ⟨rfl, rfl⟩; rw [HTX.out]))
              go_ret2
              exact InP.no rfl rfl (by rw [HIN.out, HGO.out]) (hW.go hM.ext0)
            | true =>
              rw [inboxGo_on (show (if false = true then some r else skipB r) = some r1 from hsk) ho htx] at hgo
              have HO := Lib.hid ho; clear ho
              have HGO := Lib.hid hgo; clear hgo
              have HTX := Lib.hid htx; clear htx
              go_wp2_with (first
                | ((with_reducible show Calls _ 94 _ _ _); refine (skip_list _ _).mono ?_; rintro e w3 ⟨rfl, rfl⟩; rw [HTR.out, HSK.out]; simp only [Option.isSome_some])
                | ((with_reducible show wpList _ _ _ _ _ (World.alloc _ (Obj.cells _ _))); apply wpList_named hM; clear hM; intro _ hM)
                | (at_builtin; apply wpList_appB hM; rfl; rfl; (conv => lhs; whnf); rfl; (focus exact el34); (first | (focus fail) | (focus (repeat (first | exact List.Mem.head _ | refine List.Mem.tail _ ?_)))); (focus (repeat (first | exact Hole.head | apply Hole.tail))); rfl; (first | (focus fail) | decide | (simp; done)); (first | (focus fail) | exact all_mk rfl); (first | omega | (focus fail)); decide; clear hM; intro _ _ _ hM; (try dsimp only at hM); (try simp only [List.setIfInBounds_toArray, List.set_cons_zero, List.set_cons_succ, List.nil_append, List.cons_append, List.length_map] at hM))
                | ((with_reducible show Calls _ 95 _ _ _); refine (unq_list _ (by omega) _).mono ?_; rintro e w4 ⟨rfl, hx4⟩; replace hM := hM.ext hx4; rw [HO.out]; simp only [unqV])
                | ((with_reducible show Calls _ 27 _ _ _); refine (text_list _ (by omega) _).mono ?_; rintro e w5 ⟨rfl, rfl⟩; rw [HTX.out]))
              go_roundw
              case rel =>
                refine ⟨k + 1, acc ++ [t], r2, by omega, by go_num, rfl, ?_, by simp [HA.out], by omega, ?_⟩
                · rw [HGO.out, show n - k - 1 = n - (k + 1) from by omega, show decide (k + 1 = 0) = false from by simp]
                · rw [List.map_append]; exact hM.drop1
              case measure => simp [intOf]; omega
    · obtain rfl : k = n := by omega
      rw [Nat.sub_self, inboxGo_0] at hgo
      have HGO := Lib.hid hgo; clear hgo
      by_cases hr0 : r = []
      · have e1 := strV_nil hr0
        have HR0 := Lib.hid hr0; clear hr0
        go_wp2
        go_ret2
        refine ⟨_, by rw [HIN.out, HGO.out]; simp [HR0.out], hM.rowOne (List.Mem.head _), fun ts hts => ?_, hM.ext0⟩
        rw [HIN.out, HGO.out] at hts
        simp only [HR0.out, if_true, Option.some.injEq] at hts
        subst hts
        exact hM.theRow (List.Mem.head _)
      · have e1 := strV_cons hr0
        have HR0 := Lib.hid hr0; clear hr0
        go_wp2
        go_ret2
        exact InP.no (by simp [HR0.out]) (hM.rowOne (List.Mem.head _)) (by rw [HIN.out, HGO.out]; simp [HR0.out]) hM.ext0

set_option maxHeartbeats 1000000 in
set_option maxRecDepth 100000 in
theorem inbox_any (s : ByteArray) (hs : s.size ≤ 1000000) (w : World) (hv : Vars w) : Calls Tryz.prog 80 #[.string s] w (InP s w) := by
  by_cases hn : numB (cutA s.data.toList) = true
  · by_cases h6 : decV (cutA s.data.toList) ≤ 6
    · by_cases hm : cutM s.data.toList = decide (0 < decV (cutA s.data.toList))
      · exact inbox_go s hs hn h6 hm w hv
      · have hin : inboxS s.data.toList = none := by unfold inboxS; rw [if_neg (fun h => hm h.2.2)]
        have HIN := Lib.hid hin; clear hin
        have hcut := fun w' h' => cut3 s hs w' h'
        have hnum := fun w' h' => number_list (cutA s.data.toList) (by have := cutA_len s.data.toList; rw [size_list] at this; omega) w' h'
        generalize cutM s.data.toList = M at *
        generalize cutA s.data.toList = A at *
        generalize cutZ s.data.toList = Z at *
        obtain ⟨n, hdn⟩ : ∃ n, decV A = n := ⟨_, rfl⟩
        rw [hdn] at h6 hm
        have HD := Lib.hid hdn; clear hdn
        have HN := Lib.hid hn; clear hn
        have HV := Lib.hid hv; clear hv
        have hg : (n : Int) ≤ 6 := by omega
        by_cases hp : 0 < n
        · obtain rfl : M = false := by cases M; rfl; exact absurd (by simp [hp]) hm
          clear hm
          go_enter Tryz.func80, Tryz.ntmps80
          go_wp2_with (first
            | ((with_reducible show Calls _ 34 _ _ _); refine (hcut _ HV.out).mono ?_; rintro e w1 ⟨rfl, hx1⟩)
            | ((with_reducible show Calls _ 69 _ _ _); refine (hnum _ (HV.out.ext hx1)).mono ?_; rintro e w2 ⟨n', rfl, hn', hx2⟩; obtain rfl : n' = (n : Int) := (by rw [hn' HN.out, HD.out]); clear hn'; rw [HN.out]))
          go_ret2
          exact InP.no rfl rfl HIN.out (hx1.go hx2)
        · obtain rfl : M = true := by cases M; exact absurd (by simp [hp]) hm; rfl
          clear hm
          go_enter Tryz.func80, Tryz.ntmps80
          go_wp2_with (first
            | ((with_reducible show Calls _ 34 _ _ _); refine (hcut _ HV.out).mono ?_; rintro e w1 ⟨rfl, hx1⟩)
            | ((with_reducible show Calls _ 69 _ _ _); refine (hnum _ (HV.out.ext hx1)).mono ?_; rintro e w2 ⟨n', rfl, hn', hx2⟩; obtain rfl : n' = (n : Int) := (by rw [hn' HN.out, HD.out]); clear hn'; rw [HN.out]))
          go_ret2
          exact InP.no rfl rfl HIN.out (hx1.go hx2)
    · have hin : inboxS s.data.toList = none := by unfold inboxS; rw [if_neg (fun h => h6 h.2.1)]
      have HIN := Lib.hid hin; clear hin
      have hcut := fun w' h' => cut3 s hs w' h'
      have hnum := fun w' h' => number_list (cutA s.data.toList) (by have := cutA_len s.data.toList; rw [size_list] at this; omega) w' h'
      generalize cutM s.data.toList = M at *
      generalize cutA s.data.toList = A at *
      generalize cutZ s.data.toList = Z at *
      obtain ⟨n, hdn⟩ : ∃ n, decV A = n := ⟨_, rfl⟩
      rw [hdn] at h6
      have HD := Lib.hid hdn; clear hdn
      have HN := Lib.hid hn; clear hn
      have HV := Lib.hid hv; clear hv
      have hg : (6 : Int) < (n : Int) := by omega
      go_enter Tryz.func80, Tryz.ntmps80
      go_wp2_with (first
        | ((with_reducible show Calls _ 34 _ _ _); refine (hcut _ HV.out).mono ?_; rintro e w1 ⟨rfl, hx1⟩)
        | ((with_reducible show Calls _ 69 _ _ _); refine (hnum _ (HV.out.ext hx1)).mono ?_; rintro e w2 ⟨n', rfl, hn', hx2⟩; obtain rfl : n' = (n : Int) := (by rw [hn' HN.out, HD.out]); clear hn'; rw [HN.out]))
      go_ret2
      exact InP.no rfl rfl HIN.out (hx1.go hx2)
  · have hin : inboxS s.data.toList = none := by unfold inboxS; rw [if_neg (fun h => hn h.1)]
    have hnf : numB (cutA s.data.toList) = false := by simpa using hn
    have HIN := Lib.hid hin; clear hin
    have hcut := fun w' h' => cut3 s hs w' h'
    have hnum := fun w' h' => number_list (cutA s.data.toList) (by have := cutA_len s.data.toList; rw [size_list] at this; omega) w' h'
    generalize cutM s.data.toList = M at *
    generalize cutA s.data.toList = A at *
    generalize cutZ s.data.toList = Z at *
    have HN := Lib.hid hnf; clear hnf hn
    have HV := Lib.hid hv; clear hv
    go_enter Tryz.func80, Tryz.ntmps80
    go_wp2_with (first
      | ((with_reducible show Calls _ 34 _ _ _); refine (hcut _ HV.out).mono ?_; rintro e w1 ⟨rfl, hx1⟩)
      | ((with_reducible show Calls _ 69 _ _ _); refine (hnum _ (HV.out.ext hx1)).mono ?_; rintro e w2 ⟨n', rfl, hn', hx2⟩; clear hn'; rw [HN.out]))
    go_ret2
    exact InP.no rfl rfl HIN.out (hx1.go hx2)
end Go.Proofs.YtigfkfjlfpndfaaGreatDoor
