/-
  Names, numbers and digits: what the functions on them compute.
-/
import Derived.Test.YtigfkfjlfpndfaaGreatDoorLeaf
import Derived.Laws.RangeAny
namespace Go.Proofs.YtigfkfjlfpndfaaGreatDoor
open Go.RowKit Sp

/-- the bytes ahead of place k are of a kind -/
def AllB (p : UInt8 → Bool) (s : ByteArray) (k : Nat) : Prop := ∀ j (_ : j < k) (h' : j < s.size), p s[j] = true
theorem AllB.zero (p : UInt8 → Bool) (s : ByteArray) : AllB p s 0 := fun j h => by omega
theorem AllB.succ {p : UInt8 → Bool} {s : ByteArray} {k : Nat} (h : AllB p s k) (hk : k < s.size) (hb : p s[k] = true) : AllB p s (k + 1) := by
  intro j hj h'
  by_cases e : j = k
  · subst e; exact hb
  · exact h j (by omega) h'
theorem AllB.all {p : UInt8 → Bool} {s : ByteArray} {k : Nat} (h : AllB p s k) (hk : ¬ k < s.size) : s.data.toList.all p = true := by
  rw [List.all_eq_true]
  intro x hx
  obtain ⟨j, hj, rfl⟩ := List.getElem_of_mem hx
  exact h j (by rw [size_list] at hj; omega) (by rw [size_list] at hj; exact hj)
theorem all_false {p : UInt8 → Bool} {s : ByteArray} {k : Nat} (hk : k < s.size) (hb : p s[k] = false) : s.data.toList.all p = false := by
  rw [List.all_eq_false]
  exact ⟨s[k], by rw [← get_list s k hk]; exact List.getElem_mem _, by simp [hb]⟩

theorem nameC_az {c : UInt8} (h1 : (97 : Int) ≤ (c.toNat : Int)) (h2 : (c.toNat : Int) ≤ 122) : nameC c = true := by
  simp only [nameC, Bool.or_eq_true, Bool.and_eq_true, decide_eq_true_eq]; omega
theorem nameC_09 {c : UInt8} (h1 : (48 : Int) ≤ (c.toNat : Int)) (h2 : (c.toNat : Int) ≤ 57) : nameC c = true := by
  simp only [nameC, Bool.or_eq_true, Bool.and_eq_true, decide_eq_true_eq]; omega
theorem nameC_dash {c : UInt8} (h1 : (c.toNat : Int) = 45) : nameC c = true := by
  simp only [nameC, Bool.or_eq_true, Bool.and_eq_true, decide_eq_true_eq]; omega
theorem nameC_no {c : UInt8} (h1 : ¬ ((97 : Int) ≤ (c.toNat : Int) ∧ (c.toNat : Int) ≤ 122)) (h2 : ¬ ((48 : Int) ≤ (c.toNat : Int) ∧ (c.toNat : Int) ≤ 57)) (h3 : ¬ (c.toNat : Int) = 45) : nameC c = false := by
  have : ¬ nameC c = true := by simp only [nameC, Bool.or_eq_true, Bool.and_eq_true, decide_eq_true_eq]; omega
  simpa using this
theorem nameB_no {s : ByteArray} {k : Nat} (hk : k < s.size) (hb : nameC s[k] = false) : nameB s.data.toList = false := by
  simp [nameB, all_false hk hb]
theorem nameB_end {s : ByteArray} {k : Nat} (h : AllB nameC s k) (hk : ¬ k < s.size) : nameB s.data.toList = (decide (1 ≤ s.size) && decide (s.size ≤ 16)) := by
  unfold nameB
  rw [h.all hk, size_list]; simp

set_option maxHeartbeats 1000000 in
theorem rName_any (s : ByteArray) (w : World) (hs : s.size ≤ 140737488351232) :
    Calls Tryz.prog 48 #[.string s] w fun e w' => e = .returned (.bool (nameB s.data.toList)) ∧ w' = w := by
  go_enter Tryz.func48, Tryz.ntmps48
  go_wp2
  go_loop [3] (fun i => ∃ k : Nat, k ≤ s.size ∧ i = .int .i64 k ∧ AllB nameC s k) (fun i => s.size - (intOf i).toNat)
  case atStart => exact ⟨0, Nat.zero_le _, rfl, AllB.zero _ s⟩
  case round =>
    obtain ⟨k, hk, rfl, hinv⟩ := hrel
    by_cases hlt : k < s.size
    · obtain ⟨c, hc⟩ : ∃ c, c = s[k] := ⟨_, rfl⟩
      by_cases h1 : (97 : Int) ≤ (s[k].toNat : Int) ∧ (s[k].toNat : Int) ≤ 122
      · have hn := hinv.succ hlt (nameC_az h1.1 h1.2)
        obtain ⟨h1, h1'⟩ := h1
        go_wp2
        go_round
        case rel => exact ⟨k + 1, by omega, by go_num, hn⟩
        case measure => simp [intOf]; omega
      · by_cases h2 : (48 : Int) ≤ (s[k].toNat : Int) ∧ (s[k].toNat : Int) ≤ 57
        · have hn := hinv.succ hlt (nameC_09 h2.1 h2.2)
          obtain ⟨h2, h2'⟩ := h2
          clear h1
          go_wp2
          go_round
          case rel => exact ⟨k + 1, by omega, by go_num, hn⟩
          case measure => simp [intOf]; omega
        · by_cases h3 : (s[k].toNat : Int) = 45
          · have hn := hinv.succ hlt (nameC_dash h3)
            have h4 : (s[k].toNat : Int) < 48 := by omega
            have H := Lib.hid h3
            have h3b : ((s[k].toNat : Int) == 45) = true := by simpa using h3
            clear h1 h2 h3
            go_wp2
            go_round
            case rel => exact ⟨k + 1, by omega, by go_num, hn⟩
            case measure => simp [intOf]; omega
          · have hn := nameB_no hlt (nameC_no h1 h2 h3)
            have h3b : ((s[k].toNat : Int) == 45) = false := by simpa using h3
            have H := Lib.hid hn; clear hn
            by_cases g1 : (97 : Int) ≤ (s[k].toNat : Int)
            · have g2 : decide ((s[k].toNat : Int) ≤ 122) = false := by simp; omega
              have g4 : decide ((s[k].toNat : Int) ≤ 57) = false := by simp; omega
              clear h1 h2 h3
              go_wp2
              go_ret
              exact ⟨ret_bool H.out.symm, rfl⟩
            · by_cases g3 : (48 : Int) ≤ (s[k].toNat : Int)
              · have g2 : decide ((s[k].toNat : Int) ≤ 57) = false := by simp; omega
                clear h1 h2 h3
                go_wp2
                go_ret
                exact ⟨ret_bool H.out.symm, rfl⟩
              · clear h1 h2 h3
                go_wp2
                go_ret
                exact ⟨ret_bool H.out.symm, rfl⟩
    · have hn := nameB_end hinv hlt
      have H := Lib.hid hn; clear hn
      by_cases h1 : 1 ≤ s.size
      · go_wp2
        go_ret
        exact ⟨ret_bool (by rw [H.out]; simp [h1]; omega), rfl⟩
      · go_wp2
        go_ret
        exact ⟨ret_bool (by rw [H.out]; simp [h1]), rfl⟩

/-! ### a number's digits -/
theorem digC_yes {c : UInt8} (h1 : (48 : Int) ≤ (c.toNat : Int)) (h2 : (c.toNat : Int) ≤ 57) : digC c = true := by
  simp only [digC, Bool.and_eq_true, decide_eq_true_eq]; omega
theorem digC_lo {c : UInt8} (h1 : (c.toNat : Int) < 48) : digC c = false := by
  have : ¬ digC c = true := by simp only [digC, Bool.and_eq_true, decide_eq_true_eq]; omega
  simpa using this
theorem digC_hi {c : UInt8} (h1 : (57 : Int) < (c.toNat : Int)) : digC c = false := by
  have : ¬ digC c = true := by simp only [digC, Bool.and_eq_true, decide_eq_true_eq]; omega
  simpa using this

/-- what Number tells: the number, and whether it is one -/
def numR (l : List UInt8) : Int × Bool := if l.all digC = true ∧ l.length ≤ 9 then ((decV l : Int), canonB l) else (0, false)

theorem numR_bad {s : ByteArray} {k : Nat} (hk : k < s.size) (h : digC s[k] = false) : numR s.data.toList = (0, false) := by
  unfold numR; rw [if_neg (by rw [all_false hk h]; simp)]
theorem numR_long {s : ByteArray} (h : 9 < s.size) : numR s.data.toList = (0, false) := by
  unfold numR; rw [if_neg (by rw [size_list]; omega)]
theorem AllB.take {p : UInt8 → Bool} {s : ByteArray} {k : Nat} (h : AllB p s k) (hk : k ≤ s.size) : (s.data.toList.take k).all p = true := by
  rw [List.all_eq_true]
  intro x hx
  obtain ⟨j, hj, rfl⟩ := List.getElem_of_mem hx
  rw [List.length_take, size_list] at hj
  rw [List.getElem_take]
  exact h j (by omega) (by omega)
theorem dec_bound {s : ByteArray} {k : Nat} (h : AllB digC s k) (hk : k ≤ s.size) (h9 : k ≤ 9) : decV (s.data.toList.take k) < 1000000000 := by
  have := decV_lt _ (h.take hk)
  rw [List.length_take, size_list] at this
  exact Nat.lt_of_lt_of_le this (Nat.le_trans (Nat.pow_le_pow_right (by omega) (show min k s.size ≤ 9 by omega)) (by decide))
theorem dec_step {s : ByteArray} {k : Nat} (hlt : k < s.size) (h1 : ¬ (s[k].toNat : Int) < 48) : ((decV (s.data.toList.take (k + 1)) : Nat) : Int) = (decV (s.data.toList.take k) : Int) * 10 + ((s[k].toNat : Int) - 48) := by
  rw [take_succ_data s k hlt, decV_snoc]; omega
theorem numR_end {s : ByteArray} {k : Nat} (h : AllB digC s k) (hk : k ≤ s.size) (h9 : k ≤ 9) (hlt : ¬ k < s.size) : numR s.data.toList = ((decV (s.data.toList.take k) : Int), canonB s.data.toList) := by
  have e : s.data.toList.take k = s.data.toList := List.take_of_length_le (by rw [size_list]; omega)
  unfold numR
  rw [e, if_pos ⟨h.all hlt, by rw [size_list]; omega⟩]

theorem head_data {s : ByteArray} (h0 : 1 ≤ s.size) : s.data.toList.head? = some (s[0]'h0) := by
  rw [List.head?_eq_getElem?, List.getElem?_eq_getElem (by rw [size_list]; omega)]; rfl
theorem canon_nz {s : ByteArray} (h0 : 1 ≤ s.size) (h : ¬ ((s[0]'h0).toNat : Int) = 48) : canonB s.data.toList = true := by
  have e := str_some h0
  rw [ByteArray.toList_eq] at e
  unfold canonB
  rw [e, head_data h0]
  simp only [Option.map_some, ne_eq, Option.some.injEq, Bool.not_false, Bool.true_and, Bool.or_eq_true, decide_eq_true_eq]
  left; omega
theorem canon_e {s : ByteArray} (h0 : ¬ 1 ≤ s.size) : canonB s.data.toList = false := by
  have e := str_none h0
  rw [ByteArray.toList_eq] at e
  unfold canonB
  rw [e]; rfl
theorem canon_z {s : ByteArray} (h0 : 1 ≤ s.size) (h : ((s[0]'h0).toNat : Int) = 48) : canonB s.data.toList = (s.toList == [48]) := by
  have e := str_some h0
  rw [ByteArray.toList_eq] at e ⊢
  have h1 := head_data h0
  have h2 : s[0]'h0 = 48 := UInt8.toNat_inj.1 (by simpa using (by omega : (s[0]'h0).toNat = 48))
  rw [h2] at h1
  generalize s.data.toList = l at *
  cases l with
  | nil => simp at h1
  | cons c r =>
    simp only [List.head?_cons, Option.some.injEq] at h1
    subst h1
    cases r <;> simp [canonB]

set_option maxHeartbeats 1000000 in
theorem Number_any (s : ByteArray) (w : World) (hs : s.size ≤ 140737488351232) :
    Calls Tryz.prog 44 #[.string s] w fun e w' => e = .returned (.tuple #[.int .i64 (numR s.data.toList).1, .bool (numR s.data.toList).2]) ∧ w' = w := by
  go_enter Tryz.func44, Tryz.ntmps44
  go_wp2
  go_loop [4, 5] (fun n i => ∃ k : Nat, k ≤ s.size ∧ k ≤ 9 ∧ i = .int .i64 k ∧ n = .int .i64 (decV (s.data.toList.take k)) ∧ AllB digC s k) (fun _ i => s.size - (intOf i).toNat)
  case atStart => exact ⟨0, Nat.zero_le _, Nat.zero_le _, rfl, rfl, AllB.zero _ s⟩
  case round =>
    obtain ⟨k, hk, hk9, rfl, rfl, hinv⟩ := hrel
    by_cases hlt : k < s.size
    · by_cases h1 : (s[k].toNat : Int) < 48
      · have hn := Lib.hid (numR_bad hlt (digC_lo h1))
        go_wp2
        go_ret2
        exact ⟨by rw [hn.out]; rfl, rfl⟩
      · by_cases h2 : (57 : Int) < (s[k].toNat : Int)
        · have hn := Lib.hid (numR_bad hlt (digC_hi h2))
          go_wp2
          go_ret2
          exact ⟨by rw [hn.out]; rfl, rfl⟩
        · have hb := dec_bound hinv hk hk9
          have HV := Lib.hid (dec_step hlt h1)
          have hc := s[k].toNat_lt
          by_cases h9 : 9 ≤ k
          · have hn := Lib.hid (numR_long (s := s) (by omega))
            go_wp2
            go_ret2
            exact ⟨by rw [hn.out]; rfl, rfl⟩
          · go_wp2
            go_round
            case rel => exact ⟨k + 1, by omega, by omega, by go_num, by rw [HV.out], hinv.succ hlt (digC_yes (by omega) (by omega))⟩
            case measure => simp [intOf]; omega
    · have hn := Lib.hid (numR_end hinv hk hk9 hlt)
      by_cases h0 : 1 ≤ s.size
      · have e1 := str_some h0
        by_cases hz : ((s[0]'h0).toNat : Int) = 48
        · have HC := Lib.hid (canon_z h0 hz)
          have hzb : (((s[0]'h0).toNat : Int) != 48) = false := by simp [hz]
          have HZ := Lib.hid hz; clear hz
          go_wp2
          go_ret2
          exact ⟨by rw [hn.out, HC.out]; rfl, rfl⟩
        · have HC := Lib.hid (canon_nz h0 hz)
          have hzb : (((s[0]'h0).toNat : Int) != 48) = true := by simp [hz]
          go_wp2
          go_ret2
          exact ⟨by rw [hn.out, HC.out]; rfl, rfl⟩
      · have e1 := str_none h0
        have HC := Lib.hid (canon_e h0)
        go_wp2
        go_ret2
        exact ⟨by rw [hn.out, HC.out]; rfl, rfl⟩

end Go.Proofs.YtigfkfjlfpndfaaGreatDoor
