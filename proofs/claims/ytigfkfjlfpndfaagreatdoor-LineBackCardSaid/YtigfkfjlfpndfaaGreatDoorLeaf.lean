/-
  The leaf functions on strings: what they compute.
-/
import Derived.Test.YtigfkfjlfpndfaaGreatDoorBase
namespace Go.Proofs.YtigfkfjlfpndfaaGreatDoor
open Go.RowKit Sp

theorem badB_lt {c : UInt8} (h : (c.toNat : Int) < 32) : badB c = true := by simp [badB]; omega
theorem badB_gt {c : UInt8} (h : (126 : Int) < (c.toNat : Int)) : badB c = true := by simp [badB]; omega
theorem badB_no {c : UInt8} (h : ¬ (c.toNat : Int) < 32) (h' : ¬ (126 : Int) < (c.toNat : Int)) : badB c = false := by simp [badB]; omega

/-- the bytes ahead of place k may stand in a text -/
def Fine (s : ByteArray) (k : Nat) : Prop := ∀ j (_ : j < k) (h' : j < s.size), badB s[j] = false
theorem Fine.zero (s : ByteArray) : Fine s 0 := fun j h => by omega
theorem Fine.succ {s : ByteArray} {k : Nat} (h : Fine s k) (hk : k < s.size) (hb : badB s[k] = false) : Fine s (k + 1) := by
  intro j hj h'
  by_cases e : j = k
  · subst e; exact hb
  · exact h j (by omega) h'
theorem Fine.hit {s : ByteArray} {k : Nat} (h : Fine s k) (hk : k < s.size) (hb : badB s[k] = true) : oddOf s.data.toList = k :=
  oddOf_hit (by simpa using hk) hb (fun j hj => h j hj (by omega))
theorem Fine.none {s : ByteArray} {k : Nat} (h : Fine s k) (hk : ¬ k < s.size) : oddOf s.data.toList = -1 :=
  oddOf_none (fun j hj => h j (by simp at hj; omega) (by simpa using hj))

set_option maxHeartbeats 400000 in
theorem Odd_any (s : ByteArray) (w : World) (hs : s.size ≤ 140737488351232) :
    Calls Tryz.prog 45 #[.string s] w fun e w' => e = .returned (.int .i64 (oddOf s.data.toList)) ∧ w' = w := by
  go_enter Tryz.func45, Tryz.ntmps45
  go_wp2
  go_loop [3] (fun i => ∃ k : Nat, k ≤ s.size ∧ i = .int .i64 k ∧ Fine s k) (fun i => s.size - (intOf i).toNat)
  case atStart => exact ⟨0, Nat.zero_le _, rfl, Fine.zero s⟩
  case round =>
    obtain ⟨k, hk, rfl, hinv⟩ := hrel
    by_cases hlt : k < s.size
    · by_cases h1 : (s[k].toNat : Int) < 32
      · go_wp2
        go_ret
        exact ⟨ret_int (hinv.hit hlt (badB_lt h1)).symm, rfl⟩
      · by_cases h2 : (126 : Int) < (s[k].toNat : Int)
        · go_wp2
          go_ret
          exact ⟨ret_int (hinv.hit hlt (badB_gt h2)).symm, rfl⟩
        · go_wp2
          go_round
          case rel => exact ⟨k + 1, by omega, by go_num, hinv.succ hlt (badB_no h1 h2)⟩
          case measure => simp [intOf]; omega
    · go_wp2
      go_ret
      exact ⟨ret_int (hinv.none hlt).symm, rfl⟩

set_option maxHeartbeats 400000 in
theorem odd_any (s : ByteArray) (w : World) (hs : s.size ≤ 140737488351232) :
    Calls Tryz.prog 56 #[.string s] w fun e w' => e = .returned (.int .i64 (oddOf s.data.toList)) ∧ w' = w := by
  go_enter Tryz.func56, Tryz.ntmps56
  go_wp2
  go_loop [6] (fun i => ∃ k : Nat, k ≤ s.size ∧ i = .int .i64 k ∧ Fine s k) (fun i => s.size - (intOf i).toNat)
  case atStart => exact ⟨0, Nat.zero_le _, rfl, Fine.zero s⟩
  case round =>
    obtain ⟨k, hk, rfl, hinv⟩ := hrel
    by_cases hlt : k < s.size
    · by_cases h1 : (s[k].toNat : Int) < 32
      · go_wp2
        go_ret
        exact ⟨ret_int (hinv.hit hlt (badB_lt h1)).symm, rfl⟩
      · by_cases h2 : (126 : Int) < (s[k].toNat : Int)
        · go_wp2
          go_ret
          exact ⟨ret_int (hinv.hit hlt (badB_gt h2)).symm, rfl⟩
        · go_wp2
          go_round
          case rel => exact ⟨k + 1, by omega, by go_num, hinv.succ hlt (badB_no h1 h2)⟩
          case measure => simp [intOf]; omega
    · go_wp2
      go_ret
      exact ⟨ret_int (hinv.none hlt).symm, rfl⟩

theorem ret_bool {a b : Bool} (h : a = b) : Ending.returned (.bool a) = .returned (.bool b) := by rw [h]

set_option maxHeartbeats 400000 in
theorem rText_any (s : ByteArray) (w : World) (hs : s.size ≤ 140737488351232) :
    Calls Tryz.prog 28 #[.string s] w fun e w' => e = .returned (.bool (textB s.data.toList)) ∧ w' = w := by
  have hc := fun w' => Odd_any s w' hs
  have hT : textB s.data.toList = (decide (1 ≤ s.size) && decide (s.size ≤ 48) && decide (oddOf s.data.toList < 0)) := rfl
  generalize oddOf s.data.toList = o at hc hT
  rw [hT]; clear hT
  by_cases h1 : 1 ≤ s.size
  · by_cases h2 : s.size ≤ 48
    · go_enter Tryz.func28, Tryz.ntmps28
      go_wp2_with (go_at_call 45; refine (hc _).mono ?_; rintro e w' ⟨rfl, rfl⟩)
      go_ret
      exact ⟨ret_bool (by simp [h1, h2]), rfl⟩
    · go_enter Tryz.func28, Tryz.ntmps28
      go_wp2
      go_ret
      exact ⟨ret_bool (by first | (simp; done) | (simp; intros; omega)), rfl⟩
  · go_enter Tryz.func28, Tryz.ntmps28
    go_wp2
    go_ret
    exact ⟨ret_bool (by first | (simp; done) | (simp; intros; omega)), rfl⟩

set_option maxHeartbeats 400000 in
theorem lText_any (s : ByteArray) (w : World) (hs : s.size ≤ 140737488351232) :
    Calls Tryz.prog 27 #[.string s] w fun e w' => e = .returned (.bool (textB s.data.toList)) ∧ w' = w := by
  have hc := fun w' => odd_any s w' hs
  have hT : textB s.data.toList = (decide (1 ≤ s.size) && decide (s.size ≤ 48) && decide (oddOf s.data.toList < 0)) := rfl
  generalize oddOf s.data.toList = o at hc hT
  rw [hT]; clear hT
  by_cases h1 : 1 ≤ s.size
  · have e1 := str_some h1
    by_cases h2 : s.size ≤ 48
    · go_enter Tryz.func27, Tryz.ntmps27
      go_wp2_with (go_at_call 56; refine (hc _).mono ?_; rintro e w' ⟨rfl, rfl⟩)
      go_ret
      exact ⟨ret_bool (by simp [h1, h2]), rfl⟩
    · go_enter Tryz.func27, Tryz.ntmps27
      go_wp2
      go_ret
      exact ⟨ret_bool (by first | (simp; done) | (simp; intros; omega)), rfl⟩
  · have e1 := str_none h1
    go_enter Tryz.func27, Tryz.ntmps27
    go_wp2
    go_ret
    exact ⟨ret_bool (by first | (simp; done) | (simp; intros; omega)), rfl⟩

/-! ### quoted texts -/
/-- what stands behind k rounds of quoting -/
def Qd (s o : ByteArray) (k : Nat) : Prop := o.data.toList = 34 :: (s.data.toList.take k).flatMap qB
theorem Qd.zero (s : ByteArray) : Qd s ⟨#[34]⟩ 0 := by simp [Qd]
theorem take_succ_data (s : ByteArray) (k : Nat) (h : k < s.size) : s.data.toList.take (k + 1) = s.data.toList.take k ++ [s[k]] := by
  rw [List.take_succ_eq_append_getElem (by simpa using h)]; rfl
theorem extract_one (s : ByteArray) (k : Nat) (h : k < s.size) : (s.extract k (k + 1)).data.toList = [s[k]] := by
  rw [Lib.extract_data, show k + 1 - k = 1 from by omega, List.drop_eq_getElem_cons (by simpa using h)]; rfl
theorem Qd.plain {s o : ByteArray} {k : Nat} (h : Qd s o k) (hk : k < s.size) (h1 : ¬ (s[k].toNat : Int) = 34) (h2 : ¬ (s[k].toNat : Int) = 92) : Qd s (o ++ s.extract k (k + 1)) (k + 1) := by
  unfold Qd at *
  have e1 : s[k] ≠ 34 := fun e => h1 (by rw [e]; rfl)
  have e2 : s[k] ≠ 92 := fun e => h2 (by rw [e]; rfl)
  rw [ByteArray.data_append, Array.toList_append, h, extract_one s k hk, take_succ_data s k hk, List.flatMap_append]
  simp [qB, e1, e2]
theorem Qd.esc {s o : ByteArray} {k : Nat} (h : Qd s o k) (hk : k < s.size) (h1 : (s[k].toNat : Int) = 34 ∨ (s[k].toNat : Int) = 92) : Qd s (o ++ ⟨#[92]⟩ ++ s.extract k (k + 1)) (k + 1) := by
  unfold Qd at *
  have e : s[k] = 34 ∨ s[k] = 92 := h1.imp (fun h => UInt8.toNat_inj.1 (by simpa using (by omega : s[k].toNat = 34))) (fun h => UInt8.toNat_inj.1 (by simpa using (by omega : s[k].toNat = 92)))
  rw [ByteArray.data_append, ByteArray.data_append, Array.toList_append, Array.toList_append, h, extract_one s k hk, take_succ_data s k hk, List.flatMap_append]
  simp [qB, e]
theorem Qd.size {s o : ByteArray} {k : Nat} (h : Qd s o k) (hk : k ≤ s.size) : o.size ≤ 1 + 2 * k := by
  rw [← size_list, h, List.length_cons]
  have : ∀ l : List UInt8, (l.flatMap qB).length ≤ 2 * l.length := by
    intro l
    induction l with
    | nil => simp
    | cons c r ih => simp only [List.flatMap_cons, List.length_append, List.length_cons]; have : (qB c).length ≤ 2 := by unfold qB; split <;> simp
                     omega
  have h2 := this (s.data.toList.take k)
  rw [List.length_take, size_list] at h2
  omega
theorem Qd.done {s o : ByteArray} {k : Nat} (h : Qd s o k) (hk : ¬ k < s.size) : (o ++ ⟨#[34]⟩ : ByteArray) = ⟨(quote s.data.toList).toArray⟩ := by
  unfold Qd at h
  have : (o ++ ⟨#[34]⟩ : ByteArray).data.toList = quote s.data.toList := by
    rw [ByteArray.data_append, Array.toList_append, h, List.take_of_length_le (by rw [size_list]; omega)]; simp [quote]
  rw [← this]

set_option maxHeartbeats 400000 in
theorem rQuote_any (s : ByteArray) (w : World) (hs : s.size ≤ 140737488351232) :
    Calls Tryz.prog 26 #[.string s] w fun e w' => e = .returned (.string ⟨(quote s.data.toList).toArray⟩) ∧ w' = w := by
  go_enter Tryz.func26, Tryz.ntmps26
  go_wp2
  go_loop [3, 4] (fun o i => ∃ (k : Nat) (q : ByteArray), k ≤ s.size ∧ i = .int .i64 k ∧ o = .string q ∧ Qd s q k) (fun _ i => s.size - (intOf i).toNat)
  case atStart => exact ⟨0, _, Nat.zero_le _, rfl, rfl, Qd.zero s⟩
  case round =>
    obtain ⟨k, q, hk, rfl, rfl, hinv⟩ := hrel
    have hq := hinv.size hk
    by_cases hlt : k < s.size
    · by_cases h1 : (s[k].toNat : Int) = 34
      · have hn := hinv.esc hlt (.inl h1)
        have H := Lib.hid h1; clear h1
        have h1b : ((s[k].toNat : Int) == 34) = true := by simpa using H.out
        go_wp2
        go_round
        case rel => exact ⟨k + 1, _, by omega, by go_num, rfl, hn⟩
        case measure => simp [intOf]; omega
      · by_cases h2 : (s[k].toNat : Int) = 92
        · have hn := hinv.esc hlt (.inr h2)
          have H := Lib.hid h2; clear h2
          have h1b : ((s[k].toNat : Int) == 34) = false := by simpa using h1
          have h2b : ((s[k].toNat : Int) == 92) = true := by simpa using H.out
          go_wp2
          go_round
          case rel => exact ⟨k + 1, _, by omega, by go_num, rfl, hn⟩
          case measure => simp [intOf]; omega
        · have hn := hinv.plain hlt h1 h2
          have h1b : ((s[k].toNat : Int) == 34) = false := by simpa using h1
          have h2b : ((s[k].toNat : Int) == 92) = false := by simpa using h2
          go_wp2
          go_round
          case rel => exact ⟨k + 1, _, by omega, by go_num, rfl, hn⟩
          case measure => simp [intOf]; omega
    · go_wp2
      go_ret
      exact ⟨by rw [hinv.done hlt]; rfl, rfl⟩

end Go.Proofs.YtigfkfjlfpndfaaGreatDoor
