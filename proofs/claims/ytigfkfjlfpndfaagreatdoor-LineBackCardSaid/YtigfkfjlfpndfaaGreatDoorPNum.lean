/-
  Plain: numbers and their digits.
-/
import Derived.Test.YtigfkfjlfpndfaaGreatDoorCmdEq
namespace Go.Proofs.YtigfkfjlfpndfaaGreatDoor
open Go.RowKit Sp

theorem digC_of {d : Nat} (h : d < 10) : digC (UInt8.ofNat (48 + d)) = true ∧ (UInt8.ofNat (48 + d)).toNat = 48 + d := by
  have : (UInt8.ofNat (48 + d)).toNat = 48 + d := by simp; omega
  exact ⟨by simp only [digC, Bool.and_eq_true, decide_eq_true_eq]; omega, this⟩
theorem digC_iff {c : UInt8} : digC c = true ↔ 48 ≤ c.toNat ∧ c.toNat ≤ 57 := by
  simp only [digC, Bool.and_eq_true, decide_eq_true_eq]
theorem dec_digs (n : Nat) : (Lib.decDigits n).all digC = true := by
  induction n using Nat.strongRecOn with
  | ind n ih =>
    rw [Lib.decDigits]
    split
    · rename_i h; simp only [List.all_cons, List.all_nil, Bool.and_true]; exact (digC_of h).1
    · rw [List.all_append, ih (n / 10) (by omega)]
      simp only [List.all_cons, List.all_nil, Bool.and_true, Bool.true_and]
      exact (digC_of (by omega)).1
theorem decV_dec (n : Nat) : decV (Lib.decDigits n) = n := by
  induction n using Nat.strongRecOn with
  | ind n ih =>
    rw [Lib.decDigits]
    split
    · rename_i h
      have := (digC_of h).2
      simp only [decV, List.foldl_cons, List.foldl_nil, this]; omega
    · have := (digC_of (show n % 10 < 10 by omega)).2
      rw [decV_snoc, ih (n / 10) (by omega), this]; omega
theorem dec_ne (n : Nat) : Lib.decDigits n ≠ [] := by
  rw [Lib.decDigits]; split <;> simp
theorem dec_head (n : Nat) (h1 : 1 ≤ n) : ∃ c r, Lib.decDigits n = c :: r ∧ c.toNat ≠ 48 := by
  induction n using Nat.strongRecOn with
  | ind n ih =>
    rw [Lib.decDigits]
    split
    · rename_i h; exact ⟨_, [], rfl, by rw [(digC_of h).2]; omega⟩
    · obtain ⟨c, r, h2, h3⟩ := ih (n / 10) (by omega) (by omega)
      exact ⟨c, r ++ [UInt8.ofNat (48 + n % 10)], by rw [h2]; rfl, h3⟩
theorem dec_canon (n : Nat) : canonB (Lib.decDigits n) = true := by
  by_cases h : 1 ≤ n
  · obtain ⟨c, r, h2, h3⟩ := dec_head n h
    rw [h2]; unfold canonB
    simp [h3]
  · obtain rfl : n = 0 := by omega
    rw [Lib.decDigits_one (by omega)]; rfl
theorem canon_cut {l : List UInt8} {c : UInt8} (hl : l ≠ []) (h : canonB (l ++ [c]) = true) : canonB l = true ∧ ∃ a r, l = a :: r ∧ a.toNat ≠ 48 := by
  cases l with
  | nil => exact absurd rfl hl
  | cons a r =>
    have h48 : a.toNat ≠ 48 := by
      unfold canonB at h
      simpa using h
    exact ⟨by unfold canonB; simp [h48], a, r, rfl, h48⟩
theorem dec_of (l : List UInt8) (h : l.all digC = true) (hc : canonB l = true) : Lib.decDigits (decV l) = l := by
  induction l using List.reverseRecOn' with
  | nil => simp [canonB] at hc
  | snoc l c ih =>
    rw [List.all_append, Bool.and_eq_true] at h
    have hcd : 48 ≤ c.toNat ∧ c.toNat ≤ 57 := digC_iff.1 (by simpa using h.2)
    have hc48 : UInt8.ofNat (48 + (c.toNat - 48)) = c := by
      rw [show 48 + (c.toNat - 48) = c.toNat from by omega]; simp
    by_cases hl : l = []
    · subst hl
      rw [decV_snoc]
      simp only [decV, List.foldl_nil, Nat.zero_mul, Nat.zero_add, List.nil_append]
      rw [Lib.decDigits_one (by omega), hc48]
    · obtain ⟨h1, a, r, h2, h3⟩ := canon_cut hl hc
      have h4 := ih h.1 h1
      have h5 : 1 ≤ decV l := by
        rcases Nat.eq_zero_or_pos (decV l) with e | e
        · rw [e, Lib.decDigits_one (by omega), h2] at h4
          injection h4 with h4 _
          exact absurd (by rw [← h4]; rfl) h3
        · exact e
      rw [decV_snoc, Lib.decDigits, dif_neg (by omega), show (decV l * 10 + (c.toNat - 48)) / 10 = decV l from by omega,
        show (decV l * 10 + (c.toNat - 48)) % 10 = c.toNat - 48 from by omega, h4, hc48]

theorem parse_digs : ∀ (l : List UInt8) (acc : Nat), l.all digC = true → (acc + 1) * 10 ^ l.length ≤ 10 ^ 18 → Lib.parseUint10 acc l = .ok (l.foldl (fun a c => a * 10 + (c.toNat - 48)) acc)
  | [], acc, _, _ => rfl
  | c :: r, acc, h, hb => by
    rw [List.all_cons, Bool.and_eq_true] at h
    have hc := digC_iff.1 h.1
    rw [List.length_cons, Nat.pow_succ] at hb
    have h10 : 1 ≤ 10 ^ r.length := Nat.pow_pos (by omega)
    have hb2 : (acc + 1) * 10 * 10 ^ r.length ≤ 10 ^ 18 := by rw [Nat.mul_assoc, Nat.mul_comm 10]; exact hb
    have hb3 : (acc + 1) * 10 ≤ 10 ^ 18 := Nat.le_trans (Nat.le_mul_of_pos_right _ h10) hb2
    rw [Lib.parseUint10, if_pos hc, if_neg (by omega), if_neg (by omega)]
    rw [parse_digs r _ h.2 (Nat.le_trans (Nat.mul_le_mul_right _ (by omega)) hb2)]
    rfl
theorem atoi_digs (l : List UInt8) (h : l.all digC = true) (hl : l.length ≤ 9) (hn : l ≠ []) : Lib.atoiAll l = .ok (decV l : Int) := by
  cases l with
  | nil => exact absurd rfl hn
  | cons c r =>
    have hc := digC_iff.1 (by rw [List.all_cons, Bool.and_eq_true] at h; exact h.1)
    have hp := parse_digs (c :: r) 0 h (by
      have : 10 ^ (c :: r).length ≤ 10 ^ 9 := Nat.pow_le_pow_right (by omega) hl
      have e : (10 : Nat) ^ 9 ≤ 10 ^ 18 := by decide
      omega)
    have hlt : decV (c :: r) < 10 ^ 9 := Nat.lt_of_lt_of_le (decV_lt _ h) (Nat.pow_le_pow_right (by omega) hl)
    unfold Lib.atoiAll
    simp only
    rw [if_neg (by omega)]
    unfold Lib.parseMag
    rw [if_neg (by simp), hp]
    have e9 : (10 : Nat) ^ 9 = 1000000000 := by decide
    have hlt' : (c :: r).foldl (fun a c => a * 10 + (c.toNat - 48)) 0 < 1000000000 := by rw [← e9]; exact hlt
    simp only
    rw [if_neg (by omega), if_neg (by omega), if_neg (by omega)]
    rfl
theorem itoa_nat (n : Nat) : Lib.itoa (n : Int) = Lib.decDigits n := by unfold Lib.itoa; rw [if_neg (by omega)]; simp

/-- line.number and the reference's Number tell the same texts -/
theorem lineNum_num (l : List UInt8) : lineNum l = numB l := by
  rw [Bool.eq_iff_iff]
  constructor
  · intro h
    unfold lineNum at h
    split at h
    · rename_i v hv
      simp only [Bool.and_eq_true, decide_eq_true_eq, beq_iff_eq] at h
      obtain ⟨⟨h1, h2⟩, h3⟩ := h
      obtain ⟨n, rfl⟩ := Int.eq_ofNat_of_zero_le h1
      rw [itoa_nat] at h3
      subst h3
      simp [numB, dec_digs, dec_canon, h2]
    · cases h
  · intro h
    simp only [numB, Bool.and_eq_true, decide_eq_true_eq] at h
    obtain ⟨⟨h1, h2⟩, h3⟩ := h
    have hn : l ≠ [] := by rintro rfl; simp [canonB] at h3
    unfold lineNum
    rw [atoi_digs l h1 h2 hn]
    simp only [Bool.and_eq_true, decide_eq_true_eq, beq_iff_eq]
    exact ⟨⟨by omega, h2⟩, by rw [itoa_nat]; exact dec_of l h1 h3⟩
theorem numB_ok {l : List UInt8} (h : numB l = true) : Lib.atoiAll l = .ok (decV l : Int) ∧ Lib.decDigits (decV l) = l ∧ decV l < 1000000000 ∧ numR l = ((decV l : Int), true) := by
  simp only [numB, Bool.and_eq_true, decide_eq_true_eq] at h
  obtain ⟨⟨h1, h2⟩, h3⟩ := h
  have hn : l ≠ [] := by rintro rfl; simp [canonB] at h3
  refine ⟨atoi_digs l h1 h2 hn, dec_of l h1 h3, ?_, ?_⟩
  · have e9 : (10 : Nat) ^ 9 = 1000000000 := by decide
    rw [← e9]
    exact Nat.lt_of_lt_of_le (decV_lt _ h1) (Nat.pow_le_pow_right (by omega) h2)
  · unfold numR; rw [if_pos ⟨h1, h2⟩, h3]
theorem numR_snd (l : List UInt8) : (numR l).2 = numB l := by
  unfold numR numB
  by_cases h : l.all digC = true ∧ l.length ≤ 9
  · rw [if_pos h, h.1]; simp [h.2]
  · rw [if_neg h]
    symm
    rw [Bool.eq_false_iff]
    intro h2
    simp only [Bool.and_eq_true, decide_eq_true_eq] at h2
    exact h h2.1
theorem num_len {n : Nat} (h : n < 1000000000) : (Lib.decDigits n).length ≤ 9 := by
  rw [Lib.decDigits_length]
  exact nDigits_pow 9 n (by omega) (by omega)
/-- digits of a number below a milliard are a number -/
theorem num_dec {n : Nat} (h : n < 1000000000) : numB (Lib.decDigits n) = true := by
  simp only [numB, Bool.and_eq_true, decide_eq_true_eq]
  exact ⟨⟨dec_digs n, num_len h⟩, dec_canon n⟩
theorem digC_range {c : UInt8} (h : digC c = true) : c ≠ 32 ∧ c ≠ 45 := by
  have := digC_iff.1 h
  constructor <;> (rintro rfl; revert this; decide)

end Go.Proofs.YtigfkfjlfpndfaaGreatDoor
