/-
  Numbers' digits, and the digits of keys.
-/
import Derived.Test.YtigfkfjlfpndfaaGreatDoorNums
namespace Go.Proofs.YtigfkfjlfpndfaaGreatDoor
open Go.RowKit Sp

/-- between two rounds: what is still to be written, what is written -/
def DigR (n : Nat) (m : Nat) (t : ByteArray) : Prop :=
  (t.size = 0 ∧ m = n) ∨ (1 ≤ t.size ∧ t.size + (if m = 0 then 0 else Lib.nDigits m) = Lib.nDigits n ∧ Lib.decDigits n = (if m = 0 then [] else Lib.decDigits m) ++ t.data.toList)

theorem digit_byte (m : Nat) : Utf8.encode (48 + ((m : Int) % 10)) = ⟨#[UInt8.ofNat (48 + m % 10)]⟩ := by
  have h : (48 + ((m : Int) % 10)) = ((48 + m % 10 : Nat) : Int) := by omega
  rw [h]
  have hv : Utf8.valid ((48 + m % 10 : Nat) : Int) = true := by simp [Utf8.valid]; omega
  simp only [Utf8.encode, hv, if_true, Int.toNat_natCast]
  rw [if_pos (by omega)]

theorem DigR.step {n m : Nat} {t : ByteArray} (h : DigR n m t) (hg : 0 < m ∨ t.size = 0) : DigR n (m / 10) (⟨#[UInt8.ofNat (48 + m % 10)]⟩ ++ t) := by
  have hsz : (⟨#[UInt8.ofNat (48 + m % 10)]⟩ ++ t : ByteArray).size = t.size + 1 := by rw [ByteArray.size_append]; show 1 + t.size = _; omega
  have hda : (⟨#[UInt8.ofNat (48 + m % 10)]⟩ ++ t : ByteArray).data.toList = UInt8.ofNat (48 + m % 10) :: t.data.toList := by
    rw [ByteArray.data_append, Array.toList_append]; rfl
  refine .inr ⟨by omega, ?_⟩
  rw [hsz, hda]
  have key : Lib.nDigits m = 1 + (if m / 10 = 0 then 0 else Lib.nDigits (m / 10)) ∧ Lib.decDigits m = (if m / 10 = 0 then [] else Lib.decDigits (m / 10)) ++ [UInt8.ofNat (48 + m % 10)] := by
    by_cases h10 : m < 10
    · have e0 : m / 10 = 0 := by omega
      rw [Lib.nDigits_small h10, Lib.decDigits, dif_pos h10, e0, if_pos rfl, if_pos rfl, show m % 10 = m from by omega]
      exact ⟨rfl, rfl⟩
    · have e0 : ¬ m / 10 = 0 := by omega
      rw [Lib.nDigits_big h10, Lib.decDigits, dif_neg h10, if_neg e0, if_neg e0]
      exact ⟨by omega, rfl⟩
  rcases h with ⟨h1, rfl⟩ | ⟨h1, h2, h3⟩
  · have ht : t.data.toList = [] := List.length_eq_zero_iff.1 (by rw [size_list]; exact h1)
    exact ⟨by omega, by rw [key.2, ht]⟩
  · have hm : ¬ m = 0 := by omega
    rw [if_neg hm] at h2 h3
    exact ⟨by omega, by rw [h3, key.2]; simp⟩

theorem nDigits_le (n : Nat) (h : n ≤ 9223372036854775807) : Lib.nDigits n ≤ 19 := by
  have : ∀ (k m : Nat), m < 10 ^ k → 1 ≤ k → Lib.nDigits m ≤ k := by
    intro k
    induction k with
    | zero => intro m _ h; omega
    | succ k ih =>
      intro m hm _
      by_cases h10 : m < 10
      · rw [Lib.nDigits_small h10]; omega
      · rw [Lib.nDigits_big h10]
        have hk : 1 ≤ k := by
          rcases Nat.eq_zero_or_pos k with e | e
          · subst e; simp at hm; omega
          · exact e
        have := ih (m / 10) (by rw [Nat.pow_succ] at hm; omega) hk
        omega
  exact this 19 n (by omega) (by omega)
theorem DigR.size {n m : Nat} {t : ByteArray} (h : DigR n m t) (hn : n ≤ 9223372036854775807) : t.size ≤ 19 ∧ m ≤ n ∨ t.size ≤ 19 := by
  have := nDigits_le n hn
  rcases h with ⟨h1, h2⟩ | ⟨h1, h2, h3⟩
  · exact .inr (by omega)
  · exact .inr (by omega)

def emptyOf : Value → Nat | .string t => if t.size = 0 then 1 else 0 | _ => 0
theorem emptyOf_mk (t : ByteArray) : emptyOf (.string t) = if t.size = 0 then 1 else 0 := rfl
theorem digit_size (m : Nat) : (Utf8.encode (48 + ((m : Int) % 10))).size ≤ 1 := by rw [digit_byte]; exact Nat.le_refl _
theorem DigR.fin {n : Nat} {t : ByteArray} (h : DigR n 0 t) (h1 : 1 ≤ t.size) : (⟨(Lib.decDigits n).toArray⟩ : ByteArray) = t := by
  rcases h with ⟨h, _⟩ | ⟨_, _, h⟩
  · omega
  · rw [h]; simp

set_option maxHeartbeats 1000000 in
theorem Digits_any (n : Nat) (w : World) (hn : n ≤ 9223372036854775807) :
    Calls Tryz.prog 50 #[.int .i64 n] w fun e w' => e = .returned (.string ⟨(Lib.decDigits n).toArray⟩) ∧ w' = w := by
  go_enter Tryz.func50, Tryz.ntmps50
  go_wp2
  go_loop [0, 3] (fun a o => ∃ (m : Nat) (t : ByteArray), m ≤ n ∧ a = .int .i64 m ∧ o = .string t ∧ DigR n m t) (fun a o => (intOf a).toNat + emptyOf o)
  case atStart => exact ⟨n, _, Nat.le_refl _, rfl, rfl, .inl ⟨rfl, rfl⟩⟩
  case round =>
    obtain ⟨m, t, hm, rfl, rfl, hinv⟩ := hrel
    have hsz : t.size ≤ 19 := by rcases hinv.size hn with h | h <;> omega
    have hes := digit_size m
    by_cases h0 : 0 < m
    · have hst := hinv.step (.inl h0)
      rw [← digit_byte m] at hst
      go_wp2
      go_round
      case rel => exact ⟨m / 10, _, by omega, by go_num, rfl, hst⟩
      case measure =>
        have e : (Utf8.encode (48 + ((m : Int) % 10)) ++ t).size ≠ 0 := by rw [digit_byte, ByteArray.size_append]; show 1 + t.size ≠ 0; omega
        rw [emptyOf_mk, emptyOf_mk, if_neg e]
        simp [intOf]; omega
    · by_cases h1 : 1 ≤ t.size
      · have e1 := str_some h1
        have hf := Lib.hid ((show DigR n 0 t from (show m = 0 by omega) ▸ hinv).fin h1)
        go_wp2
        go_ret
        exact ⟨by rw [hf.out]; rfl, rfl⟩
      · have e1 := str_none h1
        have hst := hinv.step (.inr (by omega))
        rw [← digit_byte m] at hst
        go_wp2
        go_round
        case rel => exact ⟨m / 10, _, by omega, by go_num, rfl, hst⟩
        case measure =>
          have e : (Utf8.encode (48 + ((m : Int) % 10)) ++ t).size ≠ 0 := by rw [digit_byte, ByteArray.size_append]; show 1 + t.size ≠ 0; omega
          rw [emptyOf_mk, emptyOf_mk, if_pos (show t.size = 0 by omega), if_neg e]
          simp [intOf]; omega

/-- a digit to the base 16; -1: it is none -/
def hexD (c : UInt8) : Int := if 48 ≤ c.toNat ∧ c.toNat ≤ 57 then (c.toNat : Int) - 48 else if 97 ≤ c.toNat ∧ c.toNat ≤ 102 then (c.toNat : Int) - 87 else -1
abbrev hexS : ByteArray := ⟨#[48, 49, 50, 51, 52, 53, 54, 55, 56, 57, 97, 98, 99, 100, 101, 102]⟩
theorem hexS_at : ∀ (k : Nat) (h : k < 16), ((hexS[k]'(by exact h)).toNat : Int) = if k < 10 then (k : Int) + 48 else (k : Int) + 87 := by decide
theorem hexD_hit {c : UInt8} {k : Nat} (h : k < 16) (e : ((hexS[k]'(by exact h)).toNat : Int) = (c.toNat : Int)) : hexD c = k := by
  rw [hexS_at k h] at e
  unfold hexD
  split at e
  · rw [if_pos (by omega)]; omega
  · rw [if_neg (by omega), if_pos (by omega)]; omega
theorem hexD_none {c : UInt8} (h : ∀ j (hj : j < 16), ¬ ((hexS[j]'(by exact hj)).toNat : Int) = (c.toNat : Int)) : hexD c = -1 := by
  unfold hexD
  rw [if_neg, if_neg]
  · intro h1
    have := h (c.toNat - 87) (by omega)
    rw [hexS_at (c.toNat - 87) (by omega), if_neg (by omega)] at this
    omega
  · intro h1
    have := h (c.toNat - 48) (by omega)
    rw [hexS_at (c.toNat - 48) (by omega), if_pos (by omega)] at this
    omega
theorem hexD_range (c : UInt8) : -1 ≤ hexD c ∧ hexD c ≤ 15 := by
  unfold hexD
  repeat' split
  all_goals omega

def NoHit (c : UInt8) (k : Nat) : Prop := ∀ j (_ : j < k) (hj : j < 16), ¬ ((hexS[j]'(by exact hj)).toNat : Int) = (c.toNat : Int)

set_option maxHeartbeats 1000000 in
theorem digit_any (c : UInt8) (w : World) :
    Calls Tryz.prog 71 #[.int .u8 c.toNat] w fun e w' => e = .returned (.int .i64 (hexD c)) ∧ w' = w := by
  go_enter Tryz.func71, Tryz.ntmps71
  go_wp2
  go_loop [3] (fun i => ∃ k : Nat, k ≤ 16 ∧ i = .int .i64 k ∧ NoHit c k) (fun i => 16 - (intOf i).toNat)
  case atStart => exact ⟨0, Nat.zero_le _, rfl, fun j h => by omega⟩
  case round =>
    obtain ⟨k, hk, rfl, hinv⟩ := hrel
    by_cases hlt : k < 16
    · go_wp2
      · have he : (((hexS[k]'(by exact hlt)).toNat : Int) == (c.toNat : Int)) = true := by assumption
        go_ret
        exact ⟨by rw [hexD_hit hlt (by simpa using he)]; rfl, rfl⟩
      · have he : (((hexS[k]'(by exact hlt)).toNat : Int) == (c.toNat : Int)) = false := by assumption
        go_round
        case rel => exact ⟨k + 1, by omega, by go_num, fun j hj hj' => by
          by_cases e : j = k
          · subst e; simpa using he
          · exact hinv j (by omega) hj'⟩
        case measure => simp [intOf]; omega
    · have hf := Lib.hid (hexD_none (c := c) (fun j hj => hinv j (by omega) hj))
      go_wp2
      go_ret
      exact ⟨by rw [hf.out]; rfl, rfl⟩

end Go.Proofs.YtigfkfjlfpndfaaGreatDoor
