/-
  Names by runes: ident.Name tells what the reference tells.
-/
import Derived.Test.YtigfkfjlfpndfaaGreatDoorNums
namespace Go.Proofs.YtigfkfjlfpndfaaGreatDoor
open Go.RowKit Sp

theorem iter_below (w : World) (s : ByteArray) (p : Nat) : Below w.heap.size w (w.iter s p) := (Below.refl _ _).alloc (Nat.le_refl _) _

/-- the rune at a place, told by the byte that begins there -/
theorem rune_lo {s : ByteArray} {k : Nat} (h : k < s.size) (ha : (s[k].toNat : Int) < 128) : (((Utf8.decode s k).1 : Nat) : Int) = s[k].toNat ∧ (Utf8.decode s k).2 = 1 := by
  rw [decode_ascii s k h (by omega)]; exact ⟨rfl, rfl⟩
theorem rune_hi {s : ByteArray} {k : Nat} (h : k < s.size) (ha : ¬ (s[k].toNat : Int) < 128) : (128 : Int) ≤ ((Utf8.decode s k).1 : Nat) ∧ (((Utf8.decode s k).1 : Nat) : Int) ≤ 2147483647 := by
  have h1 := decode_high s k h (by omega)
  have h2 := decode_le s k
  omega
theorem nameC_ascii {c : UInt8} (h : nameC c = true) : (c.toNat : Int) < 128 := by
  simp only [nameC, Bool.or_eq_true, Bool.and_eq_true, decide_eq_true_eq] at h; omega
theorem nameC_inv {c : UInt8} (h : nameC c = true) : ((97 : Int) ≤ (c.toNat : Int) ∧ (c.toNat : Int) ≤ 122) ∨ ((48 : Int) ≤ (c.toNat : Int) ∧ (c.toNat : Int) ≤ 57) ∨ (c.toNat : Int) = 45 := by
  simp only [nameC, Bool.or_eq_true, Bool.and_eq_true, decide_eq_true_eq] at h; omega
theorem nameC_not {c : UInt8} (h : nameC c = false) : ¬ ((97 : Int) ≤ (c.toNat : Int) ∧ (c.toNat : Int) ≤ 122) ∧ ¬ ((48 : Int) ≤ (c.toNat : Int) ∧ (c.toNat : Int) ≤ 57) ∧ ¬ (c.toNat : Int) = 45 := by
  have h' : ¬ nameC c = true := by simp [h]
  simp only [nameC, Bool.or_eq_true, Bool.and_eq_true, decide_eq_true_eq] at h'; omega

set_option maxHeartbeats 1000000 in
theorem lName_any (s : ByteArray) (w : World) (hs : s.size ≤ 140737488351232) :
    Calls Tryz.prog 64 #[.string s] w fun e w' => e = .returned (.bool (nameB s.data.toList)) ∧ Below w.heap.size w w' := by
  go_enter Tryz.func64, Tryz.ntmps64
  go_wp2
  go_loopw [] (fun wr => ∃ k : Nat, k ≤ s.size ∧ wr = w.iter s k ∧ AllB nameC s k) (fun wr => s.size - wr.iterPos w.heap.size)
  case atStart => exact ⟨0, Nat.zero_le _, rfl, AllB.zero _ s⟩
  case round =>
    obtain ⟨k, hk, rfl, hinv⟩ := hrel
    by_cases hlt : k < s.size
    · have hnx : ∀ ty, (Instr.next (.pointer (some ⟨w.heap.size, 0, none⟩)) true ty).run Tryz.prog (w.iter s k) = _ := fun ty => run_next_any w s k ty hlt
      cases hb : nameC s[k] with
      | true =>
        have hn := hinv.succ hlt hb
        have hr := rune_lo hlt (nameC_ascii hb)
        obtain ⟨hr1, hr2⟩ := hr
        rw [hr1, hr2] at hnx
        rcases nameC_inv hb with ⟨h1, h2⟩ | ⟨h1, h2⟩ | h1
        · clear hr1 hr2 hb
          go_wp2
          go_roundw
          case rel => exact ⟨k + 1, by omega, rfl, hn⟩
          case measure => simp; omega
        · have h3 : decide ((97 : Int) ≤ (s[k].toNat : Int)) = false := by simp; omega
          clear hr1 hr2 hb
          go_wp2
          go_roundw
          case rel => exact ⟨k + 1, by omega, rfl, hn⟩
          case measure => simp; omega
        · have h3 : decide ((97 : Int) ≤ (s[k].toNat : Int)) = false := by simp; omega
          have h4 : decide ((48 : Int) ≤ (s[k].toNat : Int)) = false := by simp; omega
          have h5 : ((s[k].toNat : Int) == 45) = true := by simpa using h1
          clear hr1 hr2 hb h1
          go_wp2
          go_roundw
          case rel => exact ⟨k + 1, by omega, rfl, hn⟩
          case measure => simp; omega
      | false =>
        have hn := Lib.hid (nameB_no hlt hb)
        obtain ⟨r, hr⟩ : ∃ r : Nat, r = (Utf8.decode s k).1 := ⟨_, rfl⟩
        have hrr : ¬ ((97 : Int) ≤ (r : Int) ∧ (r : Int) ≤ 122) ∧ ¬ ((48 : Int) ≤ (r : Int) ∧ (r : Int) ≤ 57) ∧ ¬ (r : Int) = 45 := by
          rw [hr]
          by_cases ha : (s[k].toNat : Int) < 128
          · rw [(rune_lo hlt ha).1]; exact nameC_not hb
          · have := rune_hi hlt ha; omega
        rw [← hr] at hnx
        generalize (Utf8.decode s k).2 = wd at hnx
        obtain ⟨h1, h2, h3⟩ := hrr
        have h5 : ((r : Int) == 45) = false := by simpa using h3
        have hbel := iter_below w s (k + wd)
        clear hr hb h3
        by_cases g1 : (97 : Int) ≤ (r : Int)
        · have g2 : decide ((r : Int) ≤ 122) = false := by simp; omega
          have g4 : decide ((r : Int) ≤ 57) = false := by simp; omega
          clear h1 h2
          go_wp2
          go_ret
          exact ⟨ret_bool hn.out.symm, hbel⟩
        · by_cases g3 : (48 : Int) ≤ (r : Int)
          · have g2 : decide ((r : Int) ≤ 57) = false := by simp; omega
            clear h1 h2
            go_wp2
            go_ret
            exact ⟨ret_bool hn.out.symm, hbel⟩
          · clear h1 h2
            go_wp2
            go_ret
            exact ⟨ret_bool hn.out.symm, hbel⟩
    · have hnx : ∀ ty, (Instr.next (.pointer (some ⟨w.heap.size, 0, none⟩)) true ty).run Tryz.prog (w.iter s k) = _ := fun ty => run_next_end w s k ty hlt
      have hn := Lib.hid (nameB_end hinv hlt)
      have hbel := iter_below w s k
      by_cases h0 : 1 ≤ s.size
      · have e1 := str_some h0
        go_wp2
        go_ret
        exact ⟨ret_bool (by rw [hn.out]; simp [h0]; omega), hbel⟩
      · have e1 := str_none h0
        go_wp2
        go_ret
        exact ⟨ret_bool (by rw [hn.out]; simp [h0]), hbel⟩

end Go.Proofs.YtigfkfjlfpndfaaGreatDoor
