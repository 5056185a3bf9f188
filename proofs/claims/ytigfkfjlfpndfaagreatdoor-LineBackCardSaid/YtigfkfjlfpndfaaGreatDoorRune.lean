/-
  strings.IndexRune over the sixteen digits, at every rune.
-/
import Derived.Test.YtigfkfjlfpndfaaGreatDoorKeys
namespace Go.Proofs.YtigfkfjlfpndfaaGreatDoor
open Go.RowKit Sp

theorem encode_hi (r : Int) (h : 128 ≤ r) : 2 ≤ (Utf8.encode r).size ∧ (Utf8.encode r).size ≤ 4 ∧ ∀ hk : (Utf8.encode r).size - 1 < (Utf8.encode r).size, 128 ≤ ((Utf8.encode r)[(Utf8.encode r).size - 1]'hk).toNat := by
  obtain ⟨c, hc, hcc⟩ : ∃ c : Nat, 128 ≤ c ∧ (if Utf8.valid r = true then r.toNat else Utf8.runeError) = c := ⟨_, (by split <;> first | omega | decide), rfl⟩
  have key : ∀ b : Nat, 128 ≤ (UInt8.ofNat (0x80 + b % 64)).toNat := by
    intro b
    rw [UInt8.toNat_ofNat', Nat.mod_eq_of_lt (by omega)]; omega
  have e : Utf8.encode r = if c < 0x800 then ⟨#[UInt8.ofNat (0xC0 + c / 64), UInt8.ofNat (0x80 + c % 64)]⟩
      else if c < 0x10000 then ⟨#[UInt8.ofNat (0xE0 + c / 4096), UInt8.ofNat (0x80 + c / 64 % 64), UInt8.ofNat (0x80 + c % 64)]⟩
      else ⟨#[UInt8.ofNat (0xF0 + c / 262144), UInt8.ofNat (0x80 + c / 4096 % 64), UInt8.ofNat (0x80 + c / 64 % 64), UInt8.ofNat (0x80 + c % 64)]⟩ := by
    unfold Utf8.encode
    simp only [hcc]
    rw [if_neg (by omega)]
  rw [e]
  split
  · exact ⟨by show 2 ≤ 2; omega, by show 2 ≤ 4; omega, fun _ => key c⟩
  · split
    · exact ⟨by show 2 ≤ 3; omega, by show 3 ≤ 4; omega, fun _ => key c⟩
    · exact ⟨by show 2 ≤ 4; omega, by show 4 ≤ 4; omega, fun _ => key c⟩

theorem indexByte_none {l : List UInt8} {c : UInt8} (h : ∀ b ∈ l, b ≠ c) : Lib.indexByte l c = -1 := by
  induction l with
  | nil => rfl
  | cons b r ih =>
    have h1 : (b == c) = false := by simpa using h b (by simp)
    have h2 := ih (fun x hx => h x (by simp [hx]))
    unfold Lib.indexByte
    rw [h1, h2]; rfl
theorem hexS_lo : ∀ b ∈ hexS.data.toList, b.toNat < 128 := by decide
theorem hexS_size : hexS.size = 16 := rfl
theorem hexS_rune (k : Nat) (h : k < 16) : ∃ c : Nat, c < 128 ∧ Utf8.decode hexS k = (c, 1) := by
  have hl : (hexS[k]'h).toNat < 128 := hexS_lo _ (by rw [← get_list hexS k h]; exact List.getElem_mem _)
  exact ⟨_, hl, decode_ascii hexS k h hl⟩

set_option maxHeartbeats 4000000 in
set_option maxRecDepth 1000000 in
theorem IndexRune_err (w : World) : Calls Tryz.prog 86 #[.string hexS, .int .i32 65533] w fun e w' => e = .returned (.int .i64 (-1)) ∧ Ext w w' := by
  go_enter Tryz.func86, Tryz.ntmps86
  go_wp2
  go_loopw [] (fun wr => ∃ k : Nat, k ≤ 16 ∧ wr = w.iter hexS k) (fun wr => 16 - wr.iterPos w.heap.size)
  case atStart => exact ⟨0, Nat.zero_le _, rfl⟩
  case round =>
    obtain ⟨k, hk, rfl⟩ := hrel
    by_cases hlt : k < 16
    · obtain ⟨c, hc, hd⟩ := hexS_rune k hlt
      have hnx : ∀ ty, (Instr.next (.pointer (some ⟨w.heap.size, 0, none⟩)) true ty).run Tryz.prog (w.iter hexS k) = _ := fun ty => run_next_any w hexS k ty hlt
      rw [hd] at hnx
      have hb : ((c : Int) == 65533) = false := by simp; omega
      clear hd
      go_wp2
      go_roundw
      case rel => exact ⟨k + 1, by omega, rfl⟩
      case measure => simp; omega
    · have hnx : ∀ ty, (Instr.next (.pointer (some ⟨w.heap.size, 0, none⟩)) true ty).run Tryz.prog (w.iter hexS k) = _ := fun ty => run_next_end w hexS k ty (by rw [hexS_size]; omega)
      have hx := iter_below w hexS k
      go_wp2
      go_ret
      exact ⟨rfl, hx⟩

set_option maxHeartbeats 4000000 in
set_option maxRecDepth 1000000 in
theorem IndexRune_valid (S : ByteArray) (hS : S.size = 16) (hS128 : ∀ b ∈ S.data.toList, b.toNat < 128) (r : Nat) (h1 : 128 ≤ r) (h2 : r ≤ 2147483647) (hb : ((r : Int) == 65533) = false) (hlo : decide ((r : Int) < 128) = false)
    (hvr : ∀ w', Calls Tryz.prog 104 #[.int .i32 r] w' fun e w'' => e = .returned (.bool true) ∧ w'' = w') (w : World) :
    Calls Tryz.prog 86 #[.string S, .int .i32 r] w fun e w' => e = .returned (.int .i64 (-1)) ∧ Ext w w' := by
  have hen := encode_hi r (by omega)
  obtain ⟨q, hq⟩ : ∃ q, Utf8.encode (r : Int) = q := ⟨_, rfl⟩
  rw [hq] at hen
  obtain ⟨n, hn⟩ : ∃ n, q.size = n + 1 := ⟨q.size - 1, by omega⟩
  obtain ⟨hn1, hn2, hlast⟩ := hen
  have hl : 128 ≤ ((q[n]'(by omega)).toNat : Int) := by
    have := hlast (by omega)
    simp only [hn, Nat.add_sub_cancel] at this
    omega
  have hn3 : n ≤ 3 := by omega
  have hs : ((S[n]'(by omega)).toNat : Int) < 128 := by
    have := hS128 _ (by rw [← get_list S n (by omega)]; exact List.getElem_mem _ : S[n]'(by omega) ∈ S.data.toList)
    omega
  have hne : (((S[n]'(by omega)).toNat : Int) != ((q[n]'(by omega)).toNat : Int)) = true := by rw [bne_iff_ne]; omega
  have hc := fun w' => Tryz.strings_IndexByte (S.extract (n + 1) S.size) ((q[n]'(by omega)).toNat : Int) w'
  have hm : Lib.indexByte (S.extract (n + 1) S.size).data.toList (((q[n]'(by omega)).toNat : Int)).toNat.toUInt8 = -1 := by
    refine indexByte_none fun b hb e => ?_
    rw [Lib.extract_data] at hb
    have h1 := hS128 b (List.mem_of_mem_drop (List.mem_of_mem_take hb))
    rw [e] at h1
    simp at h1
    omega
  rw [hm] at hc
  rw [hS] at hc
  have hnS : n < S.size := by omega
  have hnq : n < q.size := by omega
  have hnI : (n : Int) < 16 := by omega
  have hnJ : (n : Int) < (n : Int) + 1 := by omega
  have hn16 : n < 16 := by omega
  clear hlast hS128 hl hs hm
  go_enter Tryz.func86, Tryz.ntmps86
  go_wp2_with (go_at_call 104; refine (hvr _).mono ?_; rintro e w' ⟨rfl, rfl⟩)
  go_step3
  go_wp2
  go_loop [9] (fun i => i = .int .i64 n) (fun _ => 0)
  case atStart => simp
  case round =>
    obtain rfl := hrel
    go_upto_region 6 with (fail)
    go_step3
    trace "A"
    go_upto_region 6 with (fail)
    go_quiet (fail)
    go_upto_region 7 with (fail)
    have hx2 : Ext w' (w'.drewN nq) := Ext.drewN (Below.refl _ _) nq
    generalize w'.drewN nq = w2 at hx2
    have HX := Lib.hid hx2; clear hx2
    have ew : IntKind.i64.wrap ((n : Int) + 1) = (n : Int) + 1 := IntWalk.i64_in _ (by omega)
    have ew0 : (0 : Int) ≤ (n : Int) + 1 := by omega
    have ew1 : (n : Int) + 1 ≤ 16 := by omega
    have ew2 : ((n : Int) + 1).toNat = n + 1 := by omega
    go_quiet ((go_at_call 85; exact Calls.quiet_of_same (hc _)))
    clear ew ew0 ew1 ew2
    go_wp2
    rw [Exit.noGoto_ret]
    simp +zetaDelta only [Exit.inBlock, Exit.then, Exit.noGoto_ret]
    go_ret
    exact ⟨rfl, HX.out.drewN _⟩

set_option maxHeartbeats 4000000 in
set_option maxRecDepth 1000000 in
theorem IndexRune_hi (r : Nat) (h1 : 128 ≤ r) (h2 : r ≤ 2147483647) (w : World) : Calls Tryz.prog 86 #[.string hexS, .int .i32 r] w fun e w' => e = .returned (.int .i64 (-1)) ∧ Ext w w' := by
  by_cases he : r = 65533
  · subst he; exact IndexRune_err w
  · have hb : ((r : Int) == 65533) = false := by simp; omega
    have hlo : decide ((r : Int) < 128) = false := by simp; omega
    have hvr := fun w' => Tryz.utf8_ValidRune r w'
    cases hv : Lib.validRune r with
    | false =>
      rw [hv] at hvr
      go_enter Tryz.func86, Tryz.ntmps86
      go_wp2_with (go_at_call 104; refine (hvr _).mono ?_; rintro e w' ⟨rfl, rfl⟩)
      go_ret
      exact ⟨rfl, Below.refl _ _⟩
    | true =>
      rw [hv] at hvr
      exact IndexRune_valid hexS hexS_size hexS_lo r h1 h2 hb hlo hvr w

end Go.Proofs.YtigfkfjlfpndfaaGreatDoor
