/-
  ident.Key: the same keys by runes.
-/
import Derived.Test.YtigfkfjlfpndfaaGreatDoorRune
namespace Go.Proofs.YtigfkfjlfpndfaaGreatDoor
open Go.RowKit Sp

theorem index_hex : ∀ c : UInt8, c.toNat < 128 → Lib.indexByte hexS.data.toList c = hexD c := by
  have h : ∀ c : Fin 256, Lib.indexByte hexS.data.toList (UInt8.ofNat c.val) = hexD (UInt8.ofNat c.val) := by decide +kernel
  intro c _
  have := h ⟨c.toNat, c.toNat_lt⟩
  simpa using this
theorem hexD_high {c : UInt8} (h : ¬ c.toNat < 128) : hexD c = -1 := by unfold hexD; rw [if_neg (by omega), if_neg (by omega)]
/-- the digit at a place, by its rune -/
theorem rune_digit (s : ByteArray) (k : Nat) (h : k < s.size) (w : World) :
    Calls Tryz.prog 86 #[.string hexS, .int .i32 ((Utf8.decode s k).1 : Nat)] w fun e w' => e = .returned (.int .i64 (hexD s[k])) ∧ Ext w w' ∧ (0 ≤ hexD s[k] → w' = w) := by
  by_cases ha : (s[k].toNat : Int) < 128
  · have h1 := (rune_lo h ha).1
    rw [h1]
    refine (Tryz.strings_IndexRune_ascii hexS (s[k].toNat : Int) w (by omega) ha).mono ?_
    rintro e w' ⟨rfl, rfl⟩
    refine ⟨?_, Below.refl _ _, fun _ => rfl⟩
    rw [show (s[k].toNat : Int).toNat.toUInt8 = s[k] from by simp, index_hex _ (by omega)]
  · have h1 := rune_hi h ha
    refine (IndexRune_hi _ (by omega) (by omega) w).mono ?_
    rintro e w' ⟨rfl, hx⟩
    rw [hexD_high (by omega)]
    exact ⟨rfl, hx, fun h => by omega⟩

/-- what stands in a key behind i digits (ident's) -/
def lk (s : ByteArray) (i j : Nat) : Int := if 2 * j + 1 < i then hx s (2 * j) * 16 + hx s (2 * j + 1) else if 2 * j < i then hx s (2 * j) * 16 else 0
theorem lk_end (s : ByteArray) : kcell (lk s 64) = kcell (rk s 64) := kcell_congr fun j hj => by unfold lk rk; rw [if_pos (by omega), if_pos (by omega)]

theorem lk_even {s : ByteArray} {k : Nat} (hlt : k < s.size) (he : k % 2 = 0) (j : Nat) : lk s k (k / 2) = 0 ∧ (if j = k / 2 then hexD s[k] * 16 else lk s k j) = lk s (k + 1) j := by
  refine ⟨by unfold lk; rw [if_neg (by omega), if_neg (by omega)], ?_⟩
  by_cases e : j = k / 2
  · rw [if_pos e]; subst e
    unfold lk
    rw [if_neg (by omega), if_pos (by omega), show 2 * (k / 2) = k from by omega, hx_in hlt]
  · rw [if_neg e]
    unfold lk
    by_cases h1 : 2 * j + 1 < k
    · rw [if_pos h1, if_pos (by omega)]
    · rw [if_neg h1, if_neg (by omega), if_neg (by omega), if_neg (by omega)]
theorem lk_odd {s : ByteArray} {k : Nat} (hlt : k < s.size) (he : ¬ k % 2 = 0) (h : HexTo s k) (j : Nat) : (∃ a, 0 ≤ a ∧ a ≤ 15 ∧ lk s k (k / 2) = a * 16) ∧ (if j = k / 2 then lk s k (k / 2) + hexD s[k] else lk s k j) = lk s (k + 1) j := by
  have h0 : lk s k (k / 2) = hx s (2 * (k / 2)) * 16 := by unfold lk; rw [if_neg (by omega), if_pos (by omega)]
  have h3 : 2 * (k / 2) < s.size := by omega
  refine ⟨⟨hx s (2 * (k / 2)), by rw [hx_in h3]; exact h _ (by omega) h3, by rw [hx_in h3]; exact (hexD_range _).2, h0⟩, ?_⟩
  by_cases e : j = k / 2
  · rw [if_pos e]; subst e
    rw [h0]
    unfold lk
    rw [if_pos (by omega), show 2 * (k / 2) + 1 = k from by omega, hx_in hlt]
  · rw [if_neg e]
    unfold lk
    by_cases h1 : 2 * j + 1 < k
    · rw [if_pos h1, if_pos (by omega)]
    · rw [if_neg h1, if_neg (by omega), if_neg (by omega), if_neg (by omega)]
theorem or_even (d : Int) (hd : 0 ≤ d ∧ d ≤ 15) : bits BinOp.or IntKind.u8 0 (IntKind.u8.wrap (IntKind.u8.wrap d * 16)) = d * 16 := by
  have h : ∀ d : Fin 16, bits BinOp.or IntKind.u8 0 (IntKind.u8.wrap (IntKind.u8.wrap (d.val : Int) * 16)) = (d.val : Int) * 16 := by decide +kernel
  have := h ⟨d.toNat, by omega⟩
  simpa only [Int.toNat_of_nonneg hd.1] using this
theorem or_odd (a d : Int) (ha : 0 ≤ a ∧ a ≤ 15) (hd : 0 ≤ d ∧ d ≤ 15) : bits BinOp.or IntKind.u8 (a * 16) (IntKind.u8.wrap (IntKind.u8.wrap d)) = a * 16 + d := by
  have h : ∀ a d : Fin 16, bits BinOp.or IntKind.u8 ((a.val : Int) * 16) (IntKind.u8.wrap (IntKind.u8.wrap (d.val : Int))) = (a.val : Int) * 16 + d.val := by decide +kernel
  have := h ⟨a.toNat, by omega⟩ ⟨d.toNat, by omega⟩
  simpa only [Int.toNat_of_nonneg hd.1, Int.toNat_of_nonneg ha.1] using this
theorem notbit_even (k : Nat) (h : k < 64) (he : k % 2 = 0) : bits BinOp.and IntKind.i64 (bits BinOp.xor IntKind.i64 (if IntKind.i64.signed = true then -1 else 9223372036854775807) (k : Int)) 1 = 1 := by
  have : ∀ k : Fin 64, k.val % 2 = 0 → bits BinOp.and IntKind.i64 (bits BinOp.xor IntKind.i64 (if IntKind.i64.signed = true then -1 else 9223372036854775807) (k.val : Int)) 1 = 1 := by decide +kernel
  exact this ⟨k, h⟩ he
theorem notbit_odd (k : Nat) (h : k < 64) (he : ¬ k % 2 = 0) : bits BinOp.and IntKind.i64 (bits BinOp.xor IntKind.i64 (if IntKind.i64.signed = true then -1 else 9223372036854775807) (k : Int)) 1 = 0 := by
  have : ∀ k : Fin 64, ¬ k.val % 2 = 0 → bits BinOp.and IntKind.i64 (bits BinOp.xor IntKind.i64 (if IntKind.i64.signed = true then -1 else 9223372036854775807) (k.val : Int)) 1 = 0 := by decide +kernel
  exact this ⟨k, h⟩ he

set_option maxHeartbeats 4000000 in
set_option maxRecDepth 100000 in
theorem lKey_any (s : ByteArray) (w : World) (hs : s.size ≤ 140737488351232) : Calls Tryz.prog 67 #[.string s] w (KeyPost s w) := by
  go_enter Tryz.func67, Tryz.ntmps67
  go_wp2
  go_loopw [] (fun wr => ∃ k : Nat, k ≤ s.size ∧ k ≤ 64 ∧ HexTo s k ∧ Itr wr (w.heap.size + 1 + 1 + 1) s k ∧ Blk wr (w.heap.size + 1 + 1) (kcell (lk s k)) 25 ∧ Blk wr w.heap.size (kcell fun _ => 0) 25 ∧ Blk wr (w.heap.size + 1) #[.int .i64 0, .int .i64 0] 30 ∧ Ext w wr) (fun wr => s.size - wr.iterPos (w.heap.size + 1 + 1 + 1))
  case atStart =>
    have e0 : kcell (lk s 0) = kcell fun _ => 0 := kcell_congr fun j _ => by unfold lk; rw [if_neg (by omega), if_neg (by omega)]
    refine ⟨0, Nat.zero_le _, Nat.zero_le _, fun j h => by omega, ?_, ?_, ?_, ?_, ?_⟩
    · have := Itr.new (((w.alloc (.cells (kcell fun _ => 0) 25)).alloc (.cells #[.int .i64 0, .int .i64 0] 30)).alloc (.cells (kcell fun _ => 0) 25)) s 0
      rw [sz_alloc, sz_alloc, sz_alloc] at this
      exact this
    · exact ((Blk.new' _ _ 25 _ (by rw [sz_alloc, sz_alloc])).alloc _).congr (by rw [e0]; rfl)
    · exact ((((Blk.new w _ 25).alloc _).alloc _).alloc _).congr rfl
    · exact ((Blk.new' _ _ 30 _ (by rw [sz_alloc])).alloc _).alloc _
    · exact (((Ext.alloc (Below.refl _ w) _).alloc _).alloc _).alloc _
  case round =>
    obtain ⟨k, hk, hk64, hinv, hit, hb2, hb0, hb1, hx0⟩ := hrel
    have HIT := Lib.hid hit
    by_cases hlt : k < s.size
    · have hnx : ∀ ty, (Instr.next (.pointer (some ⟨w.heap.size + 1 + 1 + 1, 0, none⟩)) true ty).run Tryz.prog wr = _ := fun ty => hit.next hlt ty
      have hcall := rune_digit s k hlt
      cases hd : decide (hexD s[k] < 0) with
      | true =>
        have hno := keyB_bad hlt (by simpa using hd)
        generalize (Utf8.decode s k).1 = r at hnx hcall
        generalize hexD s[k] = d at hcall hd
        generalize hws : stepIter wr (w.heap.size + 1 + 1 + 1) s (k + (Utf8.decode s k).2) = ws at hnx
        replace hb0 : Blk ws _ _ _ := hws ▸ hb0.stepOther _ _ _ (by omega)
        replace hb1 : Blk ws _ _ _ := hws ▸ hb1.stepOther _ _ _ (by omega)
        replace hx0 : Ext w ws := hws ▸ hx0.step _ _ _ (by omega)
        clear hws
        go_wp2_with (first | (go_at_call 86; refine (hcall _).mono ?_; rintro e w2 ⟨rfl, hx2, _⟩; replace hb0 := hb0.below hx2 hb0.lt; replace hb1 := hb1.below hx2 hb1.lt; replace hx0 := hx0.go hx2) | ((with_reducible show wpList _ _ _ (⟨none, .store 25 (.tmp 2) (.tmp 22), _, _, _, _⟩ :: _) _ _); refine wpList_store_new rfl 25 _ _ rfl w.heap.size 0 (kcell fun _ => 0) rfl rfl hb0 (by decide) (i25k _) (kcell_one _) ?_; intro w1 hb0' hk1 hm1; have hb1' := hk1 _ _ _ (by omega) hb1; have c0 := hb1'.cell (i := 0) rfl; have c1 := hb1'.cell (i := 1) rfl; have f0 := hb1'.free 0; have f1 := hb1'.free 1))
        exact key_end rfl rfl rfl hb0' hb1' hx0 hm1 (fun _ h => .no hno h)
      | false =>
        have hd' : 0 ≤ hexD s[k] := by simpa using hd
        have ha : (s[k].toNat : Int) < 128 := by
          by_cases h : s[k].toNat < 128
          · omega
          · rw [hexD_high h] at hd'; omega
        have hn := hinv.succ hlt hd'
        have hr := hexD_range s[k]
        rw [(rune_lo hlt ha).2] at hnx
        generalize (Utf8.decode s k).1 = r at hnx hcall
        generalize hws : stepIter wr (w.heap.size + 1 + 1 + 1) s (k + 1) = ws at hnx
        replace hit : Itr ws _ _ _ := hws ▸ hit.step (k + 1)
        replace hb2 : Blk ws _ _ _ := hws ▸ hb2.stepOther _ _ _ (by omega)
        replace hb0 : Blk ws _ _ _ := hws ▸ hb0.stepOther _ _ _ (by omega)
        replace hb1 : Blk ws _ _ _ := hws ▸ hb1.stepOther _ _ _ (by omega)
        replace hx0 : Ext w ws := hws ▸ hx0.step _ _ _ (by omega)
        clear hws
        by_cases h64 : k = 64
        · have hno := keyB_size (s := s) (by omega)
          have h64b : (((k : Nat) : Int) == 64) = true := by simp; omega
          have H64 := Lib.hid h64; clear h64
          generalize hexD s[k] = d at hcall hd hd' hr
          go_wp2_with (first | (go_at_call 86; refine (hcall _).mono ?_; rintro e w2 ⟨rfl, hx2, hw2⟩; obtain rfl := hw2 hd') | ((with_reducible show wpList _ _ _ (⟨none, .store 25 (.tmp 2) (.tmp 22), _, _, _, _⟩ :: _) _ _); refine wpList_store_new rfl 25 _ _ rfl w.heap.size 0 (kcell fun _ => 0) rfl rfl hb0 (by decide) (i25k _) (kcell_one _) ?_; intro w1 hb0' hk1 hm1; have hb1' := hk1 _ _ _ (by omega) hb1; have c0 := hb1'.cell (i := 0) rfl; have c1 := hb1'.cell (i := 1) rfl; have f0 := hb1'.free 0; have f1 := hb1'.free 1))
          exact key_end rfl rfl rfl hb0' hb1' hx0 hm1 (fun _ h => .no hno h)
        · have h64b : (((k : Nat) : Int) == 64) = false := by simp; omega
          obtain ⟨m, hm⟩ : ∃ m, k / 2 = m := ⟨_, rfl⟩
          have hm32 : m < 32 := by omega
          have hcell := hb2.cell (kcell_at (lk s k) m hm32)
          rw [← hm] at hcell
          have hfree := hb2.free m
          have e1 : (k : Int) / 2 = (m : Int) := by omega
          have e2 : (m : Int) < 32 := by omega
          by_cases hp : k % 2 = 0
          · have ex := notbit_even k (by omega) hp
            have ew : IntKind.i64.wrap 4 = 4 := rfl
            have ew' : IntKind.i64.wrap 0 = 0 := rfl
            have hst := Lib.hid (fun j => (lk_even hlt hp j).2)
            rw [(lk_even hlt hp 0).1, hm] at hcell
            rw [hm] at hst
            have HOR := Lib.hid (or_even _ ⟨hd', hr.2⟩)
            generalize hexD s[k] = d at hcall hd hd' hr hst HOR
            have HM := Lib.hid hm; clear hm
            have HP := Lib.hid hp; clear hp
            go_wp2_with (go_at_call 86; refine (hcall _).mono ?_; rintro e w2 ⟨rfl, hx2, hw2⟩; obtain rfl := hw2 hd')
            refine wp_region_still_tail 13 (by kernel_rfl) (by kernel_rfl) ?_
            simp only [List.take_succ_cons, List.take_zero, List.drop_succ_cons, List.drop_zero]
            repeat still_step
            refine wpStill_nil ?_
            change wpList _ _ _ _ _ w2.drew
            rw [HOR.out]
            go_wp2
            go_roundw
            case rel =>
              refine ⟨k + 1, by omega, by omega, hn, ?_, ?_, ?_, ?_, ?_⟩
              · exact hit.drew.setOther _ _ (by show w.heap.size + 1 + 1 + 1 ≠ w.heap.size + 1 + 1; omega)
              · exact (hb2.drew.set m _).congr (by rw [kcell_set]; exact kcell_congr fun j _ => hst.out j)
              · exact hb0.drew.setOther _ _ (by show w.heap.size ≠ w.heap.size + 1 + 1; omega)
              · exact hb1.drew.setOther _ _ (by show w.heap.size + 1 ≠ w.heap.size + 1 + 1; omega)
              · exact hx0.drew.setCell (by show w.heap.size ≤ w.heap.size + 1 + 1; omega) _
            case measure =>
              rw [(hit.setOther (r := w.heap.size + 1 + 1 + 1) ⟨w.heap.size + 1 + 1, m, none⟩ _ (by show w.heap.size + 1 + 1 + 1 ≠ w.heap.size + 1 + 1; omega)).drew.position, HIT.out.position]
              omega
          · have ex := notbit_odd k (by omega) hp
            have ew : IntKind.i64.wrap 4 = 4 := rfl
            have ew' : IntKind.i64.wrap 0 = 0 := rfl
            have hst := Lib.hid (fun j => (lk_odd hlt hp hinv j).2)
            obtain ⟨a, ha0, ha1, haq⟩ := (lk_odd hlt hp hinv 0).1
            rw [hm] at haq hst hcell
            rw [haq] at hcell hst
            have HOR := Lib.hid (or_odd a _ ⟨ha0, ha1⟩ ⟨hd', hr.2⟩)
            have HA := Lib.hid haq; clear haq
            generalize hexD s[k] = d at hcall hd hd' hr hst HOR
            have HM := Lib.hid hm; clear hm
            have HP := Lib.hid hp; clear hp
            go_wp2_with (go_at_call 86; refine (hcall _).mono ?_; rintro e w2 ⟨rfl, hx2, hw2⟩; obtain rfl := hw2 hd')
            refine wp_region_still_tail 13 (by kernel_rfl) (by kernel_rfl) ?_
            simp only [List.take_succ_cons, List.take_zero, List.drop_succ_cons, List.drop_zero]
            repeat still_step
            refine wpStill_nil ?_
            change wpList _ _ _ _ _ w2.drew
            rw [HOR.out]
            go_wp2
            go_roundw
            case rel =>
              refine ⟨k + 1, by omega, by omega, hn, ?_, ?_, ?_, ?_, ?_⟩
              · exact hit.drew.setOther _ _ (by show w.heap.size + 1 + 1 + 1 ≠ w.heap.size + 1 + 1; omega)
              · exact (hb2.drew.set m _).congr (by rw [kcell_set]; exact kcell_congr fun j _ => hst.out j)
              · exact hb0.drew.setOther _ _ (by show w.heap.size ≠ w.heap.size + 1 + 1; omega)
              · exact hb1.drew.setOther _ _ (by show w.heap.size + 1 ≠ w.heap.size + 1 + 1; omega)
              · exact hx0.drew.setCell (by show w.heap.size ≤ w.heap.size + 1 + 1; omega) _
            case measure =>
              rw [(hit.setOther (r := w.heap.size + 1 + 1 + 1) ⟨w.heap.size + 1 + 1, m, none⟩ _ (by show w.heap.size + 1 + 1 + 1 ≠ w.heap.size + 1 + 1; omega)).drew.position, HIT.out.position]
              omega
    · have hnx : ∀ ty, (Instr.next (.pointer (some ⟨w.heap.size + 1 + 1 + 1, 0, none⟩)) true ty).run Tryz.prog wr = _ := fun ty => hit.next_end hlt ty
      by_cases h64 : s.size < 64
      · have hno := keyB_size (s := s) (by omega)
        go_wp2_with ((with_reducible show wpList _ _ _ (⟨none, .store 25 (.tmp 2) (.tmp 41), _, _, _, _⟩ :: _) _ _); refine wpList_store_new rfl 25 _ _ rfl w.heap.size 0 (kcell fun _ => 0) rfl rfl hb0 (by decide) (i25k _) (kcell_one _) ?_; intro w1 hb0' hk1 hm1; have hb1' := hk1 _ _ _ (by omega) hb1; have c0 := hb1'.cell (i := 0) rfl; have c1 := hb1'.cell (i := 1) rfl; have f0 := hb1'.free 0; have f1 := hb1'.free 1)
        exact key_end rfl rfl rfl hb0' hb1' hx0 hm1 (fun _ h => .no hno h)
      · obtain rfl : k = 64 := by omega
        have hyes := keyB_yes (s := s) (by omega) hinv
        rw [lk_end] at hb2
        go_wp2_with (first | ((with_reducible show wpList _ _ _ (⟨some 45, .load 25 (.tmp 4), _, _, _, _⟩ :: _) _ _); refine wpList_load_blk rfl 25 _ rfl (w.heap.size + 1 + 1) 0 rfl (kcell (rk s 64)).toList _ hb2 (fun j hj => by simp) Tryz.underlying25 rfl (by rw [Array.length_toList]; exact i25k _) ?_; simp only [Array.toArray_toList]) | ((with_reducible show wpList _ _ _ (⟨none, .store 25 (.tmp 2) (.tmp 45), _, _, _, _⟩ :: _) _ _); refine wpList_store_new rfl 25 _ _ rfl w.heap.size 0 (kcell (rk s 64)) rfl rfl hb0 (by rw [kcell_size, kcell_size]; exact Nat.le_refl _) (i25k _) (kcell_one _) ?_; intro w1 hb0' hk1 hm1; have hb1' := hk1 _ _ _ (by omega) hb1; have c0 := hb1'.cell (i := 0) rfl; have c1 := hb1'.cell (i := 1) rfl; have f0 := hb1'.free 0; have f1 := hb1'.free 1))
        exact key_end rfl rfl rfl hb0' hb1' hx0 hm1 (fun _ h => .yes hyes h)

end Go.Proofs.YtigfkfjlfpndfaaGreatDoor
