/-
  line's reader: next.
-/
import Derived.Test.YtigfkfjlfpndfaaGreatDoorReader
namespace Go.Proofs.YtigfkfjlfpndfaaGreatDoor
open Go.RowKit Sp

theorem indexByte_blank (l : List UInt8) : Lib.indexByte l 32 = if blank l < l.length then (blank l : Int) else -1 := by
  unfold blank
  induction l with
  | nil => rfl
  | cons b l ih =>
    rw [Lib.indexByte, List.takeWhile_cons]
    by_cases h : b = 32
    · subst h; simp
    · have h1 : (b == 32) = false := by simpa using h
      have h2 : (b != 32) = true := by simpa using h
      rw [h1, h2, ih]
      by_cases hb : (l.takeWhile fun c => c != 32).length < l.length
      · have : ¬ (((l.takeWhile fun c => c != 32).length : Int) == -1) = true := by simp
        simp [hb, this]
      · simp [hb]

def NextPost (R : ByteArray → Bool) (U : Cmd → ByteArray → Cmd → Prop) (s : ByteArray) (at_ : Nat) (rb cb : Nat) (c : Cmd) (e0 a0 : Int) (w : World) (en : Ending) (w' : World) : Prop :=
  Mods w w' (fun k => k = cb ∨ k = rb) ∧ match takeP s at_ R with
  | .ok (p, d) => en = .returned (.bool true) ∧ ∃ c', U c p c' ∧ Blk w' cb (ccell c') 27 ∧ Blk w' rb (rcell s d e0 a0) 65
  | .error (e, a) => en = .returned (.bool false) ∧ (∃ c', Blk w' cb (ccell c') 27) ∧ ∃ d, Blk w' rb (rcell s d e a) 65

-- PART TEMPLATE: the same for each of the three closures
set_option maxHeartbeats 4000000 in
set_option maxRecDepth 100000 in
theorem next_any63 (R : ByteArray → Bool) (U : Cmd → ByteArray → Cmd → Prop) (s : ByteArray) (hs : s.size ≤ 140737488351232) (at_ : Nat) (hat : at_ ≤ s.size) (rb cb kb : Nat) (c : Cmd) (e0 a0 : Int) (w : World)
    (hr : Blk w rb (rcell s at_ e0 a0) 65) (hc : Blk w cb (ccell c) 27) (hrc : rb ≠ cb)
    (hclo : ∀ (p : ByteArray) (w' : World), p.size ≤ 140737488351232 → Mods w w' (fun _ => False) → Calls Tryz.prog 63 #[.string p, .pointer (some ⟨kb, 0, none⟩)] w' (CloPost R U cb c p w')) :
    Calls Tryz.prog 65 #[.pointer (some ⟨rb, 0, none⟩), .func (.func 63) #[] #[.pointer (some ⟨kb, 0, none⟩)]] w (NextPost R U s at_ rb cb c e0 a0 w) := by
  have r0 : w.cell? ⟨rb, 0, none⟩ = some (.string s) := hr.cell rfl
  have r1 : w.cell? ⟨rb, 1, none⟩ = some (.int .i64 at_) := hr.cell rfl
  by_cases hend : at_ = s.size
  · subst hend
    go_enter Tryz.func65, Tryz.ntmps65
    go_wp2_with fail
    go_quiet (fail)
    go_wp2_with (go_at_call 84; refine (fail_any rb s _ e0 a0 340 _ _ (hr.drewN nq)).mono ?_; rintro e w1 ⟨rfl, hr1, hm1⟩)
    go_ret
    have hm := (Mods.refl w (fun k => k = cb ∨ k = rb)).drewN nq |>.trans (hm1.mono fun i h => .inr h)
    refine ⟨hm, ?_⟩
    rw [show takeP s s.size R = .error (340, (s.size : Int)) from if_pos rfl]
    exact ⟨rfl, ⟨c, (hc.drewN nq).mods hm1 (Ne.symm hrc)⟩, _, hr1⟩
  · have hend' : ¬ (at_ : Int) = (s.size : Int) := by omega
    have hlt : at_ + 1 ≤ s.size := by omega
    have hlt' : (at_ : Int) + 1 ≤ (s.size : Int) := by omega
    have hcast : ((at_ + 1 : Nat) : Int) = (at_ : Int) + 1 := by omega
    obtain ⟨t, ht⟩ : ∃ t, s.extract (at_ + 1) s.size = t := ⟨_, rfl⟩
    have htl : t.data.toList = s.data.toList.drop (at_ + 1) := by
      rw [← ht, Lib.extract_data]; exact List.take_of_length_le (by simp)
    have hts : t.size = s.size - (at_ + 1) := by rw [← size_list, htl, List.length_drop, size_list]
    obtain ⟨n, hn⟩ : ∃ n, blank (s.data.toList.drop (at_ + 1)) = n := ⟨_, rfl⟩
    have hnle : n ≤ t.size := by rw [← hn, ← htl]; exact blank_le _
    have hib := indexByte_blank t.data.toList
    rw [htl, hn, ← htl, size_list] at hib
    have hn1 : (at_ : Int) + 1 ≤ (at_ : Int) + 1 + (n : Int) := by omega
    have hn2 : (at_ : Int) + 1 + (n : Int) ≤ (s.size : Int) := by omega
    obtain ⟨p, hp⟩ : ∃ p, s.extract (at_ + 1) (at_ + 1 + n) = p := ⟨_, rfl⟩
    have hps : p.size ≤ 140737488351232 := by rw [← hp, ByteArray.size_extract]; omega
    have htake : takeP s at_ R = if R p then .ok (p, at_ + 1 + n) else .error (340, (at_ : Int) + 1) := by
      unfold takeP; rw [if_neg hend]; simp only [hn, hp]
    have HTL := Lib.hid htl; have HN := Lib.hid hn; have HTS := Lib.hid hts; clear htl hn hts
    by_cases hfound : n < t.size
    · rw [if_pos hfound] at hib
      have hic : ∀ w', Calls Tryz.prog 85 #[.string t, .int .u8 32] w' fun e w'' => e = .returned (.int .i64 n) ∧ w'' = w' := fun w' => by rw [← hib]; exact Tryz.strings_IndexByte t 32 w'
      clear hib
      cases hR : R p with
      | true =>
        have HT := Lib.hid htake; clear htake
        have HR := Lib.hid hR
        go_enter Tryz.func65, Tryz.ntmps65
        go_wp2_with fail
        go_quiet (fail)
        go_wp2_with (first
          | (go_at_call 85; refine (hic _).mono ?_; rintro e w2 ⟨rfl, rfl⟩)
          | (go_at_call 63; refine (hclo _ _ hps ((Mods.refl w _).drewN nq)).mono ?_; rintro e w3 ⟨c', rfl, hu, hc', hm3⟩; rw [HR.out]; have hr3 := (hr.drewN nq).mods hm3 hrc; have r1' : w3.cell? ⟨rb, 1, none⟩ = some (.int .i64 at_) := hr3.cell rfl; have f1' := hr3.free 1))
        go_ret
        have hm : Mods w w3 (fun k => k = cb ∨ k = rb) := (Mods.refl w (fun k => k = cb ∨ k = rb)).drewN nq |>.trans (hm3.mono fun i h => .inl h)
        refine ⟨hm.set ⟨rb, 1, none⟩ _ (fun _ => .inr rfl), ?_⟩
        rw [HT.out, HR.out]
        exact ⟨rfl, c', hu, hc'.setOther _ _ (Ne.symm hrc), (hr3.set 1 _).congr (by simp [rcell])⟩
      | false =>
        have HT := Lib.hid htake; clear htake
        have HR := Lib.hid hR
        go_enter Tryz.func65, Tryz.ntmps65
        go_wp2_with fail
        go_quiet (fail)
        go_wp2_with (first
          | (go_at_call 85; refine (hic _).mono ?_; rintro e w2 ⟨rfl, rfl⟩)
          | (go_at_call 63; refine (hclo _ _ hps ((Mods.refl w _).drewN nq)).mono ?_; rintro e w3 ⟨c', rfl, hu, hc', hm3⟩; rw [HR.out]; have hr3 := (hr.drewN nq).mods hm3 hrc)
          | (go_at_call 84; refine (fail_any rb s _ e0 a0 340 _ _ hr3).mono ?_; rintro e w4 ⟨rfl, hr4, hm4⟩))
        go_ret
        have hm : Mods w w3 (fun k => k = cb ∨ k = rb) := (Mods.refl w (fun k => k = cb ∨ k = rb)).drewN nq |>.trans (hm3.mono fun i h => .inl h)
        refine ⟨hm.trans (hm4.mono fun i h => .inr h), ?_⟩
        rw [HT.out, HR.out]
        exact ⟨rfl, ⟨c', hc'.mods hm4 (Ne.symm hrc)⟩, _, hr4⟩
    · rw [if_neg hfound] at hib
      have hic : ∀ w', Calls Tryz.prog 85 #[.string t, .int .u8 32] w' fun e w'' => e = .returned (.int .i64 (-1)) ∧ w'' = w' := fun w' => by rw [← hib]; exact Tryz.strings_IndexByte t 32 w'
      clear hib
      have hnn : (s.size : Int) - ((at_ : Int) + 1) = (n : Int) := by have := HTS.out; omega
      cases hR : R p with
      | true =>
        have HT := Lib.hid htake; clear htake
        have HR := Lib.hid hR
        go_enter Tryz.func65, Tryz.ntmps65
        go_wp2_with fail
        go_quiet (fail)
        go_wp2_with (first
          | (go_at_call 85; refine (hic _).mono ?_; rintro e w2 ⟨rfl, rfl⟩)
          | (go_at_call 63; refine (hclo _ _ hps ((Mods.refl w _).drewN nq)).mono ?_; rintro e w3 ⟨c', rfl, hu, hc', hm3⟩; rw [HR.out]; have hr3 := (hr.drewN nq).mods hm3 hrc; have r1' : w3.cell? ⟨rb, 1, none⟩ = some (.int .i64 at_) := hr3.cell rfl; have f1' := hr3.free 1))
        go_ret
        have hm : Mods w w3 (fun k => k = cb ∨ k = rb) := (Mods.refl w (fun k => k = cb ∨ k = rb)).drewN nq |>.trans (hm3.mono fun i h => .inl h)
        refine ⟨hm.set ⟨rb, 1, none⟩ _ (fun _ => .inr rfl), ?_⟩
        rw [HT.out, HR.out]
        exact ⟨rfl, c', hu, hc'.setOther _ _ (Ne.symm hrc), (hr3.set 1 _).congr (by simp [rcell])⟩
      | false =>
        have HT := Lib.hid htake; clear htake
        have HR := Lib.hid hR
        go_enter Tryz.func65, Tryz.ntmps65
        go_wp2_with fail
        go_quiet (fail)
        go_wp2_with (first
          | (go_at_call 85; refine (hic _).mono ?_; rintro e w2 ⟨rfl, rfl⟩)
          | (go_at_call 63; refine (hclo _ _ hps ((Mods.refl w _).drewN nq)).mono ?_; rintro e w3 ⟨c', rfl, hu, hc', hm3⟩; rw [HR.out]; have hr3 := (hr.drewN nq).mods hm3 hrc)
          | (go_at_call 84; refine (fail_any rb s _ e0 a0 340 _ _ hr3).mono ?_; rintro e w4 ⟨rfl, hr4, hm4⟩))
        go_ret
        have hm : Mods w w3 (fun k => k = cb ∨ k = rb) := (Mods.refl w (fun k => k = cb ∨ k = rb)).drewN nq |>.trans (hm3.mono fun i h => .inl h)
        refine ⟨hm.trans (hm4.mono fun i h => .inr h), ?_⟩
        rw [HT.out, HR.out]
        exact ⟨rfl, ⟨c', hc'.mods hm4 (Ne.symm hrc)⟩, _, hr4⟩

set_option maxHeartbeats 4000000 in
set_option maxRecDepth 100000 in
theorem next_any66 (R : ByteArray → Bool) (U : Cmd → ByteArray → Cmd → Prop) (s : ByteArray) (hs : s.size ≤ 140737488351232) (at_ : Nat) (hat : at_ ≤ s.size) (rb cb kb : Nat) (c : Cmd) (e0 a0 : Int) (w : World)
    (hr : Blk w rb (rcell s at_ e0 a0) 65) (hc : Blk w cb (ccell c) 27) (hrc : rb ≠ cb)
    (hclo : ∀ (p : ByteArray) (w' : World), p.size ≤ 140737488351232 → Mods w w' (fun _ => False) → Calls Tryz.prog 66 #[.string p, .pointer (some ⟨kb, 0, none⟩)] w' (CloPost R U cb c p w')) :
    Calls Tryz.prog 65 #[.pointer (some ⟨rb, 0, none⟩), .func (.func 66) #[] #[.pointer (some ⟨kb, 0, none⟩)]] w (NextPost R U s at_ rb cb c e0 a0 w) := by
  have r0 : w.cell? ⟨rb, 0, none⟩ = some (.string s) := hr.cell rfl
  have r1 : w.cell? ⟨rb, 1, none⟩ = some (.int .i64 at_) := hr.cell rfl
  by_cases hend : at_ = s.size
  · subst hend
    go_enter Tryz.func65, Tryz.ntmps65
    go_wp2_with fail
    go_quiet (fail)
    go_wp2_with (go_at_call 84; refine (fail_any rb s _ e0 a0 340 _ _ (hr.drewN nq)).mono ?_; rintro e w1 ⟨rfl, hr1, hm1⟩)
    go_ret
    have hm := (Mods.refl w (fun k => k = cb ∨ k = rb)).drewN nq |>.trans (hm1.mono fun i h => .inr h)
    refine ⟨hm, ?_⟩
    rw [show takeP s s.size R = .error (340, (s.size : Int)) from if_pos rfl]
    exact ⟨rfl, ⟨c, (hc.drewN nq).mods hm1 (Ne.symm hrc)⟩, _, hr1⟩
  · have hend' : ¬ (at_ : Int) = (s.size : Int) := by omega
    have hlt : at_ + 1 ≤ s.size := by omega
    have hlt' : (at_ : Int) + 1 ≤ (s.size : Int) := by omega
    have hcast : ((at_ + 1 : Nat) : Int) = (at_ : Int) + 1 := by omega
    obtain ⟨t, ht⟩ : ∃ t, s.extract (at_ + 1) s.size = t := ⟨_, rfl⟩
    have htl : t.data.toList = s.data.toList.drop (at_ + 1) := by
      rw [← ht, Lib.extract_data]; exact List.take_of_length_le (by simp)
    have hts : t.size = s.size - (at_ + 1) := by rw [← size_list, htl, List.length_drop, size_list]
    obtain ⟨n, hn⟩ : ∃ n, blank (s.data.toList.drop (at_ + 1)) = n := ⟨_, rfl⟩
    have hnle : n ≤ t.size := by rw [← hn, ← htl]; exact blank_le _
    have hib := indexByte_blank t.data.toList
    rw [htl, hn, ← htl, size_list] at hib
    have hn1 : (at_ : Int) + 1 ≤ (at_ : Int) + 1 + (n : Int) := by omega
    have hn2 : (at_ : Int) + 1 + (n : Int) ≤ (s.size : Int) := by omega
    obtain ⟨p, hp⟩ : ∃ p, s.extract (at_ + 1) (at_ + 1 + n) = p := ⟨_, rfl⟩
    have hps : p.size ≤ 140737488351232 := by rw [← hp, ByteArray.size_extract]; omega
    have htake : takeP s at_ R = if R p then .ok (p, at_ + 1 + n) else .error (340, (at_ : Int) + 1) := by
      unfold takeP; rw [if_neg hend]; simp only [hn, hp]
    have HTL := Lib.hid htl; have HN := Lib.hid hn; have HTS := Lib.hid hts; clear htl hn hts
    by_cases hfound : n < t.size
    · rw [if_pos hfound] at hib
      have hic : ∀ w', Calls Tryz.prog 85 #[.string t, .int .u8 32] w' fun e w'' => e = .returned (.int .i64 n) ∧ w'' = w' := fun w' => by rw [← hib]; exact Tryz.strings_IndexByte t 32 w'
      clear hib
      cases hR : R p with
      | true =>
        have HT := Lib.hid htake; clear htake
        have HR := Lib.hid hR
        go_enter Tryz.func65, Tryz.ntmps65
        go_wp2_with fail
        go_quiet (fail)
        go_wp2_with (first
          | (go_at_call 85; refine (hic _).mono ?_; rintro e w2 ⟨rfl, rfl⟩)
          | (go_at_call 66; refine (hclo _ _ hps ((Mods.refl w _).drewN nq)).mono ?_; rintro e w3 ⟨c', rfl, hu, hc', hm3⟩; rw [HR.out]; have hr3 := (hr.drewN nq).mods hm3 hrc; have r1' : w3.cell? ⟨rb, 1, none⟩ = some (.int .i64 at_) := hr3.cell rfl; have f1' := hr3.free 1))
        go_ret
        have hm : Mods w w3 (fun k => k = cb ∨ k = rb) := (Mods.refl w (fun k => k = cb ∨ k = rb)).drewN nq |>.trans (hm3.mono fun i h => .inl h)
        refine ⟨hm.set ⟨rb, 1, none⟩ _ (fun _ => .inr rfl), ?_⟩
        rw [HT.out, HR.out]
        exact ⟨rfl, c', hu, hc'.setOther _ _ (Ne.symm hrc), (hr3.set 1 _).congr (by simp [rcell])⟩
      | false =>
        have HT := Lib.hid htake; clear htake
        have HR := Lib.hid hR
        go_enter Tryz.func65, Tryz.ntmps65
        go_wp2_with fail
        go_quiet (fail)
        go_wp2_with (first
          | (go_at_call 85; refine (hic _).mono ?_; rintro e w2 ⟨rfl, rfl⟩)
          | (go_at_call 66; refine (hclo _ _ hps ((Mods.refl w _).drewN nq)).mono ?_; rintro e w3 ⟨c', rfl, hu, hc', hm3⟩; rw [HR.out]; have hr3 := (hr.drewN nq).mods hm3 hrc)
          | (go_at_call 84; refine (fail_any rb s _ e0 a0 340 _ _ hr3).mono ?_; rintro e w4 ⟨rfl, hr4, hm4⟩))
        go_ret
        have hm : Mods w w3 (fun k => k = cb ∨ k = rb) := (Mods.refl w (fun k => k = cb ∨ k = rb)).drewN nq |>.trans (hm3.mono fun i h => .inl h)
        refine ⟨hm.trans (hm4.mono fun i h => .inr h), ?_⟩
        rw [HT.out, HR.out]
        exact ⟨rfl, ⟨c', hc'.mods hm4 (Ne.symm hrc)⟩, _, hr4⟩
    · rw [if_neg hfound] at hib
      have hic : ∀ w', Calls Tryz.prog 85 #[.string t, .int .u8 32] w' fun e w'' => e = .returned (.int .i64 (-1)) ∧ w'' = w' := fun w' => by rw [← hib]; exact Tryz.strings_IndexByte t 32 w'
      clear hib
      have hnn : (s.size : Int) - ((at_ : Int) + 1) = (n : Int) := by have := HTS.out; omega
      cases hR : R p with
      | true =>
        have HT := Lib.hid htake; clear htake
        have HR := Lib.hid hR
        go_enter Tryz.func65, Tryz.ntmps65
        go_wp2_with fail
        go_quiet (fail)
        go_wp2_with (first
          | (go_at_call 85; refine (hic _).mono ?_; rintro e w2 ⟨rfl, rfl⟩)
          | (go_at_call 66; refine (hclo _ _ hps ((Mods.refl w _).drewN nq)).mono ?_; rintro e w3 ⟨c', rfl, hu, hc', hm3⟩; rw [HR.out]; have hr3 := (hr.drewN nq).mods hm3 hrc; have r1' : w3.cell? ⟨rb, 1, none⟩ = some (.int .i64 at_) := hr3.cell rfl; have f1' := hr3.free 1))
        go_ret
        have hm : Mods w w3 (fun k => k = cb ∨ k = rb) := (Mods.refl w (fun k => k = cb ∨ k = rb)).drewN nq |>.trans (hm3.mono fun i h => .inl h)
        refine ⟨hm.set ⟨rb, 1, none⟩ _ (fun _ => .inr rfl), ?_⟩
        rw [HT.out, HR.out]
        exact ⟨rfl, c', hu, hc'.setOther _ _ (Ne.symm hrc), (hr3.set 1 _).congr (by simp [rcell])⟩
      | false =>
        have HT := Lib.hid htake; clear htake
        have HR := Lib.hid hR
        go_enter Tryz.func65, Tryz.ntmps65
        go_wp2_with fail
        go_quiet (fail)
        go_wp2_with (first
          | (go_at_call 85; refine (hic _).mono ?_; rintro e w2 ⟨rfl, rfl⟩)
          | (go_at_call 66; refine (hclo _ _ hps ((Mods.refl w _).drewN nq)).mono ?_; rintro e w3 ⟨c', rfl, hu, hc', hm3⟩; rw [HR.out]; have hr3 := (hr.drewN nq).mods hm3 hrc)
          | (go_at_call 84; refine (fail_any rb s _ e0 a0 340 _ _ hr3).mono ?_; rintro e w4 ⟨rfl, hr4, hm4⟩))
        go_ret
        have hm : Mods w w3 (fun k => k = cb ∨ k = rb) := (Mods.refl w (fun k => k = cb ∨ k = rb)).drewN nq |>.trans (hm3.mono fun i h => .inl h)
        refine ⟨hm.trans (hm4.mono fun i h => .inr h), ?_⟩
        rw [HT.out, HR.out]
        exact ⟨rfl, ⟨c', hc'.mods hm4 (Ne.symm hrc)⟩, _, hr4⟩

set_option maxHeartbeats 4000000 in
set_option maxRecDepth 100000 in
theorem next_any68 (R : ByteArray → Bool) (U : Cmd → ByteArray → Cmd → Prop) (s : ByteArray) (hs : s.size ≤ 140737488351232) (at_ : Nat) (hat : at_ ≤ s.size) (rb cb kb : Nat) (c : Cmd) (e0 a0 : Int) (w : World)
    (hr : Blk w rb (rcell s at_ e0 a0) 65) (hc : Blk w cb (ccell c) 27) (hrc : rb ≠ cb)
    (hclo : ∀ (p : ByteArray) (w' : World), p.size ≤ 140737488351232 → Mods w w' (fun _ => False) → Calls Tryz.prog 68 #[.string p, .pointer (some ⟨kb, 0, none⟩)] w' (CloPost R U cb c p w')) :
    Calls Tryz.prog 65 #[.pointer (some ⟨rb, 0, none⟩), .func (.func 68) #[] #[.pointer (some ⟨kb, 0, none⟩)]] w (NextPost R U s at_ rb cb c e0 a0 w) := by
  have r0 : w.cell? ⟨rb, 0, none⟩ = some (.string s) := hr.cell rfl
  have r1 : w.cell? ⟨rb, 1, none⟩ = some (.int .i64 at_) := hr.cell rfl
  by_cases hend : at_ = s.size
  · subst hend
    go_enter Tryz.func65, Tryz.ntmps65
    go_wp2_with fail
    go_quiet (fail)
    go_wp2_with (go_at_call 84; refine (fail_any rb s _ e0 a0 340 _ _ (hr.drewN nq)).mono ?_; rintro e w1 ⟨rfl, hr1, hm1⟩)
    go_ret
    have hm := (Mods.refl w (fun k => k = cb ∨ k = rb)).drewN nq |>.trans (hm1.mono fun i h => .inr h)
    refine ⟨hm, ?_⟩
    rw [show takeP s s.size R = .error (340, (s.size : Int)) from if_pos rfl]
    exact ⟨rfl, ⟨c, (hc.drewN nq).mods hm1 (Ne.symm hrc)⟩, _, hr1⟩
  · have hend' : ¬ (at_ : Int) = (s.size : Int) := by omega
    have hlt : at_ + 1 ≤ s.size := by omega
    have hlt' : (at_ : Int) + 1 ≤ (s.size : Int) := by omega
    have hcast : ((at_ + 1 : Nat) : Int) = (at_ : Int) + 1 := by omega
    obtain ⟨t, ht⟩ : ∃ t, s.extract (at_ + 1) s.size = t := ⟨_, rfl⟩
    have htl : t.data.toList = s.data.toList.drop (at_ + 1) := by
      rw [← ht, Lib.extract_data]; exact List.take_of_length_le (by simp)
    have hts : t.size = s.size - (at_ + 1) := by rw [← size_list, htl, List.length_drop, size_list]
    obtain ⟨n, hn⟩ : ∃ n, blank (s.data.toList.drop (at_ + 1)) = n := ⟨_, rfl⟩
    have hnle : n ≤ t.size := by rw [← hn, ← htl]; exact blank_le _
    have hib := indexByte_blank t.data.toList
    rw [htl, hn, ← htl, size_list] at hib
    have hn1 : (at_ : Int) + 1 ≤ (at_ : Int) + 1 + (n : Int) := by omega
    have hn2 : (at_ : Int) + 1 + (n : Int) ≤ (s.size : Int) := by omega
    obtain ⟨p, hp⟩ : ∃ p, s.extract (at_ + 1) (at_ + 1 + n) = p := ⟨_, rfl⟩
    have hps : p.size ≤ 140737488351232 := by rw [← hp, ByteArray.size_extract]; omega
    have htake : takeP s at_ R = if R p then .ok (p, at_ + 1 + n) else .error (340, (at_ : Int) + 1) := by
      unfold takeP; rw [if_neg hend]; simp only [hn, hp]
    have HTL := Lib.hid htl; have HN := Lib.hid hn; have HTS := Lib.hid hts; clear htl hn hts
    by_cases hfound : n < t.size
    · rw [if_pos hfound] at hib
      have hic : ∀ w', Calls Tryz.prog 85 #[.string t, .int .u8 32] w' fun e w'' => e = .returned (.int .i64 n) ∧ w'' = w' := fun w' => by rw [← hib]; exact Tryz.strings_IndexByte t 32 w'
      clear hib
      cases hR : R p with
      | true =>
        have HT := Lib.hid htake; clear htake
        have HR := Lib.hid hR
        go_enter Tryz.func65, Tryz.ntmps65
        go_wp2_with fail
        go_quiet (fail)
        go_wp2_with (first
          | (go_at_call 85; refine (hic _).mono ?_; rintro e w2 ⟨rfl, rfl⟩)
          | (go_at_call 68; refine (hclo _ _ hps ((Mods.refl w _).drewN nq)).mono ?_; rintro e w3 ⟨c', rfl, hu, hc', hm3⟩; rw [HR.out]; have hr3 := (hr.drewN nq).mods hm3 hrc; have r1' : w3.cell? ⟨rb, 1, none⟩ = some (.int .i64 at_) := hr3.cell rfl; have f1' := hr3.free 1))
        go_ret
        have hm : Mods w w3 (fun k => k = cb ∨ k = rb) := (Mods.refl w (fun k => k = cb ∨ k = rb)).drewN nq |>.trans (hm3.mono fun i h => .inl h)
        refine ⟨hm.set ⟨rb, 1, none⟩ _ (fun _ => .inr rfl), ?_⟩
        rw [HT.out, HR.out]
        exact ⟨rfl, c', hu, hc'.setOther _ _ (Ne.symm hrc), (hr3.set 1 _).congr (by simp [rcell])⟩
      | false =>
        have HT := Lib.hid htake; clear htake
        have HR := Lib.hid hR
        go_enter Tryz.func65, Tryz.ntmps65
        go_wp2_with fail
        go_quiet (fail)
        go_wp2_with (first
          | (go_at_call 85; refine (hic _).mono ?_; rintro e w2 ⟨rfl, rfl⟩)
          | (go_at_call 68; refine (hclo _ _ hps ((Mods.refl w _).drewN nq)).mono ?_; rintro e w3 ⟨c', rfl, hu, hc', hm3⟩; rw [HR.out]; have hr3 := (hr.drewN nq).mods hm3 hrc)
          | (go_at_call 84; refine (fail_any rb s _ e0 a0 340 _ _ hr3).mono ?_; rintro e w4 ⟨rfl, hr4, hm4⟩))
        go_ret
        have hm : Mods w w3 (fun k => k = cb ∨ k = rb) := (Mods.refl w (fun k => k = cb ∨ k = rb)).drewN nq |>.trans (hm3.mono fun i h => .inl h)
        refine ⟨hm.trans (hm4.mono fun i h => .inr h), ?_⟩
        rw [HT.out, HR.out]
        exact ⟨rfl, ⟨c', hc'.mods hm4 (Ne.symm hrc)⟩, _, hr4⟩
    · rw [if_neg hfound] at hib
      have hic : ∀ w', Calls Tryz.prog 85 #[.string t, .int .u8 32] w' fun e w'' => e = .returned (.int .i64 (-1)) ∧ w'' = w' := fun w' => by rw [← hib]; exact Tryz.strings_IndexByte t 32 w'
      clear hib
      have hnn : (s.size : Int) - ((at_ : Int) + 1) = (n : Int) := by have := HTS.out; omega
      cases hR : R p with
      | true =>
        have HT := Lib.hid htake; clear htake
        have HR := Lib.hid hR
        go_enter Tryz.func65, Tryz.ntmps65
        go_wp2_with fail
        go_quiet (fail)
        go_wp2_with (first
          | (go_at_call 85; refine (hic _).mono ?_; rintro e w2 ⟨rfl, rfl⟩)
          | (go_at_call 68; refine (hclo _ _ hps ((Mods.refl w _).drewN nq)).mono ?_; rintro e w3 ⟨c', rfl, hu, hc', hm3⟩; rw [HR.out]; have hr3 := (hr.drewN nq).mods hm3 hrc; have r1' : w3.cell? ⟨rb, 1, none⟩ = some (.int .i64 at_) := hr3.cell rfl; have f1' := hr3.free 1))
        go_ret
        have hm : Mods w w3 (fun k => k = cb ∨ k = rb) := (Mods.refl w (fun k => k = cb ∨ k = rb)).drewN nq |>.trans (hm3.mono fun i h => .inl h)
        refine ⟨hm.set ⟨rb, 1, none⟩ _ (fun _ => .inr rfl), ?_⟩
        rw [HT.out, HR.out]
        exact ⟨rfl, c', hu, hc'.setOther _ _ (Ne.symm hrc), (hr3.set 1 _).congr (by simp [rcell])⟩
      | false =>
        have HT := Lib.hid htake; clear htake
        have HR := Lib.hid hR
        go_enter Tryz.func65, Tryz.ntmps65
        go_wp2_with fail
        go_quiet (fail)
        go_wp2_with (first
          | (go_at_call 85; refine (hic _).mono ?_; rintro e w2 ⟨rfl, rfl⟩)
          | (go_at_call 68; refine (hclo _ _ hps ((Mods.refl w _).drewN nq)).mono ?_; rintro e w3 ⟨c', rfl, hu, hc', hm3⟩; rw [HR.out]; have hr3 := (hr.drewN nq).mods hm3 hrc)
          | (go_at_call 84; refine (fail_any rb s _ e0 a0 340 _ _ hr3).mono ?_; rintro e w4 ⟨rfl, hr4, hm4⟩))
        go_ret
        have hm : Mods w w3 (fun k => k = cb ∨ k = rb) := (Mods.refl w (fun k => k = cb ∨ k = rb)).drewN nq |>.trans (hm3.mono fun i h => .inl h)
        refine ⟨hm.trans (hm4.mono fun i h => .inr h), ?_⟩
        rw [HT.out, HR.out]
        exact ⟨rfl, ⟨c', hc'.mods hm4 (Ne.symm hrc)⟩, _, hr4⟩

end Go.Proofs.YtigfkfjlfpndfaaGreatDoor
