/-
  line's reader: text.
-/
import Derived.Test.YtigfkfjlfpndfaaGreatDoorReader
namespace Go.Proofs.YtigfkfjlfpndfaaGreatDoor
open Go.RowKit Sp

def TextPost (s : ByteArray) (at_ : Nat) (rb cb : Nat) (c : Cmd) (e0 a0 : Int) (w : World) (en : Ending) (w' : World) : Prop :=
  Mods w w' (fun k => k = cb ∨ k = rb) ∧ match takeT s at_ with
  | .ok t => en = .returned (.bool true) ∧ Blk w' cb (ccell { c with text := t }) 27 ∧ Blk w' rb (rcell s s.size e0 a0) 65
  | .error (e, a) => en = .returned (.bool false) ∧ (∃ c', Blk w' cb (ccell c') 27) ∧ ∃ d, Blk w' rb (rcell s d e a) 65

set_option maxHeartbeats 4000000 in
set_option maxRecDepth 100000 in
theorem rtext_any (s : ByteArray) (hs : s.size ≤ 140737488351232) (at_ : Nat) (hat : at_ ≤ s.size) (rb cb : Nat) (c : Cmd) (e0 a0 : Int) (w : World)
    (hr : Blk w rb (rcell s at_ e0 a0) 65) (hc : Blk w cb (ccell c) 27) (hrc : rb ≠ cb) :
    Calls Tryz.prog 70 #[.pointer (some ⟨rb, 0, none⟩), .pointer (some ⟨cb, 0, none⟩)] w (TextPost s at_ rb cb c e0 a0 w) := by
  have r0 : w.cell? ⟨rb, 0, none⟩ = some (.string s) := hr.cell rfl
  have r1 : w.cell? ⟨rb, 1, none⟩ = some (.int .i64 at_) := hr.cell rfl
  by_cases hend : at_ = s.size
  · subst hend
    go_enter Tryz.func70, Tryz.ntmps70
    go_wp2_with fail
    go_quiet (fail)
    go_wp2_with (go_at_call 84; refine (fail_any rb s _ e0 a0 340 _ _ (hr.drewN nq)).mono ?_; rintro e w1 ⟨rfl, hr1, hm1⟩)
    go_ret
    have hm := (Mods.refl w (fun k => k = cb ∨ k = rb)).drewN nq |>.trans (hm1.mono fun i h => .inr h)
    refine ⟨hm, ?_⟩
    rw [show takeT s s.size = .error (340, (s.size : Int)) from if_pos rfl]
    exact ⟨rfl, ⟨c, (hc.drewN nq).mods hm1 (Ne.symm hrc)⟩, _, hr1⟩
  · have hend' : ¬ (at_ : Int) = (s.size : Int) := by omega
    have hlt : at_ + 1 ≤ s.size := by omega
    have hlt' : (at_ : Int) + 1 ≤ (s.size : Int) := by omega
    have hcast : ((at_ + 1 : Nat) : Int) = (at_ : Int) + 1 := by omega
    obtain ⟨t, ht⟩ : ∃ t, s.extract (at_ + 1) s.size = t := ⟨_, rfl⟩
    have hts : t.size ≤ s.size := by rw [← ht, ByteArray.size_extract]; omega
    have htake : takeT s at_ = if t.size = 0 then .error (340, (at_ : Int) + 1) else if 48 < t.size then .error (3, (at_ : Int) + 1) else if 0 ≤ oddOf t.data.toList then .error (340, (at_ : Int) + 1 + oddOf t.data.toList) else .ok t := by
      unfold takeT; rw [if_neg hend]; simp only [ht, hcast]
    have HTAKE := Lib.hid htake; clear htake
    -- the blocks behind the store of the text
    have post : ∀ nq, Blk ((w.drewN nq).setCell ⟨cb, 34, none⟩ (.string t)) rb (rcell s at_ e0 a0) 65 ∧ Blk ((w.drewN nq).setCell ⟨cb, 34, none⟩ (.string t)) cb (ccell { c with text := t }) 27 ∧ Mods w ((w.drewN nq).setCell ⟨cb, 34, none⟩ (.string t)) (fun k => k = cb ∨ k = rb) := fun nq =>
      ⟨(hr.drewN nq).setOther _ _ hrc, ((hc.drewN nq).set 34 _).congr (ccell_set34 c t), ((Mods.refl w _).drewN nq).set ⟨cb, 34, none⟩ _ (fun _ => .inl rfl)⟩
    have POST := Lib.hid post; clear post
    have c34 : w.cell? ⟨cb, 34, none⟩ = some (.string c.text) := hc.cell (ccell_34 c)
    have f34 := hc.free 34
    by_cases h0 : t.size = 0
    · have he := str_none (s := t) (by omega)
      go_enter Tryz.func70, Tryz.ntmps70
      go_wp2_with fail
      go_quiet (fail)
      go_wp2_with (first
        | (go_at_call 84; refine (fail_any rb s _ e0 a0 340 _ _ (POST.out nq).1).mono ?_; rintro e w1 ⟨rfl, hr1, hm1⟩))
      go_ret
      refine ⟨(POST.out nq).2.2.trans (hm1.mono fun i h => .inr h), ?_⟩
      rw [HTAKE.out, if_pos h0]
      exact ⟨rfl, ⟨_, (POST.out nq).2.1.mods hm1 (Ne.symm hrc)⟩, _, hr1⟩
    · have he := str_some (s := t) (by omega)
      by_cases h48 : 48 < t.size
      · have h48' : (48 : Int) < (t.size : Int) := by omega
        go_enter Tryz.func70, Tryz.ntmps70
        go_wp2_with fail
        go_quiet (fail)
        go_wp2_with (first
          | (go_at_call 84; refine (fail_any rb s _ e0 a0 3 _ _ (POST.out nq).1).mono ?_; rintro e w1 ⟨rfl, hr1, hm1⟩))
        go_ret
        refine ⟨(POST.out nq).2.2.trans (hm1.mono fun i h => .inr h), ?_⟩
        rw [HTAKE.out, if_neg h0, if_pos h48]
        exact ⟨rfl, ⟨_, (POST.out nq).2.1.mods hm1 (Ne.symm hrc)⟩, _, hr1⟩
      · have h48' : ¬ (48 : Int) < (t.size : Int) := by omega
        have hodd := fun w' => odd_any t w' (by omega)
        have hrange := oddOf_range t.data.toList
        rw [size_list] at hrange
        by_cases ho : 0 ≤ oddOf t.data.toList
        · generalize oddOf t.data.toList = o at *
          have ho2 : o < 49 := by omega
          go_enter Tryz.func70, Tryz.ntmps70
          go_wp2_with fail
          go_quiet (fail)
          go_wp2_with (first
            | (go_at_call 56; refine (hodd _).mono ?_; rintro e w1 ⟨rfl, rfl⟩)
            | (go_at_call 84; refine (fail_any rb s _ e0 a0 340 _ _ (POST.out nq).1).mono ?_; rintro e w1 ⟨rfl, hr1, hm1⟩))
          go_ret
          refine ⟨(POST.out nq).2.2.trans (hm1.mono fun i h => .inr h), ?_⟩
          rw [HTAKE.out, if_neg h0, if_neg h48, if_pos ho]
          exact ⟨rfl, ⟨_, (POST.out nq).2.1.mods hm1 (Ne.symm hrc)⟩, _, hr1⟩
        · generalize oddOf t.data.toList = o at *
          go_enter Tryz.func70, Tryz.ntmps70
          go_wp2_with fail
          go_quiet (fail)
          obtain ⟨hrT, hcT, hmT⟩ := POST.out nq
          have r0T : ((w.drewN nq).setCell ⟨cb, 34, none⟩ (.string t)).cell? ⟨rb, 0, none⟩ = some (.string s) := hrT.cell rfl
          have r1T : ((w.drewN nq).setCell ⟨cb, 34, none⟩ (.string t)).cell? ⟨rb, 1, none⟩ = some (.int .i64 at_) := hrT.cell rfl
          have f1T := hrT.free 1
          go_wp2_with (first
            | (go_at_call 56; refine (hodd _).mono ?_; rintro e w1 ⟨rfl, rfl⟩))
          go_ret
          refine ⟨hmT.set ⟨rb, 1, none⟩ _ (fun _ => .inr rfl), ?_⟩
          rw [HTAKE.out, if_neg h0, if_neg h48, if_neg (by omega)]
          exact ⟨rfl, hcT.setOther _ _ (Ne.symm hrc), (hrT.set 1 _).congr (by simp [rcell])⟩

end Go.Proofs.YtigfkfjlfpndfaaGreatDoor
