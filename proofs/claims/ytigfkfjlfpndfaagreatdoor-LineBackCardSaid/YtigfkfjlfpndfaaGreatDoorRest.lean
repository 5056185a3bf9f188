/-
  line's reader: rest.
-/
import Derived.Test.YtigfkfjlfpndfaaGreatDoorNext
import Derived.Test.YtigfkfjlfpndfaaGreatDoorRText
namespace Go.Proofs.YtigfkfjlfpndfaaGreatDoor
open Go.RowKit Sp

theorem takeP_le {s : ByteArray} {at_ : Nat} {R : ByteArray → Bool} {p : ByteArray} {d : Nat} (h : takeP s at_ R = .ok (p, d)) (hat : at_ ≤ s.size) : d ≤ s.size ∧ R p = true ∧ p.size ≤ s.size := by
  unfold takeP at h
  split at h
  · cases h
  · have hb := blank_le (s.data.toList.drop (at_ + 1))
    rw [List.length_drop, size_list] at hb
    simp only at h
    split at h
    · rename_i hR
      simp only [Except.ok.injEq, Prod.mk.injEq] at h
      obtain ⟨h1, h2⟩ := h
      rw [h1] at hR
      exact ⟨by omega, hR, by rw [← h1, ByteArray.size_extract]; omega⟩
    · cases h
section
variable {R : ByteArray → Bool} {U : Cmd → ByteArray → Cmd → Prop} {s : ByteArray} {at_ rb cb : Nat} {c : Cmd} {e0 a0 : Int} {w w' : World} {en : Ending}
theorem NextPost.no (h : NextPost R U s at_ rb cb c e0 a0 w en w') {e a : Int} (hT : takeP s at_ R = .error (e, a)) : en = .returned (.bool false) ∧ (∃ d, Blk w' rb (rcell s d e a) 65) ∧ Mods w w' (fun k => k = cb ∨ k = rb) := by
  obtain ⟨hm, h⟩ := h
  rw [hT] at h
  exact ⟨h.1, h.2.2, hm⟩
theorem NextPost.yes (h : NextPost R U s at_ rb cb c e0 a0 w en w') {p : ByteArray} {d : Nat} (hT : takeP s at_ R = .ok (p, d)) : en = .returned (.bool true) ∧ (∃ c', U c p c' ∧ Blk w' cb (ccell c') 27) ∧ Blk w' rb (rcell s d e0 a0) 65 ∧ Mods w w' (fun k => k = cb ∨ k = rb) := by
  obtain ⟨hm, h⟩ := h
  rw [hT] at h
  obtain ⟨h1, c', h2, h3, h4⟩ := h
  exact ⟨h1, ⟨c', h2, h3⟩, h4, hm⟩
theorem TextPost.no (h : TextPost s at_ rb cb c e0 a0 w en w') {e a : Int} (hT : takeT s at_ = .error (e, a)) : en = .returned (.bool false) ∧ (∃ d, Blk w' rb (rcell s d e a) 65) ∧ Mods w w' (fun k => k = cb ∨ k = rb) := by
  obtain ⟨hm, h⟩ := h
  rw [hT] at h
  exact ⟨h.1, h.2.2, hm⟩
theorem TextPost.yes (h : TextPost s at_ rb cb c e0 a0 w en w') {t : ByteArray} (hT : takeT s at_ = .ok t) : en = .returned (.bool true) ∧ Blk w' cb (ccell { c with text := t }) 27 ∧ Blk w' rb (rcell s s.size e0 a0) 65 ∧ Mods w w' (fun k => k = cb ∨ k = rb) := by
  obtain ⟨hm, h⟩ := h
  rw [hT] at h
  exact ⟨h.1, h.2.1, h.2.2, hm⟩
end

def RestPost (k : Nat) (s : ByteArray) (at_ : Nat) (rb cb : Nat) (c : Cmd) (w : World) (en : Ending) (w' : World) : Prop :=
  Mods w w' (fun k => k = cb ∨ k = rb) ∧ match restS k s at_ c with
  | .ok (c', d) => en = .returned (.bool true) ∧ Blk w' cb (ccell c') 27 ∧ Blk w' rb (rcell s d 0 0) 65
  | .error (e, a) => en = .returned (.bool false) ∧ ∃ d, Blk w' rb (rcell s d e a) 65

/-- what the calls of rest find -/
structure RestIn (s : ByteArray) (at_ rb cb kb : Nat) (c : Cmd) (w : World) : Prop where
  hs : s.size ≤ 140737488351232
  hat : at_ ≤ s.size
  hv : Vars w
  hr : Blk w rb (rcell s at_ 0 0) 65
  hc : Blk w cb (ccell c) 27
  hk : Blk w kb #[.pointer (some ⟨cb, 0, none⟩)] 67
  hrc : rb ≠ cb
  hkc : kb ≠ cb
  hkr : kb ≠ rb
  r8 : 8 ≤ rb
  c8 : 8 ≤ cb
namespace RestIn
variable {s : ByteArray} {at_ rb cb kb : Nat} {c : Cmd} {w : World}
theorem then' (h : RestIn s at_ rb cb kb c w) {w' : World} (hm : Mods w w' (fun k => k = cb ∨ k = rb)) {d : Nat} (hd : d ≤ s.size) {c' : Cmd} (hr : Blk w' rb (rcell s d 0 0) 65) (hc : Blk w' cb (ccell c') 27) : RestIn s d rb cb kb c' w' :=
  ⟨h.hs, hd, h.hv.mods hm (fun i hi e => by have := h.r8; have := h.c8; omega), hr, hc, h.hk.mods hm (fun e => by have := h.hkc; have := h.hkr; omega), h.hrc, h.hkc, h.hkr, h.r8, h.c8⟩
theorem name (h : RestIn s at_ rb cb kb c w) : Calls Tryz.prog 65 #[.pointer (some ⟨rb, 0, none⟩), .func (.func 63) #[] #[.pointer (some ⟨kb, 0, none⟩)]] w (NextPost isName (fun c p c' => c' = { c with name := p }) s at_ rb cb c 0 0 w) :=
  next_any63 _ _ s h.hs at_ h.hat rb cb kb c 0 0 w h.hr h.hc h.hrc fun p w' hp hm => clo1 p hp kb cb c w' (h.hk.mods hm (fun e => e)) (h.hc.mods hm (fun e => e))
theorem key (h : RestIn s at_ rb cb kb c w) : Calls Tryz.prog 65 #[.pointer (some ⟨rb, 0, none⟩), .func (.func 66) #[] #[.pointer (some ⟨kb, 0, none⟩)]] w (NextPost keyB (fun c p c' => c' = { c with key := keyF p }) s at_ rb cb c 0 0 w) :=
  next_any66 _ _ s h.hs at_ h.hat rb cb kb c 0 0 w h.hr h.hc h.hrc fun p w' hp hm => clo2 p hp kb cb c w' (h.hk.mods hm (fun e => e)) (h.hc.mods hm (fun e => e))
theorem count (h : RestIn s at_ rb cb kb c w) : Calls Tryz.prog 65 #[.pointer (some ⟨rb, 0, none⟩), .func (.func 68) #[] #[.pointer (some ⟨kb, 0, none⟩)]] w (NextPost isNum (fun c p c' => ∃ n, c' = { c with count := n } ∧ (isNum p = true → n = numV p)) s at_ rb cb c 0 0 w) :=
  next_any68 _ _ s h.hs at_ h.hat rb cb kb c 0 0 w h.hr h.hc h.hrc fun p w' hp hm => clo3 p hp kb cb c w' (h.hv.mods hm (fun _ _ e => e)) (h.hk.mods hm (fun e => e)) (h.hc.mods hm (fun e => e))
theorem text (h : RestIn s at_ rb cb kb c w) : Calls Tryz.prog 70 #[.pointer (some ⟨rb, 0, none⟩), .pointer (some ⟨cb, 0, none⟩)] w (TextPost s at_ rb cb c 0 0 w) :=
  rtext_any s h.hs at_ h.hat rb cb c 0 0 w h.hr h.hc h.hrc
end RestIn

set_option maxHeartbeats 4000000 in
set_option maxRecDepth 100000 in
theorem rest_any (k : Nat) (hk1 : 1 ≤ k) (hk7 : k ≤ 7) (s : ByteArray) (hs : s.size ≤ 140737488351232) (at_ : Nat) (hat : at_ ≤ s.size) (rb cb : Nat) (c : Cmd) (hck : c.kind = k) (w : World) (hv : Vars w)
    (hr : Blk w rb (rcell s at_ 0 0) 65) (hc : Blk w cb (ccell c) 27) (hrc : rb ≠ cb) (r8 : 8 ≤ rb) (c8 : 8 ≤ cb) :
    Calls Tryz.prog 37 #[.pointer (some ⟨rb, 0, none⟩), .pointer (some ⟨cb, 0, none⟩)] w (RestPost k s at_ rb cb c w) := by
  have hmf : ∀ (fn : Fn) (first cap : Array Value) (w : World), (Instr.makeFunc fn first cap).run Tryz.prog w = .ok (.func fn first cap) w := fun _ _ _ _ => rfl
  have hin : RestIn s at_ rb cb w.heap.size c (w.alloc (.cells #[.pointer (some ⟨cb, 0, none⟩)] 67)) :=
    ⟨hs, hat, hv.ext ((Below.refl _ w).alloc (Nat.le_refl _) _), hr.alloc _, hc.alloc _, Blk.new w _ 67, hrc, by have := hc.lt; omega, by have := hr.lt; omega, r8, c8⟩
  have hm0 : Mods w (w.alloc (.cells #[.pointer (some ⟨cb, 0, none⟩)] 67)) (fun k => k = cb ∨ k = rb) := (Mods.refl w _).alloc _
  have c0 : w.cell? ⟨cb, 0, none⟩ = some (.int .i64 k) := by rw [← hck]; exact hc.cell (ccell_0 c)
  have c0' : (w.alloc (.cells #[.pointer (some ⟨cb, 0, none⟩)] 67)).cell? ⟨cb, 0, none⟩ = some (.int .i64 k) := by rw [← hck]; exact hin.hc.cell (ccell_0 c)
  have HCK := Lib.hid hck; clear hck
  have HIN := Lib.hid hin; clear hin
  have HM := Lib.hid hm0; clear hm0
  have hk : k = 1 ∨ k = 2 ∨ k = 3 ∨ k = 4 ∨ k = 5 ∨ k = 6 ∨ k = 7 := by omega
  rcases hk with rfl | rfl | rfl | rfl | rfl | rfl | rfl
  · go_enter Tryz.func37, Tryz.ntmps37
    go_wp2
    go_ret
    exact ⟨HM.out, rfl, hc.alloc _, hr.alloc _⟩
  · cases hT : takeP s at_ isName with
    | error e =>
      obtain ⟨e, a⟩ := e
      go_enter Tryz.func37, Tryz.ntmps37
      go_wp2_with (first
        | ((with_reducible show Calls _ 65 #[_, Value.func (Fn.func 63) _ _] _ _); refine (HIN.out.name).mono ?_; rintro e1 w1 hn; obtain ⟨rfl, ⟨_, hr1⟩, hm1⟩ := hn.no hT)
        )
      go_ret
      exact ⟨HM.out.trans hm1, by simp only [restS, hT]; exact ⟨rfl, _, hr1⟩⟩
    | ok r =>
      obtain ⟨p, d⟩ := r
      have hd := (takeP_le hT hat).1
      cases hT2 : takeP s d keyB with
      | error e =>
        obtain ⟨e, a⟩ := e
        go_enter Tryz.func37, Tryz.ntmps37
        go_wp2_with (first
          | ((with_reducible show Calls _ 65 #[_, Value.func (Fn.func 63) _ _] _ _); refine (HIN.out.name).mono ?_; rintro e1 w1 hn; obtain ⟨rfl, ⟨_, rfl, hc1⟩, hr1, hm1⟩ := hn.yes hT; have hin2 := Lib.hid (HIN.out.then' hm1 hd hr1 hc1); have b3 : Blk w1 w.heap.size #[.pointer (some ⟨cb, 0, none⟩)] 67 := hin2.out.hk; have k3 : w1.cell? ⟨w.heap.size, 0, none⟩ = some (.pointer (some ⟨cb, 0, none⟩)) := b3.cell rfl)
          | ((with_reducible show Calls _ 65 #[_, Value.func (Fn.func 66) _ _] _ _); refine (hin2.out.key).mono ?_; rintro e2 w2 hn2; obtain ⟨rfl, ⟨_, hr2⟩, hm2⟩ := hn2.no hT2)
          )
        go_ret
        exact ⟨(HM.out.trans hm1).trans hm2, by simp only [restS, hT, hT2]; exact ⟨rfl, _, hr2⟩⟩
      | ok r2 =>
        obtain ⟨q, d2⟩ := r2
        have hd2 := takeP_le hT2 hd
        go_enter Tryz.func37, Tryz.ntmps37
        go_wp2_with (first
          | ((with_reducible show Calls _ 65 #[_, Value.func (Fn.func 63) _ _] _ _); refine (HIN.out.name).mono ?_; rintro e1 w1 hn; obtain ⟨rfl, ⟨_, rfl, hc1⟩, hr1, hm1⟩ := hn.yes hT; have hin2 := Lib.hid (HIN.out.then' hm1 hd hr1 hc1); have b3 : Blk w1 w.heap.size #[.pointer (some ⟨cb, 0, none⟩)] 67 := hin2.out.hk; have k3 : w1.cell? ⟨w.heap.size, 0, none⟩ = some (.pointer (some ⟨cb, 0, none⟩)) := b3.cell rfl)
          | ((with_reducible show Calls _ 65 #[_, Value.func (Fn.func 66) _ _] _ _); refine (hin2.out.key).mono ?_; rintro e2 w2 hn2; obtain ⟨rfl, ⟨_, rfl, hc2⟩, hr2, hm2⟩ := hn2.yes hT2)
          )
        go_ret
        exact ⟨(HM.out.trans hm1).trans hm2, by simp only [restS, hT, hT2]; exact ⟨rfl, hc2, hr2⟩⟩
  · go_enter Tryz.func37, Tryz.ntmps37
    go_wp2
    go_ret
    exact ⟨HM.out, rfl, hc.alloc _, hr.alloc _⟩
  · cases hT : takeP s at_ isName with
    | error e =>
      obtain ⟨e, a⟩ := e
      go_enter Tryz.func37, Tryz.ntmps37
      go_wp2_with (first
        | ((with_reducible show Calls _ 65 #[_, Value.func (Fn.func 63) _ _] _ _); refine (HIN.out.name).mono ?_; rintro e1 w1 hn; obtain ⟨rfl, ⟨_, hr1⟩, hm1⟩ := hn.no hT)
        )
      go_ret
      exact ⟨HM.out.trans hm1, by simp only [restS, hT]; exact ⟨rfl, _, hr1⟩⟩
    | ok r =>
      obtain ⟨p, d⟩ := r
      have hd := (takeP_le hT hat).1
      cases hT2 : takeT s d with
      | error e =>
        obtain ⟨e, a⟩ := e
        go_enter Tryz.func37, Tryz.ntmps37
        go_wp2_with (first
          | ((with_reducible show Calls _ 65 #[_, Value.func (Fn.func 63) _ _] _ _); refine (HIN.out.name).mono ?_; rintro e1 w1 hn; obtain ⟨rfl, ⟨_, rfl, hc1⟩, hr1, hm1⟩ := hn.yes hT; have hin2 := Lib.hid (HIN.out.then' hm1 hd hr1 hc1); have b3 : Blk w1 w.heap.size #[.pointer (some ⟨cb, 0, none⟩)] 67 := hin2.out.hk; have k3 : w1.cell? ⟨w.heap.size, 0, none⟩ = some (.pointer (some ⟨cb, 0, none⟩)) := b3.cell rfl)
          | ((with_reducible show Calls _ 70 _ _ _); refine (hin2.out.text).mono ?_; rintro e2 w2 hn2; obtain ⟨rfl, ⟨_, hr2⟩, hm2⟩ := hn2.no hT2)
          )
        go_ret
        exact ⟨(HM.out.trans hm1).trans hm2, by simp only [restS, hT, hT2]; exact ⟨rfl, _, hr2⟩⟩
      | ok r2 =>
        go_enter Tryz.func37, Tryz.ntmps37
        go_wp2_with (first
          | ((with_reducible show Calls _ 65 #[_, Value.func (Fn.func 63) _ _] _ _); refine (HIN.out.name).mono ?_; rintro e1 w1 hn; obtain ⟨rfl, ⟨_, rfl, hc1⟩, hr1, hm1⟩ := hn.yes hT; have hin2 := Lib.hid (HIN.out.then' hm1 hd hr1 hc1); have b3 : Blk w1 w.heap.size #[.pointer (some ⟨cb, 0, none⟩)] 67 := hin2.out.hk; have k3 : w1.cell? ⟨w.heap.size, 0, none⟩ = some (.pointer (some ⟨cb, 0, none⟩)) := b3.cell rfl)
          | ((with_reducible show Calls _ 70 _ _ _); refine (hin2.out.text).mono ?_; rintro e2 w2 hn2; obtain ⟨rfl, hc2, hr2, hm2⟩ := hn2.yes hT2)
          )
        go_ret
        exact ⟨(HM.out.trans hm1).trans hm2, by simp only [restS, hT, hT2]; exact ⟨rfl, hc2, hr2⟩⟩
  · cases hT : takeP s at_ isName with
    | error e =>
      obtain ⟨e, a⟩ := e
      go_enter Tryz.func37, Tryz.ntmps37
      go_wp2_with (first
        | ((with_reducible show Calls _ 65 #[_, Value.func (Fn.func 63) _ _] _ _); refine (HIN.out.name).mono ?_; rintro e1 w1 hn; obtain ⟨rfl, ⟨_, hr1⟩, hm1⟩ := hn.no hT)
        )
      go_ret
      exact ⟨HM.out.trans hm1, by simp only [restS, hT]; exact ⟨rfl, _, hr1⟩⟩
    | ok r =>
      obtain ⟨p, d⟩ := r
      have hd := (takeP_le hT hat).1
      go_enter Tryz.func37, Tryz.ntmps37
      go_wp2_with (first
        | ((with_reducible show Calls _ 65 #[_, Value.func (Fn.func 63) _ _] _ _); refine (HIN.out.name).mono ?_; rintro e1 w1 hn; obtain ⟨rfl, ⟨_, rfl, hc1⟩, hr1, hm1⟩ := hn.yes hT; have hin2 := Lib.hid (HIN.out.then' hm1 hd hr1 hc1); have b3 : Blk w1 w.heap.size #[.pointer (some ⟨cb, 0, none⟩)] 67 := hin2.out.hk; have k3 : w1.cell? ⟨w.heap.size, 0, none⟩ = some (.pointer (some ⟨cb, 0, none⟩)) := b3.cell rfl)
        )
      go_ret
      exact ⟨HM.out.trans hm1, by simp only [restS, hT]; exact ⟨rfl, hc1, hr1⟩⟩
  · cases hT : takeP s at_ isName with
    | error e =>
      obtain ⟨e, a⟩ := e
      go_enter Tryz.func37, Tryz.ntmps37
      go_wp2_with (first
        | ((with_reducible show Calls _ 65 #[_, Value.func (Fn.func 63) _ _] _ _); refine (HIN.out.name).mono ?_; rintro e1 w1 hn; obtain ⟨rfl, ⟨_, hr1⟩, hm1⟩ := hn.no hT)
        )
      go_ret
      exact ⟨HM.out.trans hm1, by simp only [restS, hT]; exact ⟨rfl, _, hr1⟩⟩
    | ok r =>
      obtain ⟨p, d⟩ := r
      have hd := (takeP_le hT hat).1
      cases hT2 : takeP s d isNum with
      | error e =>
        obtain ⟨e, a⟩ := e
        go_enter Tryz.func37, Tryz.ntmps37
        go_wp2_with (first
          | ((with_reducible show Calls _ 65 #[_, Value.func (Fn.func 63) _ _] _ _); refine (HIN.out.name).mono ?_; rintro e1 w1 hn; obtain ⟨rfl, ⟨_, rfl, hc1⟩, hr1, hm1⟩ := hn.yes hT; have hin2 := Lib.hid (HIN.out.then' hm1 hd hr1 hc1); have b3 : Blk w1 w.heap.size #[.pointer (some ⟨cb, 0, none⟩)] 67 := hin2.out.hk; have k3 : w1.cell? ⟨w.heap.size, 0, none⟩ = some (.pointer (some ⟨cb, 0, none⟩)) := b3.cell rfl)
          | ((with_reducible show Calls _ 65 #[_, Value.func (Fn.func 68) _ _] _ _); refine (hin2.out.count).mono ?_; rintro e2 w2 hn2; obtain ⟨rfl, ⟨_, hr2⟩, hm2⟩ := hn2.no hT2)
          )
        go_ret
        exact ⟨(HM.out.trans hm1).trans hm2, by simp only [restS, hT, hT2]; exact ⟨rfl, _, hr2⟩⟩
      | ok r2 =>
        obtain ⟨q, d2⟩ := r2
        have hd2 := takeP_le hT2 hd
        go_enter Tryz.func37, Tryz.ntmps37
        go_wp2_with (first
          | ((with_reducible show Calls _ 65 #[_, Value.func (Fn.func 63) _ _] _ _); refine (HIN.out.name).mono ?_; rintro e1 w1 hn; obtain ⟨rfl, ⟨_, rfl, hc1⟩, hr1, hm1⟩ := hn.yes hT; have hin2 := Lib.hid (HIN.out.then' hm1 hd hr1 hc1); have b3 : Blk w1 w.heap.size #[.pointer (some ⟨cb, 0, none⟩)] 67 := hin2.out.hk; have k3 : w1.cell? ⟨w.heap.size, 0, none⟩ = some (.pointer (some ⟨cb, 0, none⟩)) := b3.cell rfl)
          | ((with_reducible show Calls _ 65 #[_, Value.func (Fn.func 68) _ _] _ _); refine (hin2.out.count).mono ?_; rintro e2 w2 hn2; obtain ⟨rfl, ⟨_, ⟨n, rfl, hnv⟩, hc2⟩, hr2, hm2⟩ := hn2.yes hT2)
          )
        go_ret
        rw [hnv hd2.2.1] at hc2
        exact ⟨(HM.out.trans hm1).trans hm2, by simp only [restS, hT, hT2]; exact ⟨rfl, hc2, hr2⟩⟩
  · cases hT : takeP s at_ isName with
    | error e =>
      obtain ⟨e, a⟩ := e
      go_enter Tryz.func37, Tryz.ntmps37
      go_wp2_with (first
        | ((with_reducible show Calls _ 65 #[_, Value.func (Fn.func 63) _ _] _ _); refine (HIN.out.name).mono ?_; rintro e1 w1 hn; obtain ⟨rfl, ⟨_, hr1⟩, hm1⟩ := hn.no hT)
        )
      go_ret
      exact ⟨HM.out.trans hm1, by simp only [restS, hT]; exact ⟨rfl, _, hr1⟩⟩
    | ok r =>
      obtain ⟨p, d⟩ := r
      have hd := (takeP_le hT hat).1
      go_enter Tryz.func37, Tryz.ntmps37
      go_wp2_with (first
        | ((with_reducible show Calls _ 65 #[_, Value.func (Fn.func 63) _ _] _ _); refine (HIN.out.name).mono ?_; rintro e1 w1 hn; obtain ⟨rfl, ⟨_, rfl, hc1⟩, hr1, hm1⟩ := hn.yes hT; have hin2 := Lib.hid (HIN.out.then' hm1 hd hr1 hc1); have b3 : Blk w1 w.heap.size #[.pointer (some ⟨cb, 0, none⟩)] 67 := hin2.out.hk; have k3 : w1.cell? ⟨w.heap.size, 0, none⟩ = some (.pointer (some ⟨cb, 0, none⟩)) := b3.cell rfl)
        )
      go_ret
      exact ⟨HM.out.trans hm1, by simp only [restS, hT]; exact ⟨rfl, hc1, hr1⟩⟩

end Go.Proofs.YtigfkfjlfpndfaaGreatDoor
