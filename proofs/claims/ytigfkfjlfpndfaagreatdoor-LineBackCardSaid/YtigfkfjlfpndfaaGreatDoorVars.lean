/-
  What is asked of the package-level variables; numbers as strconv reads them.
-/
import Derived.Test.YtigfkfjlfpndfaaGreatDoorMem
import Derived.Test.YtigfkfjlfpndfaaGreatDoorShelf
import Derived.Test.YtigfkfjlfpndfaaGreatDoorDigs
import Derived.Test.YtigfkfjlfpndfaaGreatDoorNames
namespace Go.Proofs.YtigfkfjlfpndfaaGreatDoor
open Go.RowKit Sp

/-- the variables that the library reads are as the program's text lays them -/
structure Vars (w : World) : Prop where
  maxlen : ∃ m : Int, w.cell? ⟨0, 0, none⟩ = some (.int .i64 m)
  syn : ∃ te pe, w.cell? ⟨1, 0, none⟩ = some (.iface te pe)
  rng : ∃ te pe, w.cell? ⟨2, 0, none⟩ = some (.iface te pe)
  tab : Lib.TabIs Tryz.prog w "internal/strconv.uint64pow10" .u64 Lib.pow10Tab
  big : 8 ≤ w.heap.size
theorem glob3 : Tryz.prog.globalNamed "internal/strconv.uint64pow10" = some 3 := by kernel_rfl
theorem Vars.mods {w w' : World} {S : Nat → Prop} (h : Vars w) (hb : Mods w w' S) (hS : ∀ i, i < 8 → ¬ S i) : Vars w' := by
  have hb' : Below 8 w w' := hb.below h.big hS
  exact {
    maxlen := let ⟨m, hm⟩ := h.maxlen; ⟨m, by rw [hb'.cell (p := ⟨0, 0, none⟩) (by show 0 < 8; omega)]; exact hm⟩
    syn := let ⟨a, b, hm⟩ := h.syn; ⟨a, b, by rw [hb'.cell (p := ⟨1, 0, none⟩) (by show 1 < 8; omega)]; exact hm⟩
    rng := let ⟨a, b, hm⟩ := h.rng; ⟨a, b, by rw [hb'.cell (p := ⟨2, 0, none⟩) (by show 2 < 8; omega)]; exact hm⟩
    tab := by
      have := h.tab
      unfold Lib.TabIs at *
      rw [← this]
      simp only [World.var?, glob3, Option.bind_some, hb'.block 3 (by omega)]
    big := Nat.le_trans h.big hb.size }
theorem Vars.ext {w w' : World} (h : Vars w) (hb : Ext w w') : Vars w' := h.mods (Mods.of_below hb (fun _ => False)) (fun _ _ h => h)

/-! ### strconv, with the world told by 'Ext' -/
theorem ext_grow (w : World) (k : Nat) (os : Array Obj) : Ext w (Go.Sort.grow (w.drewN k) os) :=
  ⟨rfl, rfl, rfl, by simp [Go.Sort.grow, World.drewN], fun i hi => by simp [Go.Sort.grow, World.drewN, Array.getElem?_append, hi]⟩
theorem itoa_any (n : Int) (h0 : -9223372036854775808 ≤ n) (h1 : n ≤ 9223372036854775807) (w : World) (hv : Vars w) :
    Calls Tryz.prog 74 #[.int .i64 n] w fun e w' => e = .returned (.string ⟨(Lib.itoa n).toArray⟩) ∧ Ext w w' :=
  (Tryz.strconv_Itoa n h0 h1 w hv.tab).mono fun _ _ ⟨he, k, os, hw⟩ => ⟨he, by rw [hw]; exact ext_grow _ _ _⟩
theorem atoi_ok (s : ByteArray) (hs : s.size ≤ 140737488351232) (v : Int) (h : Lib.atoiAll s.data.toList = .ok v) (w : World) :
    Calls Tryz.prog 87 #[.string s] w fun e w' => e = .returned (.tuple #[.int .i64 v, .nilIface]) ∧ Ext w w' :=
  (Tryz.strconv_Atoi_ok s (by omega) v h w).mono fun _ _ ⟨he, hw⟩ => ⟨he, by
    rcases hw with rfl | ⟨t, rfl⟩
    · exact Below.refl _ _
    · exact Lib.bytesWorld_below _ _ _⟩
/-- an error that is not nil -/
theorem atoi_bad (s : ByteArray) (hs : s.size ≤ 140737488351232) (h : ∀ v, Lib.atoiAll s.data.toList ≠ .ok v) (w : World) (hv : Vars w) :
    Calls Tryz.prog 87 #[.string s] w fun e w' => (∃ (v : Int) (t : TypeId) (p : Value), e = .returned (.tuple #[.int .i64 v, .iface t p])) ∧ Ext w w' := by
  cases hc : Lib.atoiAll s.data.toList with
  | ok v => exact absurd hc (h v)
  | range =>
    obtain ⟨te, pe, he⟩ := hv.rng
    exact (Tryz.strconv_Atoi_range s (by omega) hc _ w he (.inr ⟨_, _, rfl⟩)).mono fun _ _ ⟨N, h1, _, _, h2⟩ => ⟨⟨_, _, _, h1⟩, h2⟩
  | _ =>
    obtain ⟨te, pe, he⟩ := hv.syn
    exact (Any.strconv_Atoi_syntax Tryz.laysC172 s (by omega) hc _ w he (.inr ⟨_, _, rfl⟩)).mono fun _ _ ⟨N, h1, _, _, h2⟩ => ⟨⟨_, _, _, h1⟩, h2⟩
theorem atoiAll_range {l : List UInt8} {v : Int} (h : Lib.atoiAll l = .ok v) : -9223372036854775808 ≤ v ∧ v ≤ 9223372036854775807 := by
  unfold Lib.atoiAll at h
  cases l with
  | nil => simp at h
  | cons c r =>
    simp only at h
    split at h
    · cases h
    · cases h
    · split at h
      · cases h
      · split at h
        · cases h
        · injection h with h
          rename_i u _ h1 h2
          by_cases hn : c.toNat = 45
          · rw [if_pos hn] at h; omega
          · rw [if_neg hn] at h; omega

/-! ### numbers -/
/-- what line.number reckons -/
def lineNum (l : List UInt8) : Bool := match Lib.atoiAll l with | .ok v => decide (0 ≤ v) && decide (l.length ≤ 9) && (Lib.itoa v == l) | _ => false
/-- what line.number tells: some number, and whether the text is its digits -/
def NumPost (l : List UInt8) (w : World) (e : Ending) (w' : World) : Prop :=
  ∃ n : Int, e = .returned (.tuple #[.int .i64 n, .bool (lineNum l)]) ∧ (lineNum l = true → Lib.atoiAll l = .ok n) ∧ Ext w w'

set_option maxHeartbeats 1000000 in
theorem number_any (s : ByteArray) (w : World) (hs : s.size ≤ 140737488351232) (hv : Vars w) : Calls Tryz.prog 69 #[.string s] w (NumPost s.data.toList w) := by
  by_cases hok : ∃ v, Lib.atoiAll s.data.toList = .ok v
  · obtain ⟨v, hvv⟩ := hok
    have hr := atoiAll_range hvv
    have hL : lineNum s.data.toList = (decide (0 ≤ v) && decide (s.size ≤ 9) && (Lib.itoa v == s.data.toList)) := by unfold lineNum; rw [hvv]; rfl
    have hc := fun w' => atoi_ok s hs v hvv w'
    have HV := Lib.hid hv; clear hv
    have HVV := Lib.hid hvv; clear hvv
    have HL := Lib.hid hL; clear hL
    by_cases h1 : 0 ≤ v
    · by_cases h2 : s.size ≤ 9
      · go_enter Tryz.func69, Tryz.ntmps69
        go_wp2_with (first
          | (go_at_call 87; refine (hc _).mono ?_; rintro e w1 ⟨rfl, hx1⟩)
          | (go_at_call 74; refine (itoa_any v hr.1 hr.2 _ (HV.out.ext hx1)).mono ?_; rintro e w2 ⟨rfl, hx2⟩))
        go_ret2
        exact ⟨v, by rw [HL.out]; simp [h1, h2, ByteArray.toList_eq], fun _ => HVV.out, hx1.go hx2⟩
      · go_enter Tryz.func69, Tryz.ntmps69
        go_wp2_with (first
          | (go_at_call 87; refine (hc _).mono ?_; rintro e w1 ⟨rfl, hx1⟩))
        go_ret2
        exact ⟨v, by rw [HL.out]; simp [h2], fun _ => HVV.out, hx1⟩
    · go_enter Tryz.func69, Tryz.ntmps69
      go_wp2_with (first
        | (go_at_call 87; refine (hc _).mono ?_; rintro e w1 ⟨rfl, hx1⟩))
      go_ret2
      exact ⟨v, by rw [HL.out]; simp; intros; omega, fun _ => HVV.out, hx1⟩
  · have hb : ∀ v, Lib.atoiAll s.data.toList ≠ .ok v := fun v h => hok ⟨v, h⟩
    have hL : lineNum s.data.toList = false := by
      unfold lineNum
      split
      · rename_i v h; exact absurd h (hb v)
      · rfl
    have HL := Lib.hid hL; clear hL
    have hc := fun w' h' => atoi_bad s hs hb w' h'
    have HV := Lib.hid hv; clear hv
    clear hok hb
    go_enter Tryz.func69, Tryz.ntmps69
    go_wp2_with (first
      | (go_at_call 87; refine (hc _ HV.out).mono ?_; rintro e w1 ⟨⟨v, t, p, rfl⟩, hx1⟩))
    go_ret2
    exact ⟨v, by rw [HL.out]; rfl, fun h => absurd h (by rw [HL.out]; simp), hx1⟩

end Go.Proofs.YtigfkfjlfpndfaaGreatDoor
