/-
  A key's digits: ident.Text and the reference's.
-/
import Derived.Test.YtigfkfjlfpndfaaGreatDoorLKey
import Derived.Test.YtigfkfjlfpndfaaGreatDoorOwn
import Derived.Deep.RegionHeld3
namespace Go.Proofs.YtigfkfjlfpndfaaGreatDoor
open Go.RowKit Sp

/-- a digit -/
def hexOf (d : Nat) : UInt8 := UInt8.ofNat (if d < 10 then 48 + d else 87 + d)
/-- a key's digits -/
def keyT (f : Nat → Int) (k : Nat) : List UInt8 := (List.range k).flatMap fun j => [hexOf ((f j).toNat / 16), hexOf ((f j).toNat % 16)]
theorem keyT_succ (f : Nat → Int) (k : Nat) : keyT f (k + 1) = keyT f k ++ [hexOf ((f k).toNat / 16), hexOf ((f k).toNat % 16)] := by simp [keyT, List.range_succ]
theorem keyT_len (f : Nat → Int) (k : Nat) : (keyT f k).length = 2 * k := by
  induction k with
  | zero => rfl
  | succ k ih => rw [keyT_succ, List.length_append, ih]; simp; omega
theorem hexS_of : ∀ (q : Nat) (h : q < 16), hexS[q]'(by exact h) = hexOf q := by decide
theorem and_15 (n : Nat) (h : n < 256) : bits BinOp.and IntKind.u8 (n : Int) 15 = ((n % 16 : Nat) : Int) := by
  have h' : ∀ n : Fin 256, bits BinOp.and IntKind.u8 (n.val : Int) 15 = ((n.val % 16 : Nat) : Int) := by decide +kernel
  exact h' ⟨n, h⟩
/-- a string by its bytes -/
def TextIs (t : ByteArray) (l : List UInt8) : Prop := t.data.toList = l
theorem TextIs.size {t : ByteArray} {l : List UInt8} (h : TextIs t l) : t.size = l.length := by rw [← show t.data.toList = l from h, size_list]
theorem TextIs.eq {t : ByteArray} {l : List UInt8} (h : TextIs t l) : t = ⟨l.toArray⟩ := by subst h; rfl
theorem TextIs.dig {t : ByteArray} {l : List UInt8} {q : Nat} (h : TextIs t l) (hq : q < 16) (m : List UInt8) (hm : l ++ [hexOf q] = m := by simp) : TextIs (t ++ hexS.extract q (q + 1)) m := by
  subst hm
  unfold TextIs at *
  rw [show (t ++ hexS.extract q (q + 1)).data.toList = t.data.toList ++ (hexS.extract q (q + 1)).data.toList from by simp, h, extract_one _ _ (by exact hq), hexS_of q hq]
def u8s (l : List UInt8) : List Value := l.map fun c => Value.int .u8 (c.toNat : Int)
theorem u8s_app (a b : List UInt8) : u8s (a ++ b) = u8s a ++ u8s b := by simp [u8s]
theorem u8s_len (a : List UInt8) : (u8s a).length = a.length := by simp [u8s]
theorem u8s_one (a : List UInt8) : ∀ y ∈ u8s a, y.oneCell' = true := by
  intro y hy
  obtain ⟨c, _, rfl⟩ := List.mem_map.1 hy
  rfl
theorem el83 : Elem1 Tryz.prog 83 5 1 := ⟨by kernel_rfl, by kernel_rfl⟩
/-- the numbers of a key are bytes -/
def KeyR (f : Nat → Int) : Prop := ∀ j, j < 32 → 0 ≤ f j ∧ f j < 256

theorem two_new {q r : Nat} (hq : q < 16) (hr : r < 16) : ∀ j, j < (u8s [hexOf q, hexOf r]).length → (#[Value.int .u8 ((hexS[q]'(by exact hq)).toNat : Int), Value.int .u8 ((hexS[r]'(by exact hr)).toNat : Int)])[0 + j]? = (u8s [hexOf q, hexOf r])[j]? := by
  intro j hj
  rw [hexS_of q hq, hexS_of r hr, Nat.zero_add]
  match j with
  | 0 => rfl
  | 1 => rfl
  | j + 2 => simp [u8s] at hj; omega

set_option maxHeartbeats 1000000 in
set_option maxRecDepth 100000 in
theorem text_any (f : Nat → Int) (hf : KeyR f) (b cap : Nat) (w : World) (hb : Blk w b (kcell f) 25) :
    Calls Tryz.prog 88 #[.slice (some ⟨b, 0, none⟩) 32 cap] w fun e w' => e = .returned (.string ⟨(keyT f 32).toArray⟩) ∧ Ext w w' := by
  have hblt := hb.lt
  go_enter Tryz.func88, Tryz.ntmps88
  go_wp2
  go_loopw [3, 8] (fun v i wr => ∃ k : Nat, i = .int .i64 k ∧ k ≤ 32 ∧ Own wr w.heap.size 5 v (u8s (keyT f k)) ∧ Ext w wr) (fun _ i _ => 32 - (intOf i).toNat)
  case atStart => exact ⟨0, rfl, by omega, Own.nil _ _ _, Below.refl _ _⟩
  case round =>
    obtain ⟨k, rfl, hk, hv, hx⟩ := hrel
    by_cases hlt : k < 32
    · have hlt' : (k : Int) < 32 := by omega
      obtain ⟨n, hn⟩ : ∃ n : Nat, f k = (n : Int) := ⟨(f k).toNat, by have := (hf k hlt).1; omega⟩
      have hn256 : n < 256 := by have := (hf k hlt).2; omega
      replace hb := hb.below hx hb.lt
      have hcell := hb.cell (kcell_at f k hlt)
      rw [hn] at hcell
      have hcl : 0 ≤ (k : Int) := by omega
      obtain ⟨q, hq⟩ : ∃ q, n / 16 = q := ⟨_, rfl⟩
      obtain ⟨r, hr⟩ : ∃ r, n % 16 = r := ⟨_, rfl⟩
      have hq16 : q < 16 := by omega
      have hr16 : r < 16 := by omega
      have e1 : (n : Int) / 16 = (q : Int) := by omega
      have e2 := and_15 n hn256
      rw [hr] at e2
      have b1 : (q : Int) < 16 := by omega
      have b2 : (r : Int) < 16 := by omega
      have ew : IntKind.u64.wrap 4 = 4 := rfl
      have hstep : keyT f (k + 1) = keyT f k ++ [hexOf q, hexOf r] := by rw [keyT_succ, hn, Int.toNat_natCast, hq, hr]
      have HS := Lib.hid hstep; clear hstep
      have HQ := Lib.hid hq; have HR := Lib.hid hr; have HN := Lib.hid hn; clear hq hr hn
      have hL := keyT_len f k
      have HV := Lib.hid hv
      generalize keyT f k = L at HS HV hL
      clear hv
      go_wp2
      go_region_held3 (fun _ => True) (trivial) ((refine step_app (by rfl) _ _ 83 (by rfl) el83 (by rfl) (by first | exact (HV.out.alloc _).drew | exact HV.out.drew.alloc _) (by rfl) (m := 2) (news := u8s [hexOf q, hexOf r]) rfl (by first | exact (Blk.new wr _ 5).drew | exact Blk.new wr.drew _ 5) (two_new hq16 hr16) (u8s_one _) (by rw [u8s_len, u8s_len]; simp; omega) (by rw [u8s_len, u8s_len]; simp [maxLen]; omega) (by show w.heap.size ≤ (wr.alloc _).heap.size; rw [sz_alloc]; have := hx.size; omega) ?_; intro v1 w1 hv1 hm1))
      all_goals go_wp2
      all_goals go_roundw
      all_goals first
        | (refine ⟨k + 1, by go_num, by omega, (show Own w1 w.heap.size 5 v1 (u8s (keyT f (k + 1))) from ?_), ?_⟩
           · rw [HS.out, u8s_app]; exact hv1
           · exact own_mods_ext (HV.out.alloc _).drew (Nat.le_refl _) (hx.alloc _).drew hm1)
        | (simp [intOf]; omega)
    · obtain rfl : k = 32 := by omega
      have HV := Lib.hid hv; clear hv
      have hcv := HV.out.toStr (P := Tryz.prog) 83 9 Tryz.underlying83 Tryz.underlying5 Tryz.underlying9
      go_wp2
      go_ret
      exact ⟨rfl, hx⟩
set_option maxHeartbeats 1000000 in
set_option maxRecDepth 100000 in
theorem Text_any (f : Nat → Int) (hf : KeyR f) (w : World) :
    Calls Tryz.prog 73 #[.agg (kcell f)] w fun e w' => e = .returned (.string ⟨(keyT f 32).toArray⟩) ∧ Ext w w' := by
  have hcall := fun b cap w' hb => text_any f hf b cap w' hb
  have hsz := kcell_size f
  generalize kcell f = K at hcall hsz
  go_enter Tryz.func73, Tryz.ntmps73
  go_wp2_with (go_at_call 88; refine (hcall _ _ _ (Blk.new w K 25)).mono ?_; rintro e w1 ⟨rfl, hx1⟩)
  go_ret
  exact ⟨rfl, Ext.go (Ext.alloc (Below.refl _ w) _) hx1⟩

set_option maxHeartbeats 2000000 in
set_option maxRecDepth 100000 in
/-- the reference's digits of a key -/
theorem rDigits_any (f : Nat → Int) (hf : KeyR f) (b cap : Nat) (w : World) (hb : Blk w b (kcell f) 25) :
    Calls Tryz.prog 49 #[.slice (some ⟨b, 0, none⟩) 32 cap] w fun e w' => e = .returned (.string ⟨(keyT f 32).toArray⟩) ∧ Ext w w' := by
  have hblt := hb.lt
  go_enter Tryz.func49, Tryz.ntmps49
  go_wp2
  go_loopw [3, 10] (fun v i wr => ∃ (k : Nat) (t : ByteArray), i = .int .i64 k ∧ k ≤ 32 ∧ v = .string t ∧ TextIs t (keyT f k) ∧ Ext w wr) (fun _ i _ => 32 - (intOf i).toNat)
  case atStart => exact ⟨0, _, rfl, by omega, rfl, rfl, Below.refl _ _⟩
  case round =>
    obtain ⟨k, t, rfl, hk, rfl, ht, hx⟩ := hrel
    by_cases hlt : k < 32
    · have hlt' : (k : Int) < 32 := by omega
      obtain ⟨n, hn⟩ : ∃ n : Nat, f k = (n : Int) := ⟨(f k).toNat, by have := (hf k hlt).1; omega⟩
      have hn256 : n < 256 := by have := (hf k hlt).2; omega
      replace hb := hb.below hx hb.lt
      have hcell := hb.cell (kcell_at f k hlt)
      rw [hn] at hcell
      obtain ⟨q, hq⟩ : ∃ q, n / 16 = q := ⟨_, rfl⟩
      obtain ⟨r, hr⟩ : ∃ r, n % 16 = r := ⟨_, rfl⟩
      have hq16 : q < 16 := by omega
      have hr16 : r < 16 := by omega
      have e1 : (n : Int) / 16 = (q : Int) := by omega
      have e2 := and_15 n hn256
      rw [hr] at e2
      have b1 : (q : Int) < 16 := by omega
      have b2 : (r : Int) < 16 := by omega
      have ew : IntKind.u64.wrap 4 = 4 := rfl
      have hstep : keyT f (k + 1) = keyT f k ++ [hexOf q, hexOf r] := by rw [keyT_succ, hn, Int.toNat_natCast, hq, hr]
      have HS := Lib.hid hstep; clear hstep
      have HQ := Lib.hid hq; have HR := Lib.hid hr; have HN := Lib.hid hn; clear hq hr hn
      have hts := ht.size
      rw [keyT_len] at hts
      have HT := Lib.hid ht
      clear ht
      go_wp2
      go_loop [3, 19] (fun v i => ∃ (m : Nat) (t' : ByteArray), m ≤ 2 ∧ i = .int .i64 m ∧ v = .string t' ∧ TextIs t' (keyT f k ++ [hexOf q, hexOf r].take m)) (fun _ i => 2 - (intOf i).toNat)
      case atStart => exact ⟨0, t, by omega, rfl, rfl, by simpa using HT.out⟩
      case round =>
        obtain ⟨m, t', hm, rfl, rfl, ht'⟩ := hrel
        have hts' := ht'.size
        rw [List.length_append, keyT_len] at hts'
        by_cases hm2 : m < 2
        · have hm2' : (m : Int) < 2 := by omega
          have HT' := Lib.hid ht'; clear ht'
          have w1 : IntKind.u8.wrap ((q : Int) + 1) = (q : Int) + 1 := by simp [IntKind.wrap, IntKind.bits, IntKind.signed]; omega
          have w2 : IntKind.u8.wrap ((r : Int) + 1) = (r : Int) + 1 := by simp [IntKind.wrap, IntKind.bits, IntKind.signed]; omega
          have b3 : (q : Int) + 1 ≤ 16 := by omega
          have b4 : (r : Int) + 1 ≤ 16 := by omega
          have hm01 : m = 0 ∨ m = 1 := by omega
          rcases hm01 with rfl | rfl
          · have hlen : ([hexOf q, hexOf r].take 0).length = 0 := rfl
            rw [hlen] at hts'
            have hix := fun w => run_index_arr (P := Tryz.prog) 113 5 2 #[.int .u8 (q : Int), .int .u8 (r : Int)] .i64 0 (.int .u8 (q : Int)) Tryz.underlying113 (by kernel_rfl) (by kernel_rfl) (by omega) (by omega) rfl w
            go_wp2
            exact ⟨⟨1, _, by omega, rfl, rfl, HT'.out.dig hq16 _⟩, by simp [intOf]⟩
          · have hlen : ([hexOf q, hexOf r].take 1).length = 1 := rfl
            rw [hlen] at hts'
            have hix := fun w => run_index_arr (P := Tryz.prog) 113 5 2 #[.int .u8 (q : Int), .int .u8 (r : Int)] .i64 1 (.int .u8 (r : Int)) Tryz.underlying113 (by kernel_rfl) (by kernel_rfl) (by omega) (by omega) rfl w
            go_wp2
            exact ⟨⟨2, _, by omega, rfl, rfl, HT'.out.dig hr16 _⟩, by simp [intOf]⟩
        · obtain rfl : m = 2 := by omega
          have HT' := Lib.hid ht'; clear ht'
          go_wp2
          go_roundw
          case rel => exact ⟨k + 1, t', by go_num, by omega, rfl, by rw [HS.out]; exact HT'.out, hx⟩
          case measure => simp [intOf]; omega
    · obtain rfl : k = 32 := by omega
      have HT := Lib.hid ht; clear ht
      go_wp2
      go_ret
      exact ⟨by rw [← HT.out.eq]; rfl, hx⟩

end Go.Proofs.YtigfkfjlfpndfaaGreatDoor
