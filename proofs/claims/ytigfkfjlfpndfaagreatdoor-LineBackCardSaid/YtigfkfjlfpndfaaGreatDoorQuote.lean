/-
  line.Quote.
-/
import Derived.Test.YtigfkfjlfpndfaaGreatDoorPut
namespace Go.Proofs.YtigfkfjlfpndfaaGreatDoor
open Go.RowKit Sp

def qto (s : ByteArray) (k : Nat) : List UInt8 := 34 :: (s.data.toList.take k).flatMap qB
theorem quo_len (s : ByteArray) (k : Nat) : ((s.data.toList.take k).flatMap qB).length ≤ 2 * k := by
  have : ∀ l : List UInt8, (l.flatMap qB).length ≤ 2 * l.length := by
    intro l
    induction l with
    | nil => simp
    | cons c r ih =>
      rw [List.flatMap_cons, List.length_append, List.length_cons]
      have : (qB c).length ≤ 2 := by unfold qB; split <;> simp
      omega
  have h := this (s.data.toList.take k)
  have h2 : (s.data.toList.take k).length ≤ k := by rw [List.length_take]; omega
  omega
theorem qto_len (s : ByteArray) (k : Nat) : (qto s k).length ≤ 2 * k + 1 := by
  unfold qto
  rw [List.length_cons]
  have := quo_len s k
  omega
theorem qto_succ (s : ByteArray) (k : Nat) (h : k < s.size) : qto s (k + 1) = qto s k ++ qB s[k] := by
  unfold qto
  rw [take_succ_data s k h, quote_snoc, List.cons_append]
theorem u8s_snoc (l : List UInt8) (c : UInt8) (n : Int) (hn : (c.toNat : Int) = n) : u8s l ++ [.int .u8 n] = u8s (l ++ [c]) := by
  rw [u8s_app, ← hn]; rfl
/-- a builder that holds the bytes l, and nothing else -/
def BQ (w : World) (l : List UInt8) (wr : World) : Prop :=
  ∃ v, Mem w NoS wr [.blk true w.heap.size #[.pointer (some ⟨w.heap.size, 0, none⟩), v] 95, .row w.heap.size 5 v (u8s l)]
theorem BQ.put {w wr : World} {l : List UInt8} (h : BQ w l wr) (hl : l.length ≤ 100000000) (c : UInt8) (n : Int) (hn : (c.toNat : Int) = n) :
    Calls Tryz.prog 54 #[.pointer (some ⟨w.heap.size, 0, none⟩), .int .u8 n] wr fun e w' => e = .returned .nilIface ∧ BQ w (l ++ [c]) w' := by
  obtain ⟨v, hM⟩ := h
  refine (wb_mem w.heap.size _ v (u8s l) n wr hM (.inr rfl) (by rw [u8s_len]; omega)).mono ?_
  rintro e w' ⟨rfl, v', hM'⟩
  exact ⟨rfl, v', by rw [← u8s_snoc l c n hn]; exact hM'⟩
theorem BQ.first {w : World} : Calls Tryz.prog 54 #[.pointer (some ⟨w.heap.size, 0, none⟩), .int .u8 34] (w.alloc (.cells #[.pointer none, .slice none 0 0] 95)) fun e w' => e = .returned .nilIface ∧ BQ w [34] w' := by
  have hM : Mem w NoS (w.alloc (.cells #[.pointer none, .slice none 0 0] 95)) [.blk true w.heap.size #[.pointer none, .slice none 0 0] 95, .row w.heap.size 5 (.slice none 0 0) []] :=
    (((Mem.start w NoS).alloc _ _).nilRow 5 w.heap.size).swap
  refine (wb_mem w.heap.size _ _ [] 34 _ hM (.inl rfl) (by simp)).mono ?_
  rintro e w' ⟨rfl, v', hM'⟩
  exact ⟨rfl, v', hM'⟩
theorem BQ.text {w wr : World} {l : List UInt8} (h : BQ w l wr) : Calls Tryz.prog 55 #[.pointer (some ⟨w.heap.size, 0, none⟩)] wr fun e w' => e = .returned (.string ⟨l.toArray⟩) ∧ Ext w w' := by
  obtain ⟨v, hM⟩ := h
  have hb := hM.blk (List.Mem.head _)
  have hr := hM.theRow (List.Mem.tail _ (List.Mem.head _))
  have hne : v.ownBlock ≠ some w.heap.size := by
    have := (List.pairwise_cons.1 hM.apart).1 _ (List.Mem.head _)
    rcases this with ⟨h1, _⟩ | h1
    · cases h1
    · exact h1 _ rfl
  refine (Tryz.Builder_String_any w.heap.size w.heap.size l wr (.inr ⟨Nat.le_refl _, v, hb.out, hr.out, hne⟩) hM.size).mono ?_
  rintro e w' ⟨rfl, hx⟩
  exact ⟨rfl, hM.ext0.trans hx⟩
theorem two_app (l : List UInt8) (a b : UInt8) : l ++ [a, b] = l ++ [a] ++ [b] := by simp
theorem n92 : (((92 : UInt8).toNat : Nat) : Int) = 92 := by decide
theorem n34 : (((34 : UInt8).toNat : Nat) : Int) = 34 := by decide

set_option maxHeartbeats 1000000 in
set_option maxRecDepth 100000 in
theorem lQuote_any (s : ByteArray) (w : World) (hs : s.size ≤ 1000000) :
    Calls Tryz.prog 25 #[.string s] w fun e w' => e = .returned (.string ⟨(quote s.data.toList).toArray⟩) ∧ Ext w w' := by
  go_enter Tryz.func25, Tryz.ntmps25
  go_wp2_with ((with_reducible show Calls _ 54 _ _ _); refine BQ.first.mono ?_; rintro e w1 ⟨rfl, hb1⟩)
  have HB1 := Lib.hid hb1; clear hb1
  go_loopw [8] (fun i wr => ∃ k : Nat, i = .int .i64 k ∧ k ≤ s.size ∧ BQ w (qto s k) wr) (fun i _ => s.size - (intOf i).toNat)
  case atStart => exact ⟨0, rfl, Nat.zero_le _, HB1.out⟩
  case round =>
    obtain ⟨k, rfl, hk, hq⟩ := hrel
    have hlen := qto_len s k
    have HQ := Lib.hid hq; clear hq
    by_cases hlt : k < s.size
    · have HS := Lib.hid (qto_succ s k hlt)
      by_cases hsp : (s[k].toNat : Int) = 34 ∨ (s[k].toNat : Int) = 92
      · have hq2 : qB s[k] = [92, s[k]] := by
          unfold qB
          rw [if_pos]
          rcases hsp with h | h
          · exact .inl (UInt8.toNat_inj.1 (by show s[k].toNat = 34; omega))
          · exact .inr (UInt8.toNat_inj.1 (by show s[k].toNat = 92; omega))
        have HQ2 := Lib.hid hq2; clear hq2
        obtain ⟨n, hn⟩ : ∃ n : Int, (s[k].toNat : Int) = n := ⟨_, rfl⟩
        have HN := Lib.hid hn
        by_cases h34 : n = 34
        · have g1 : ((s[k].toNat : Int) == 34) = true := by rw [hn]; simpa using h34
          clear hsp hn h34
          go_wp2_with (first
            | ((with_reducible show Calls _ 54 #[_, .int .u8 92] _ _); refine (HQ.out.put (by omega) 92 92 n92).mono ?_; rintro e2 w2 ⟨rfl, hb2⟩; have HB2 := Lib.hid hb2; clear hb2)
            | ((with_reducible show Calls _ 54 _ _ _); refine (HB2.out.put (by rw [List.length_append, List.length_singleton]; omega) s[k] _ rfl).mono ?_; rintro e3 w3 ⟨rfl, hb3⟩; have HB3 := Lib.hid hb3; clear hb3))
          go_roundw
          case rel => exact ⟨k + 1, by go_num, by omega, by rw [HS.out, HQ2.out, two_app]; exact HB3.out⟩
          case measure => simp [intOf]; omega
        · have g1 : ((s[k].toNat : Int) == 34) = false := by rw [hn]; simpa using h34
          have g2 : ((s[k].toNat : Int) == 92) = true := by rw [hn]; simp; omega
          clear hsp hn h34
          go_wp2_with (first
            | ((with_reducible show Calls _ 54 #[_, .int .u8 92] _ _); refine (HQ.out.put (by omega) 92 92 n92).mono ?_; rintro e2 w2 ⟨rfl, hb2⟩; have HB2 := Lib.hid hb2; clear hb2)
            | ((with_reducible show Calls _ 54 _ _ _); refine (HB2.out.put (by rw [List.length_append, List.length_singleton]; omega) s[k] _ rfl).mono ?_; rintro e3 w3 ⟨rfl, hb3⟩; have HB3 := Lib.hid hb3; clear hb3))
          go_roundw
          case rel => exact ⟨k + 1, by go_num, by omega, by rw [HS.out, HQ2.out, two_app]; exact HB3.out⟩
          case measure => simp [intOf]; omega
      · have hqn : qB s[k] = [s[k]] := by
          unfold qB
          rw [if_neg]
          rintro (h | h) <;> exact hsp (by rw [h]; simp)
        have HQN := Lib.hid hqn; clear hqn
        have g1 : ((s[k].toNat : Int) == 34) = false := by simp; omega
        have g2 : ((s[k].toNat : Int) == 92) = false := by simp; omega
        clear hsp
        go_wp2_with ((with_reducible show Calls _ 54 _ _ _); refine (HQ.out.put (by omega) s[k] _ rfl).mono ?_; rintro e3 w3 ⟨rfl, hb3⟩; have HB3 := Lib.hid hb3; clear hb3)
        go_roundw
        case rel => exact ⟨k + 1, by go_num, by omega, by rw [HS.out, HQN.out]; exact HB3.out⟩
        case measure => simp [intOf]; omega
    · have HD := Lib.hid (show quote s.data.toList = qto s k ++ [34] by
        unfold quote qto
        rw [List.take_of_length_le (by rw [size_list]; omega), List.cons_append])
      go_wp2_with (first
        | ((with_reducible show Calls _ 54 _ _ _); refine (HQ.out.put (by omega) 34 34 n34).mono ?_; rintro e2 w2 ⟨rfl, hb2⟩; have HB2 := Lib.hid hb2; clear hb2)
        | ((with_reducible show Calls _ 55 _ _ _); refine HB2.out.text.mono ?_; rintro e3 w3 ⟨rfl, hx3⟩))
      go_ret
      exact ⟨by rw [HD.out]; rfl, hx3⟩

end Go.Proofs.YtigfkfjlfpndfaaGreatDoor
