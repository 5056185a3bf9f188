/-
  Plain: replies and their lines.
-/
import Derived.Test.YtigfkfjlfpndfaaGreatDoorCkReply
import Derived.Test.YtigfkfjlfpndfaaGreatDoorPCmds
namespace Go.Proofs.YtigfkfjlfpndfaaGreatDoor
open Go.RowKit Sp

theorem cut_word {p : List UInt8} (hp : ∀ c ∈ p, c ≠ 32) (r : List UInt8) : cutA (p ++ 32 :: r) = p ∧ cutZ (p ++ 32 :: r) = r ∧ cutM (p ++ 32 :: r) = true := by
  have hb : blank (p ++ 32 :: r) = p.length := blank_app hp (.inr rfl)
  unfold cutA cutZ cutM
  rw [hb]
  refine ⟨by simp, ?_, by simp⟩
  rw [show p ++ 32 :: r = (p ++ [32]) ++ r from by simp, List.drop_left' (by simp)]
theorem cut_lone {p : List UInt8} (hp : ∀ c ∈ p, c ≠ 32) : cutA p = p ∧ cutZ p = [] ∧ cutM p = false := by
  have hb : blank p = p.length := by have := blank_app (p := p) (r := []) hp (.inl rfl); rwa [List.append_nil] at this
  unfold cutA cutZ cutM
  rw [hb]
  exact ⟨by simp, by simp, by simp⟩
theorem dec_free (n : Nat) : ∀ c ∈ Lib.decDigits n, c ≠ 32 := fun c hc => (digC_range ((List.all_eq_true.1 (dec_digs n)) c hc)).1
theorem num_short {n : Nat} (h : n < 1000000000) : (Lib.decDigits n).length ≤ 9 := num_len h
theorem w_free : (∀ c ∈ wMe, c ≠ 32) ∧ (∀ c ∈ wAdded, c ≠ 32) ∧ (∀ c ∈ wPurged, c ≠ 32) ∧ (∀ c ∈ wContacts, c ≠ 32) ∧ (∀ c ∈ wQueued, c ≠ 32) ∧ (∀ c ∈ wInbox, c ≠ 32) ∧ (∀ c ∈ wStatus, c ≠ 32) ∧ (∀ c ∈ wError, c ≠ 32) := by decide
theorem replyS_status (rest : List UInt8) : replyS wStatus rest true = match spl rest with
    | [a, b, c] => if numB a = true ∧ numB b = true ∧ numB c = true then some { Rep.zero with kind := 7, out := decV a, acked := decV b, inn := decV c } else none
    | _ => none := by
  unfold replyS
  rw [if_neg (by decide), if_neg (by decide), if_neg (by decide), if_neg (by decide), if_neg (by decide), if_neg (by decide), if_pos rfl]
  rfl

/-- numbers that can be told -/
def Cnt (n : Int) : Prop := 0 ≤ n ∧ n ≤ 999999999
theorem cnt_nat {n : Int} (h : Cnt n) : ∃ m : Nat, n = (m : Int) ∧ m < 1000000000 := ⟨n.toNat, by have := h.1; omega, by have := h.2; omega⟩
theorem back_status {o a i : Int} (ho : Cnt o) (ha : Cnt a) (hi : Cnt i) : replyOf (lineR { Rep.zero with kind := 7, out := o, acked := a, inn := i }) = .ok { Rep.zero with kind := 7, out := o, acked := a, inn := i } ∧
    cutA (lineR { Rep.zero with kind := 7, out := o, acked := a, inn := i }) = wStatus ∧ (lineR { Rep.zero with kind := 7, out := o, acked := a, inn := i }).length ≤ 640 := by
  obtain ⟨m, rfl, hm⟩ := cnt_nat ho
  obtain ⟨n, rfl, hn⟩ := cnt_nat ha
  obtain ⟨k, rfl, hk⟩ := cnt_nat hi
  have hl : lineR { Rep.zero with kind := 7, out := (m : Int), acked := (n : Int), inn := (k : Int) } = wStatus ++ 32 :: (Lib.decDigits m ++ behind [Lib.decDigits n, Lib.decDigits k]) := by
    show Lib.join [wStatus, Lib.itoa m, Lib.itoa n, Lib.itoa k] [32] = _
    rw [itoa_nat, itoa_nat, itoa_nat, join_behind]; rfl
  have h1 := num_short hm
  have h2 := num_short hn
  have h3 := num_short hk
  obtain ⟨c1, c2, c3⟩ := cut_word w_free.2.2.2.2.2.2.1 (Lib.decDigits m ++ behind [Lib.decDigits n, Lib.decDigits k])
  have hlen : (wStatus ++ 32 :: (Lib.decDigits m ++ behind [Lib.decDigits n, Lib.decDigits k])).length ≤ 640 := by
    simp [behind, wStatus]; omega
  rw [hl]
  refine ⟨?_, c1, hlen⟩
  unfold replyOf
  rw [if_neg (by omega), c1, c2, c3, replyS_status, spl_behind (fun q hq => by
    simp only [List.mem_cons, List.not_mem_nil, or_false] at hq
    rcases hq with rfl | rfl | rfl <;> exact dec_free _)]
  simp only [num_dec hm, num_dec hn, num_dec hk, decV_dec, and_self, if_true]
theorem rounds_7 {o a i : Int} (ho : Cnt o) (ha : Cnt a) (hi : Cnt i) : Rounds { Rep.zero with kind := 7, out := o, acked := a, inn := i } where
  prints := fun nv tv w hv _ _ => pr_7 _ nv tv rfl ⟨by have := ho.1; show _ ≤ o; omega, by have := ho.2; show o ≤ _; omega⟩ ⟨by have := ha.1; show _ ≤ a; omega, by have := ha.2; show a ≤ _; omega⟩ ⟨by have := hi.1; show _ ≤ i; omega, by have := hi.2; show i ≤ _; omega⟩ w hv
  reads := fun w hv => by
    obtain ⟨_, h2, h3⟩ := back_status ho ha hi
    refine Reply_of ⟨(lineR { Rep.zero with kind := 7, out := o, acked := a, inn := i }).toArray⟩ (by show (lineR _).length ≤ _; omega) w hv fun w' hv' => ?_
    have hz := cutZ_len (lineR { Rep.zero with kind := 7, out := o, acked := a, inn := i })
    exact reply_ne ⟨(cutA (lineR { Rep.zero with kind := 7, out := o, acked := a, inn := i })).toArray⟩ ⟨(cutZ (lineR { Rep.zero with kind := 7, out := o, acked := a, inn := i })).toArray⟩ (by show (cutZ _).length ≤ _; omega) _ (by show ¬ cutA _ = _; rw [h2]; decide) w' hv'
theorem sameB_refl (r : Rep) : sameB r r = true := by unfold sameB; simp only [decide_eq_true_eq]; exact ⟨rfl, rfl, rfl, fun _ _ => rfl, rfl, rfl, rfl, rfl, rfl⟩
theorem repW_7 {o a i : Int} (ho : Cnt o) (ha : Cnt a) (hi : Cnt i) : RepW { Rep.zero with kind := 7, out := o, acked := a, inn := i } where
  kind := by show I64 7; unfold I64; omega
  key := fun j _ => ⟨Int.le_refl _, by show (0 : Int) < 256; decide⟩
  seq := by show I64 0; unfold I64; omega
  out := by have := ho.1; have := ho.2; show I64 o; unfold I64; omega
  acked := by have := ha.1; have := ha.2; show I64 a; unfold I64; omega
  inn := by have := hi.1; have := hi.2; show I64 i; unfold I64; omega
  err := by show I64 0; unfold I64; omega
  names := Nat.zero_le _
  texts := Nat.zero_le _
/-- the reply that wakes asks for -/
def rWake : Rep := { Rep.zero with kind := 7, out := 2, acked := 1, inn := 0 }
theorem wake_line : lineR rWake = [115, 116, 97, 116, 117, 115, 32, 50, 32, 49, 32, 48] := by
  show Lib.join [wStatus, Lib.itoa (2 : Nat), Lib.itoa (1 : Nat), Lib.itoa (0 : Nat)] [32] = _
  rw [itoa_nat, itoa_nat, itoa_nat, Lib.decDigits_one (by omega), Lib.decDigits_one (by omega), Lib.decDigits_one (by omega)]
  decide
theorem wake_reply (w : World) (hv : Vars w) : Calls Tryz.prog 16 #[.agg (pcell rWake nilV nilV)] w fun e w' => e = .returned (.tuple #[strV [115, 116, 97, 116, 117, 115, 32, 50, 32, 49, 32, 48], .int .i64 0]) ∧ Ext w w' := by
  have c2 : Cnt 2 := by unfold Cnt; omega
  have c1 : Cnt 1 := by unfold Cnt; omega
  have c0 : Cnt 0 := by unfold Cnt; omega
  have hb := (back_status c2 c1 c0).1
  have hok : okRep rWake = true := by
    unfold okRep
    show (textsB rWake && match replyOf (lineR rWake) with | .ok q => sameB q rWake | .error _ => false) = true
    rw [show replyOf (lineR rWake) = .ok rWake from hb]
    simp only [sameB_refl, Bool.and_true]
    rfl
  have := PrintReply_any rWake (repW_7 c2 c1 c0) ⟨Nat.zero_le _, by intro p hp; cases hp⟩ (rounds_7 c2 c1 c0) (fun q hq => by
    rw [show replyOf (lineR rWake) = .ok rWake from hb] at hq
    injection hq with hq; subst hq; exact repW_7 c2 c1 c0) nilV nilV w hv (SlR.nil _ _) (SlR.nil _ _)
  rw [hok, wake_line] at this
  exact this
end Go.Proofs.YtigfkfjlfpndfaaGreatDoor
