/-
  Texts split at blanks; line.contacts.
-/
import Derived.Test.YtigfkfjlfpndfaaGreatDoorInbox
import Derived.Lib.SplitLaws
import Derived.Lib.CountLaws
namespace Go.Proofs.YtigfkfjlfpndfaaGreatDoor
open Go.RowKit Sp

/-- the parts of a text -/
def spl : List UInt8 → List (List UInt8)
  | [] => [[]]
  | c :: r => if c = 32 then [] :: spl r else match spl r with | [] => [[c]] | p :: ps => (c :: p) :: ps
theorem spl_ne (l : List UInt8) : spl l ≠ [] := by
  cases l with
  | nil => simp [spl]
  | cons c r =>
    unfold spl
    split
    · simp
    · split <;> simp
theorem spl_put {c : UInt8} {r p : List UInt8} {ps : List (List UInt8)} (hc : c ≠ 32) (h : spl r = p :: ps) : spl (c :: r) = (c :: p) :: ps := by simp [spl, hc, h]
theorem spl_app {p : List UInt8} (hp : ∀ c ∈ p, c ≠ 32) (r : List UInt8) : spl (p ++ 32 :: r) = p :: spl r := by
  induction p with
  | nil => simp [spl]
  | cons a p ih =>
    rw [List.cons_append]
    exact spl_put (hp a (by simp)) (ih (fun c hc => hp c (by simp [hc])))
theorem spl_one {p : List UInt8} (hp : ∀ c ∈ p, c ≠ 32) : spl p = [p] := by
  induction p with
  | nil => rfl
  | cons a p ih =>
    exact spl_put (hp a (by simp)) (ih (fun c hc => hp c (by simp [hc])))
theorem cut_split (l : List UInt8) : (cutM l = true ∧ l = cutA l ++ 32 :: cutZ l) ∨ (cutM l = false ∧ l = cutA l ∧ cutZ l = []) := by
  unfold cutM cutA cutZ
  rcases blank_stop l with h | ⟨h1, h2⟩
  · right
    refine ⟨by simp [h], (List.take_of_length_le (by omega)).symm, List.drop_of_length_le (by omega)⟩
  · left
    refine ⟨by simpa using h1, ?_⟩
    conv => lhs; rw [← List.take_append_drop (blank l) l]
    rw [drop_stop (.inr ⟨h1, h2⟩) (by omega)]
theorem spl_cut (l : List UInt8) : spl l = cutA l :: (if cutM l then spl (cutZ l) else []) := by
  rcases cut_split l with ⟨h1, h2⟩ | ⟨h1, h2, _⟩
  · rw [h1, if_pos rfl]
    conv => lhs; rw [h2]
    exact spl_app (blank_free l) _
  · rw [h1, if_neg (by simp)]
    conv => lhs; rw [h2]
    exact spl_one (blank_free l)
theorem spl_join (l : List UInt8) : Lib.join (spl l) [32] = l := by
  have key : ∀ n (l : List UInt8), l.length ≤ n → ∃ p ps, spl l = p :: ps ∧ l = p ++ behind ps := by
    intro n
    induction n with
    | zero => intro l h; obtain rfl : l = [] := List.length_eq_zero_iff.1 (by omega); exact ⟨[], [], rfl, rfl⟩
    | succ n ih =>
      intro l h
      rw [spl_cut]
      rcases cut_split l with ⟨h1, h2⟩ | ⟨h1, h2, _⟩
      · rw [h1, if_pos rfl]
        have hl : (cutZ l).length ≤ n := by
          have := congrArg List.length h2
          rw [List.length_append, List.length_cons] at this; omega
        obtain ⟨p, ps, h3, h4⟩ := ih (cutZ l) hl
        refine ⟨_, _, rfl, ?_⟩
        rw [h3]
        conv => lhs; rw [h2, h4]
        simp [behind]
      · rw [h1, if_neg (by simp)]
        exact ⟨_, _, rfl, by simpa [behind] using h2⟩
  obtain ⟨p, ps, h1, h2⟩ := key l.length l (Nat.le_refl _)
  rw [h1, join_behind, ← h2]
theorem spl_free (l : List UInt8) : ∀ p ∈ spl l, ∀ c ∈ p, c ≠ 32 := by
  have key : ∀ n (l : List UInt8), l.length ≤ n → ∀ p ∈ spl l, ∀ c ∈ p, c ≠ 32 := by
    intro n
    induction n with
    | zero => intro l h; obtain rfl : l = [] := List.length_eq_zero_iff.1 (by omega); intro p hp; simp [spl] at hp; subst hp; simp
    | succ n ih =>
      intro l h p hp
      rw [spl_cut] at hp
      rcases List.mem_cons.1 hp with rfl | hp
      · exact blank_free l
      · rcases cut_split l with ⟨h1, h2⟩ | ⟨h1, h2, _⟩
        · rw [h1, if_pos rfl] at hp
          refine ih (cutZ l) ?_ p hp
          have := congrArg List.length h2
          rw [List.length_append, List.length_cons] at this; omega
        · rw [h1, if_neg (by simp)] at hp; cases hp
  exact key l.length l (Nat.le_refl _)
theorem spl_behind {p : List UInt8} {ps : List (List UInt8)} (h : ∀ q ∈ p :: ps, ∀ c ∈ q, c ≠ 32) : spl (p ++ behind ps) = p :: ps := by
  induction ps generalizing p with
  | nil => simpa [behind] using spl_one (h p (by simp))
  | cons q ps ih =>
    show spl (p ++ 32 :: (q ++ behind ps)) = _
    rw [spl_app (h p (by simp)), ih (fun r hr => h r (by simp at hr ⊢; exact .inr hr))]
theorem spl_len (l : List UInt8) : ∀ p ∈ spl l, p.length ≤ l.length := by
  have key : ∀ n (l : List UInt8), l.length ≤ n → ∀ p ∈ spl l, p.length ≤ l.length := by
    intro n
    induction n with
    | zero => intro l h; obtain rfl : l = [] := List.length_eq_zero_iff.1 (by omega); intro p hp; simp [spl] at hp; subst hp; simp
    | succ n ih =>
      intro l h p hp
      rw [spl_cut] at hp
      rcases List.mem_cons.1 hp with rfl | hp
      · exact cutA_len l
      · rcases cut_split l with ⟨h1, h2⟩ | ⟨h1, h2, _⟩
        · rw [h1, if_pos rfl] at hp
          have := congrArg List.length h2
          rw [List.length_append, List.length_cons] at this
          have := ih (cutZ l) (by omega) p hp
          omega
        · rw [h1, if_neg (by simp)] at hp; cases hp
  exact key l.length l (Nat.le_refl _)
theorem spl_count (l : List UInt8) : (spl l).length ≤ l.length + 1 := by
  induction l with
  | nil => simp [spl]
  | cons c r ih =>
    unfold spl
    split
    · simpa using ih
    · split
      · simp
      · rename_i h; rw [h] at ih; simp at ih ⊢; omega

theorem strB (x : ByteArray) : Value.string x = strV (bl x) := by
  show _ = Value.string ⟨(bl x).toArray⟩
  congr 1
theorem split_spl : ∀ (k : Nat) (s : ByteArray), Lib.countB s ⟨#[32]⟩ = k → (Lib.splitB ⟨#[32]⟩ 0 k s).map Value.string = (spl (bl s)).map strV := by
  intro k
  induction k with
  | zero =>
    intro s h
    have hi : Lib.indexB s ⟨#[32]⟩ = Lib.indexByte s.data.toList 32 := Lib.index_one _ _
    have h2 := indexByte_blank s.data.toList
    rw [Lib.splitB_zero, spl_cut]
    by_cases hb : blank s.data.toList < s.data.toList.length
    · rw [if_pos hb] at h2
      rw [Lib.countB_hit s ⟨#[32]⟩ (blank s.data.toList) (Nat.le_refl 1) (by rw [hi, h2])] at h
      omega
    · have hm : cutM (bl s) = false := by unfold cutM; simpa using Nat.le_of_not_lt hb
      rw [hm, if_neg (by simp)]
      rcases cut_split (bl s) with ⟨h3, _⟩ | ⟨_, h3, _⟩
      · rw [hm] at h3; cases h3
      · rw [← h3]; simp [strB]
  | succ k ih =>
    intro s h
    have hi : Lib.indexB s ⟨#[32]⟩ = Lib.indexByte s.data.toList 32 := Lib.index_one _ _
    have h2 := indexByte_blank s.data.toList
    by_cases hb : blank s.data.toList < s.data.toList.length
    · rw [if_pos hb] at h2
      have hi' : Lib.indexB s ⟨#[32]⟩ = (blank s.data.toList : Nat) := by rw [hi, h2]
      rw [Lib.countB_hit s ⟨#[32]⟩ _ (Nat.le_refl 1) hi'] at h
      rw [Lib.splitB_hit _ _ _ _ _ hi', List.map_cons, ih _ (by omega), spl_cut (bl s)]
      have hm : cutM (bl s) = true := by unfold cutM; simpa using hb
      rw [hm, if_pos rfl, List.map_cons]
      have e1 : Value.string (s.extract 0 (blank s.data.toList + 0)) = strV (cutA (bl s)) := by
        rw [strB, bl_extract]; rfl
      have e2 : bl (s.extract (blank s.data.toList + (⟨#[32]⟩ : ByteArray).size) s.size) = cutZ (bl s) := by
        rw [bl_extract]; exact List.take_of_length_le (by rw [List.length_drop]; show s.size - _ ≤ s.size - _; exact Nat.le_refl _)
      rw [e1, e2]
    · rw [if_neg hb] at h2
      rw [Lib.countB_miss s ⟨#[32]⟩ (by rw [hi, h2])] at h
      omega
theorem split_any (s : ByteArray) (hs : s.size ≤ 1000000) (w : World) (hv : Vars w) : Calls Tryz.prog 58 #[.string s, .string ⟨#[32]⟩] w fun e w' => e = .returned (.slice (some ⟨w.heap.size, 0, none⟩) (spl (bl s)).length (spl (bl s)).length) ∧ w' = w.alloc (.cells ((spl (bl s)).map strV).toArray 9) := by
  obtain ⟨m, hm⟩ := hv.maxlen
  refine (Tryz.strings_Split s ⟨#[32]⟩ m w (by omega) hm (Nat.le_refl 1)).mono ?_
  rintro e w' ⟨rfl, rfl⟩
  have h := split_spl _ s rfl
  have hl : Lib.countB s ⟨#[32]⟩ + 1 = (spl (bl s)).length := by
    have := Lib.splitB_all ⟨#[32]⟩ (Nat.le_refl 1) 0 _ s rfl
    rw [← this]
    have := congrArg List.length h
    simpa using this
  rw [h, hl]
  exact ⟨rfl, rfl⟩
end Go.Proofs.YtigfkfjlfpndfaaGreatDoor
