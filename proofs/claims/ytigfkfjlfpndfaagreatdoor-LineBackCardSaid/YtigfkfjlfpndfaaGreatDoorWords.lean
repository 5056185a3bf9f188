/-
  words, and the first word of a line.
-/
import Derived.Test.YtigfkfjlfpndfaaGreatDoorRest
namespace Go.Proofs.YtigfkfjlfpndfaaGreatDoor
open Go.RowKit Sp

def wordsA : Array Value := #[.string ⟨#[]⟩, .string ⟨#[119, 104, 111, 97, 109, 105]⟩, .string ⟨#[97, 100, 100]⟩, .string ⟨#[108, 105, 115, 116]⟩, .string ⟨#[115, 101, 110, 100]⟩, .string ⟨#[114, 101, 97, 100]⟩, .string ⟨#[112, 117, 114, 103, 101]⟩, .string ⟨#[115, 116, 97, 116, 117, 115]⟩]
theorem wordsA_at : ∀ j, j < wordsL.length → wordsA[j]? = some (.string (wordsL.getD j ByteArray.empty)) := by
  intro j hj
  have : j = 0 ∨ j = 1 ∨ j = 2 ∨ j = 3 ∨ j = 4 ∨ j = 5 ∨ j = 6 ∨ j = 7 := by simp [wordsL] at hj; omega
  rcases this with rfl | rfl | rfl | rfl | rfl | rfl | rfl | rfl <;> rfl
theorem i60 : (Tryz.prog.info? 60).map (·.size) = some wordsA.size := by kernel_rfl

set_option maxHeartbeats 1000000 in
set_option maxRecDepth 100000 in
theorem words_any (w : World) : Calls Tryz.prog 35 #[] w fun e w' => e = .returned (.agg wordsA) ∧ Ext w w' := by
  go_enter Tryz.func35, Tryz.ntmps35
  go_wp2_with ((with_reducible show wpList _ _ _ (⟨none, .store 60 (.tmp 0) (.tmp 1), _, _, _, _⟩ :: _) _ _); refine wpList_store_new rfl 60 _ _ rfl w.heap.size 0 wordsA rfl rfl (Blk.new w _ 60) (by decide) i60 (by simp [wordsA, Value.oneCell']) ?_; intro w1 hb hk1 hm1; rw [putCells_whole (by rfl)] at hb)
  refine bodyPost_ret (v := .agg wordsA) (results_cell1 rfl _ _ rfl (hb.congr (by simp)) Tryz.underlying60 rfl i60) rfl ?_
  exact ⟨rfl, (Ext.alloc (Below.refl _ w) _).mods hm1 (fun i hi e => by omega)⟩

/-! ### the first word of a line -/
theorem idxFromS_findIdx (x : ByteArray) : ∀ (zs : List ByteArray) (i : Nat), Lib.idxFromS zs x i = match zs.findIdx? (fun z => decide (z = x)) with | some k => ((i + k : Nat) : Int) | none => -1 := by
  intro zs
  induction zs with
  | nil => intro i; rfl
  | cons z zs ih =>
    intro i
    rw [List.findIdx?_cons]
    by_cases h : z = x
    · simp [Lib.idxFromS, h]
    · simp only [Lib.idxFromS, h, if_false, ih, decide_false, Bool.false_eq_true]
      cases zs.findIdx? (fun z => decide (z = x)) with
      | none => simp
      | some k => simp only [Option.map_some]; rw [show i + (k + 1) = i + 1 + k from by omega]
theorem wordAt_idx (x : ByteArray) : (wordAt x = 0 ∧ Lib.idxOfS wordsL x < 1) ∨ (1 ≤ wordAt x ∧ wordAt x ≤ 7 ∧ Lib.idxOfS wordsL x = (wordAt x : Int)) := by
  unfold wordAt Lib.idxOfS
  rw [idxFromS_findIdx]
  cases h : wordsL.findIdx? (fun z => decide (z = x)) with
  | none => left; exact ⟨rfl, by show (-1 : Int) < 1; omega⟩
  | some k =>
    have hk : k < wordsL.length := (List.findIdx?_eq_some_iff_getElem.1 h).1
    have h8 : wordsL.length = 8 := rfl
    by_cases h0 : k = 0
    · left; subst h0; exact ⟨rfl, by show ((0 + 0 : Nat) : Int) < 1; omega⟩
    · right; exact ⟨by show 1 ≤ k; omega, by show k ≤ 7; omega, by show ((0 + k : Nat) : Int) = _; simp⟩
theorem cut_blank (s : ByteArray) : (⟨(Lib.cut s.data.toList [32]).1.toArray⟩ : ByteArray) = s.extract 0 (blank s.data.toList) := by
  have h := indexByte_blank s.data.toList
  apply ByteArray.ext
  apply Array.toList_inj.1
  rw [Lib.extract_data]
  simp only [Lib.cut, Lib.index_one, h, List.drop_zero, Nat.sub_zero]
  by_cases hb : blank s.data.toList < s.data.toList.length
  · rw [if_pos hb, if_pos (by omega)]; simp
  · rw [if_neg hb, if_neg (by omega)]
    have := blank_le s.data.toList
    rw [List.take_of_length_le (by omega)]

end Go.Proofs.YtigfkfjlfpndfaaGreatDoor
