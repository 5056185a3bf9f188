/-
  Two commands compared.
-/
import Derived.Test.YtigfkfjlfpndfaaGreatDoorWrite
import Derived.DeepKeys
namespace Go.Proofs.YtigfkfjlfpndfaaGreatDoor
open Go.RowKit Sp

/-- what the cells of a command say, as literals -/
def litsOf (c : Cmd) : List Lit := [.int .i64 c.kind, .string c.name.data.toList] ++ ((List.range 32).map fun j => Lit.int .u8 (c.key j)) ++ [.string c.text.data.toList, .int .i64 c.count]
/-- a command as Go can hold it -/
structure CmdW (c : Cmd) : Prop where
  kind : -9223372036854775808 ≤ c.kind ∧ c.kind ≤ 9223372036854775807
  name : c.name.size ≤ maxLen
  key : KeyR c.key
  text : c.text.size ≤ maxLen
  count : -9223372036854775808 ≤ c.count ∧ c.count ≤ 9223372036854775807

theorem mapM_all {α β : Type} (l : List α) (g : α → Option β) (h : α → β) (hg : ∀ a ∈ l, g a = some (h a)) : l.mapM g = some (l.map h) := by
  induction l with
  | nil => rfl
  | cons a r ih => rw [List.mapM_cons, hg a (by simp), ih fun b hb => hg b (by simp [hb])]; rfl
theorem lit_u8 (n : Int) (h : 0 ≤ n ∧ n < 256) (d : Nat) : Tryz.prog.keyLits (d + 1) 5 [.int .u8 n] = some [.int .u8 n] := by
  unfold Program.keyLits
  rw [Tryz.underlying5]
  have : (Lit.int .u8 n).wf = true := by simp [Lit.wf, IntKind.min, IntKind.max, IntKind.bits, IntKind.signed]; omega
  simp [this]
theorem lits25 (f : Nat → Int) (hf : KeyR f) (d : Nat) : Tryz.prog.keyLits (d + 2) 25 (kcell f).toList = some ((List.range 32).map fun j => Lit.int .u8 (f j)) := by
  unfold Program.keyLits
  rw [Tryz.underlying25]
  have h32 : (kcell f).toList.length = Tryz.prog.cellsOf 25 := by rw [Array.length_toList, kcell_size]; kernel_rfl
  have h1 : Tryz.prog.cellsOf 5 = 1 := by kernel_rfl
  simp only [h32, if_true, h1]
  rw [mapM_all _ _ (fun j => [Lit.int .u8 (f j)]) (fun j hj => ?_)]
  · rfl
  · have hj' : j < 32 := by simpa using hj
    have : ((kcell f).toList.drop (j * 1)).take 1 = [Value.int .u8 (f j)] := by
      rw [Nat.mul_one, List.take_one, List.head?_drop, Array.getElem?_toList, kcell_at f j hj']
      rfl
    rw [this]
    exact lit_u8 _ (hf j hj') d

theorem lit_i64 (n : Int) (h : -9223372036854775808 ≤ n ∧ n ≤ 9223372036854775807) (d : Nat) : Tryz.prog.keyLits (d + 1) 3 [.int .i64 n] = some [.int .i64 n] := by
  unfold Program.keyLits
  rw [Tryz.underlying3]
  have : (Lit.int .i64 n).wf = true := by simp [Lit.wf, IntKind.min, IntKind.max, IntKind.bits, IntKind.signed]; omega
  simp [this]
theorem lit_str (s : ByteArray) (h : s.size ≤ maxLen) (d : Nat) : Tryz.prog.keyLits (d + 1) 9 [.string s] = some [.string s.data.toList] := by
  unfold Program.keyLits
  rw [Tryz.underlying9]
  simp [h]
theorem ccell_list (c : Cmd) : (ccell c).toList = [.int .i64 c.kind, .string c.name] ++ ((kcell c.key).toList ++ [.string c.text, .int .i64 c.count]) := by simp [ccell]
theorem kl (f : Nat → Int) : (kcell f).toList.length = 32 := by rw [Array.length_toList, kcell_size]
theorem lits27 (c : Cmd) (h : CmdW c) : Tryz.prog.keyLits 3 27 (ccell c).toList = some (litsOf c) := by
  unfold Program.keyLits
  rw [Tryz.underlying27]
  have hl : (ccell c).toList.length = Tryz.prog.cellsOf 27 := by rw [Array.length_toList, ccell_size]; kernel_rfl
  have s3 : Tryz.prog.cellsOf 3 = 1 := by kernel_rfl
  have s9 : Tryz.prog.cellsOf 9 = 1 := by kernel_rfl
  have s25 : Tryz.prog.cellsOf 25 = 32 := by kernel_rfl
  have d2 : ((kcell c.key).toList ++ [Value.string c.text, .int .i64 c.count]).take 32 = (kcell c.key).toList := by rw [List.take_append_of_le_length (by rw [kl]; omega), List.take_of_length_le (by rw [kl]; omega)]
  have d34 : ((kcell c.key).toList ++ [Value.string c.text, .int .i64 c.count]).drop 32 = [Value.string c.text, .int .i64 c.count] := by rw [List.drop_append_of_le_length (by rw [kl]; omega), List.drop_of_length_le (by rw [kl]; omega)]; rfl
  have d35 : ((kcell c.key).toList ++ [Value.string c.text, .int .i64 c.count]).drop 33 = [.int .i64 c.count] := by rw [show 33 = 32 + 1 from rfl, ← List.drop_drop, d34]; rfl
  simp only [hl, true_and]
  simp [ccell_list, s3, s9, s25, d2, d34, d35, lit_i64 _ h.kind 1, lit_i64 _ h.count 1, lit_str _ h.name 1, lit_str _ h.text 1, lits25 _ h.key 0, litsOf]

/-- two commands are one -/
def Cmd.same (c d : Cmd) : Prop := c.kind = d.kind ∧ c.name = d.name ∧ (∀ j, j < 32 → c.key j = d.key j) ∧ c.text = d.text ∧ c.count = d.count
theorem Cmd.same.cells {c d : Cmd} (h : c.same d) : ccell c = ccell d := by
  obtain ⟨h1, h2, h3, h4, h5⟩ := h
  unfold ccell
  rw [h1, h2, h4, h5, kcell_congr h3]
theorem bytes_inj {a b : ByteArray} (h : a.data.toList = b.data.toList) : a = b := ByteArray.ext (Array.toList_inj.1 h)
theorem lits_same {c d : Cmd} : litsOf c = litsOf d ↔ c.same d := by
  constructor
  · intro h
    unfold litsOf at h
    rw [List.append_assoc, List.append_assoc] at h
    obtain ⟨h1, h2⟩ := List.append_inj h rfl
    obtain ⟨h3, h4⟩ := List.append_inj h2 (by simp)
    simp only [List.cons.injEq, Lit.int.injEq, Lit.string.injEq, and_true, true_and] at h1 h4
    refine ⟨h1.1, bytes_inj h1.2, fun j hj => ?_, bytes_inj h4.1, h4.2⟩
    have := congrArg (·[j]?) h3
    simpa [hj] using this
  · rintro ⟨h1, h2, h3, h4, h5⟩
    unfold litsOf
    rw [h1, h2, h4, h5, List.map_congr_left fun j hj => by rw [h3 j (by simpa using hj)]]
theorem cmd_eq {c d : Cmd} (hc : CmdW c) (hd : CmdW d) (w : World) : ∃ r : Bool, (Op.equalIn 10000 27 (.agg (ccell c)) (.agg (ccell d))).run Tryz.prog w = .ok r w ∧ (r = true ↔ c.same d) := by
  have hf : ∀ c : Cmd, (Value.agg (ccell c)).formed Tryz.prog 27 = true := by
    intro c
    unfold Value.formed
    rw [Tryz.underlying27]
    have h36 : Tryz.prog.cellsOf 27 = 36 := by kernel_rfl
    simp [ccell_size, h36]
  obtain ⟨r, h1, h2⟩ := run_equalIn_deep (P := Tryz.prog) 9997 3 27 (by kernel_rfl) w 3 3 (.agg (ccell c)) (.agg (ccell d)) (litsOf c) (litsOf d) (hf c) (hf d) (by simpa [Value.cells] using lits27 c hc) (by simpa [Value.cells] using lits27 d hd)
  exact ⟨r, h1, h2.trans lits_same⟩

end Go.Proofs.YtigfkfjlfpndfaaGreatDoor
