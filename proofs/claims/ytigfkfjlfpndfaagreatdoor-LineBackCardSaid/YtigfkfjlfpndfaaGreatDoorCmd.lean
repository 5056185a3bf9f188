/-
  Commands: what a line says, and how a command lies in memory.
-/
import Derived.Test.YtigfkfjlfpndfaaGreatDoorText
namespace Go.Proofs.YtigfkfjlfpndfaaGreatDoor
open Go.RowKit Sp

/-- a command -/
structure Cmd where
  kind : Int
  name : ByteArray
  key : Nat → Int
  text : ByteArray
  count : Int
def Cmd.zero : Cmd := ⟨0, ⟨#[]⟩, fun _ => 0, ⟨#[]⟩, 0⟩
/-- its cells -/
def ccell (c : Cmd) : Array Value := #[.int .i64 c.kind, .string c.name] ++ kcell c.key ++ #[.string c.text, .int .i64 c.count]
theorem ccell_size (c : Cmd) : (ccell c).size = 36 := by simp [ccell, kcell_size]
theorem ccell_get (c : Cmd) (j : Nat) : (ccell c)[j]? = if j = 0 then some (.int .i64 c.kind) else if j = 1 then some (.string c.name) else if j < 34 then some (.int .u8 (c.key (j - 2))) else if j = 34 then some (.string c.text) else if j = 35 then some (.int .i64 c.count) else none := by
  unfold ccell
  by_cases h0 : j = 0
  · subst h0; simp [Array.getElem?_append, kcell_size]
  by_cases h1 : j = 1
  · subst h1; simp [Array.getElem?_append, kcell_size]
  rw [if_neg h0, if_neg h1]
  by_cases h2 : j < 34
  · rw [if_pos h2, Array.getElem?_append_left (by simp [kcell_size]; omega), Array.getElem?_append_right (by simp; omega)]
    exact kcell_at _ _ (by simp; omega)
  rw [if_neg h2, Array.getElem?_append_right (by simp [kcell_size]; omega)]
  simp only [Array.size_append, kcell_size]
  by_cases h3 : j = 34
  · subst h3; rfl
  by_cases h4 : j = 35
  · subst h4; rfl
  rw [if_neg h3, if_neg h4, Array.getElem?_eq_none]
  simp; omega
theorem ccell_0 (c : Cmd) : (ccell c)[0]? = some (.int .i64 c.kind) := by rw [ccell_get]; rfl
theorem ccell_1 (c : Cmd) : (ccell c)[1]? = some (.string c.name) := by rw [ccell_get]; rfl
theorem ccell_34 (c : Cmd) : (ccell c)[34]? = some (.string c.text) := by rw [ccell_get]; rfl
theorem ccell_35 (c : Cmd) : (ccell c)[35]? = some (.int .i64 c.count) := by rw [ccell_get]; rfl
theorem ccell_set0 (c : Cmd) (k : Int) : (ccell c).setIfInBounds 0 (.int .i64 k) = ccell { c with kind := k } := by
  apply Array.ext_getElem?; intro j
  rw [Array.getElem?_setIfInBounds, ccell_get, ccell_get, ccell_size]
  by_cases h : 0 = j
  · subst h; simp
  · rw [if_neg h]; simp [Ne.symm h]
theorem ccell_set1 (c : Cmd) (s : ByteArray) : (ccell c).setIfInBounds 1 (.string s) = ccell { c with name := s } := by
  apply Array.ext_getElem?; intro j
  rw [Array.getElem?_setIfInBounds, ccell_get, ccell_get, ccell_size]
  by_cases h : 1 = j
  · subst h; simp
  · rw [if_neg h]; simp [Ne.symm h]
theorem ccell_set34 (c : Cmd) (s : ByteArray) : (ccell c).setIfInBounds 34 (.string s) = ccell { c with text := s } := by
  apply Array.ext_getElem?; intro j
  rw [Array.getElem?_setIfInBounds, ccell_get, ccell_get, ccell_size]
  by_cases h : 34 = j
  · subst h; simp
  · rw [if_neg h]; simp [Ne.symm h]
theorem ccell_set35 (c : Cmd) (n : Int) : (ccell c).setIfInBounds 35 (.int .i64 n) = ccell { c with count := n } := by
  apply Array.ext_getElem?; intro j
  rw [Array.getElem?_setIfInBounds, ccell_get, ccell_get, ccell_size]
  by_cases h : 35 = j
  · subst h; simp
  · rw [if_neg h]; simp [Ne.symm h]
theorem ccell_putKey (c : Cmd) (f : Nat → Int) : putCells (ccell c) 2 (kcell f).toList = ccell { c with key := f } := by
  refine putCells_ext (by rw [ccell_size, Array.length_toList, kcell_size]; omega) (by rw [ccell_size, ccell_size]) fun j hj => ?_
  rw [ccell_size] at hj
  rw [Array.length_toList, kcell_size, ccell_get, ccell_get]
  by_cases h : 2 ≤ j ∧ j < 2 + 32
  · rw [if_pos h, Array.getElem?_toList, kcell_at f (j - 2) (by omega)]
    simp [show j ≠ 0 by omega, show j ≠ 1 by omega, show j < 34 by omega]
  · rw [if_neg h]
    by_cases h2 : j < 34
    · rcases (show j = 0 ∨ j = 1 by omega) with rfl | rfl <;> rfl
    · simp [show j ≠ 0 by omega, show j ≠ 1 by omega, h2]
theorem ccell_key (c : Cmd) : ∀ j, j < (kcell c.key).toList.length → (ccell c)[2 + j]? = (kcell c.key).toList[j]? := by
  intro j hj
  rw [Array.length_toList, kcell_size] at hj
  rw [Array.getElem?_toList, kcell_at _ _ hj, ccell_get]
  simp [show 2 + j ≠ 0 by omega, show 2 + j ≠ 1 by omega, show 2 + j < 34 by omega]
theorem ccell_zero : ccell Cmd.zero = #[.int .i64 0, .string ⟨#[]⟩] ++ kcell (fun _ => 0) ++ #[.string ⟨#[]⟩, .int .i64 0] := rfl
theorem ccell_one (c : Cmd) : (ccell c).all (·.oneCell') = true := by
  have h := kcell_one c.key
  simp only [ccell, Array.all_append, h]; simp [Value.oneCell']
theorem i27 : (Tryz.prog.info? 27).map (·.size) = some 36 := by kernel_rfl
theorem i27k (c : Cmd) : (Tryz.prog.info? 27).map (·.size) = some (ccell c).size := by rw [ccell_size]; exact i27

/-! ### what a line says -/
def blank (l : List UInt8) : Nat := (l.takeWhile fun c => c != 32).length
theorem blank_le (l : List UInt8) : blank l ≤ l.length := by unfold blank; induction l with
  | nil => simp
  | cons c r ih => rw [List.takeWhile_cons]; split <;> simp; omega
/-- the part behind a blank, if it is right -/
def takeP (s : ByteArray) (at_ : Nat) (R : ByteArray → Bool) : Except (Int × Int) (ByteArray × Nat) :=
  if at_ = s.size then .error (340, at_)
  else
    let n := blank (s.data.toList.drop (at_ + 1))
    if R (s.extract (at_ + 1) (at_ + 1 + n)) then .ok (s.extract (at_ + 1) (at_ + 1 + n), at_ + 1 + n) else .error (340, at_ + 1)
def isName (p : ByteArray) : Bool := nameB p.data.toList
def isNum (p : ByteArray) : Bool := lineNum p.data.toList
/-- the number that digits spell -/
def numV (p : ByteArray) : Int := match Lib.atoiAll p.data.toList with | .ok v => v | _ => 0
/-- the text of a line to be sent -/
def takeT (s : ByteArray) (at_ : Nat) : Except (Int × Int) ByteArray :=
  if at_ = s.size then .error (340, at_)
  else
    let t := s.extract (at_ + 1) s.size
    if t.size = 0 then .error (340, at_ + 1)
    else if 48 < t.size then .error (3, at_ + 1)
    else if 0 ≤ oddOf t.data.toList then .error (340, (at_ + 1 : Nat) + oddOf t.data.toList)
    else .ok t
/-- what stands behind a command's word -/
def restS (k : Nat) (s : ByteArray) (at_ : Nat) (c : Cmd) : Except (Int × Int) (Cmd × Nat) :=
  if k = 1 ∨ k = 3 then .ok (c, at_)
  else match takeP s at_ isName with
    | .error e => .error e
    | .ok (p, b) =>
      if k = 2 then match takeP s b keyB with
        | .error e => .error e
        | .ok (q, d) => .ok ({ c with name := p, key := keyF q }, d)
      else if k = 6 then match takeP s b isNum with
        | .error e => .error e
        | .ok (q, d) => .ok ({ c with name := p, count := numV q }, d)
      else if k = 4 then match takeT s b with
        | .error e => .error e
        | .ok t => .ok ({ c with name := p, text := t }, s.size)
      else .ok ({ c with name := p }, b)
def wordsL : List ByteArray := [⟨#[]⟩, ⟨#[119, 104, 111, 97, 109, 105]⟩, ⟨#[97, 100, 100]⟩, ⟨#[108, 105, 115, 116]⟩, ⟨#[115, 101, 110, 100]⟩, ⟨#[114, 101, 97, 100]⟩, ⟨#[112, 117, 114, 103, 101]⟩, ⟨#[115, 116, 97, 116, 117, 115]⟩]
/-- the place of a word among the words -/
def wordAt (p : ByteArray) : Nat := match wordsL.findIdx? (fun z => decide (z = p)) with | some i => i | none => 0
/-- the command of a line, or what is wrong -/
def cmdOf (s : ByteArray) : Except (Int × Int) Cmd :=
  if 640 < s.size then .error (3, 640)
  else
    let n := blank s.data.toList
    let k := wordAt (s.extract 0 n)
    if k = 0 then .error (340, 0)
    else match restS k s n { Cmd.zero with kind := k } with
      | .error e => .error e
      | .ok (c, d) => if d < s.size then .error (340, d) else .ok c

end Go.Proofs.YtigfkfjlfpndfaaGreatDoor
