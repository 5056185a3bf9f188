/-
  What lines of commands and replies are, over lists of bytes: plain Lean, no program.
-/
import Derived.Lib.ItoaNum
import Derived.Lib.AtoiAll
import Derived.Lib.Atoi
namespace Go.Proofs.YtigfkfjlfpndfaaGreatDoor
namespace Sp

theorem _root_.List.reverseRecOn' {α : Type} {motive : List α → Prop} (l : List α) (nil : motive []) (snoc : ∀ l c, motive l → motive (l ++ [c])) : motive l := by
  rw [← List.reverse_reverse l]
  induction l.reverse with
  | nil => exact nil
  | cons c r ih => rw [List.reverse_cons]; exact snoc _ _ ih

/-- a byte that may not stand in a text -/
def badB (c : UInt8) : Bool := decide (c.toNat < 32) || decide (126 < c.toNat)
/-- the place of the first one; -1: there is none -/
def oddOf (l : List UInt8) : Int := match l.findIdx? badB with | some i => (i : Int) | none => -1
theorem oddOf_hit {l : List UInt8} {k : Nat} (hk : k < l.length) (hb : badB l[k] = true) (h : ∀ j (hj : j < k), badB (l[j]'(by omega)) = false) : oddOf l = k := by
  unfold oddOf
  have : l.findIdx? badB = some k := by
    rw [List.findIdx?_eq_some_iff_getElem]
    exact ⟨hk, hb, fun j hj => by rw [h j hj]; simp⟩
  rw [this]
theorem oddOf_none {l : List UInt8} (h : ∀ j (hj : j < l.length), badB l[j] = false) : oddOf l = -1 := by
  unfold oddOf
  have : l.findIdx? badB = none := by
    rw [List.findIdx?_eq_none_iff]
    intro x hx
    obtain ⟨j, hj, rfl⟩ := List.getElem_of_mem hx
    exact h j hj
  rw [this]
theorem oddOf_range (l : List UInt8) : -1 ≤ oddOf l ∧ oddOf l < (l.length : Int) ∨ oddOf l = -1 := by
  unfold oddOf
  split
  · rename_i i h
    have := (List.findIdx?_eq_some_iff_getElem.1 h).1
    left; omega
  · exact .inr rfl

/-- is it a text? -/
def textB (l : List UInt8) : Bool := decide (1 ≤ l.length) && decide (l.length ≤ 48) && decide (oddOf l < 0)

/-- a byte, quoted -/
def qB (c : UInt8) : List UInt8 := if c = 34 ∨ c = 92 then [92, c] else [c]
def quote (l : List UInt8) : List UInt8 := 34 :: (l.flatMap qB ++ [34])
theorem quote_snoc (l : List UInt8) (c : UInt8) : (l ++ [c]).flatMap qB = l.flatMap qB ++ qB c := by simp


/-- a byte of a name -/
def nameC (c : UInt8) : Bool := (decide (97 ≤ c.toNat) && decide (c.toNat ≤ 122)) || (decide (48 ≤ c.toNat) && decide (c.toNat ≤ 57)) || decide (c.toNat = 45)
/-- is it a name? -/
def nameB (l : List UInt8) : Bool := l.all nameC && decide (1 ≤ l.length) && decide (l.length ≤ 16)

/-- a decimal digit -/
def digC (c : UInt8) : Bool := decide (48 ≤ c.toNat) && decide (c.toNat ≤ 57)
/-- what digits spell -/
def decV (l : List UInt8) : Nat := l.foldl (fun a c => a * 10 + (c.toNat - 48)) 0
theorem decV_snoc (l : List UInt8) (c : UInt8) : decV (l ++ [c]) = decV l * 10 + (c.toNat - 48) := by simp [decV]
theorem decV_lt (l : List UInt8) (h : l.all digC = true) : decV l < 10 ^ l.length := by
  induction l using List.reverseRecOn' with
  | nil => simp [decV]
  | snoc l c ih =>
    rw [List.all_append, Bool.and_eq_true] at h
    have h1 := ih h.1
    have h2 : c.toNat ≤ 57 := by have := h.2; simp [digC] at this; omega
    rw [decV_snoc, List.length_append, List.length_singleton, Nat.pow_succ]
    omega
/-- no zero ahead -/
def canonB (l : List UInt8) : Bool := !l.isEmpty && (decide (l.head?.map (·.toNat) ≠ some 48) || decide (l.length = 1))
def numB (l : List UInt8) : Bool := l.all digC && decide (l.length ≤ 9) && canonB l

end Sp
end Go.Proofs.YtigfkfjlfpndfaaGreatDoor
