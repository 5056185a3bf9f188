/-
  Small lemmas that the walks of this seat share: strings as lists of bytes, worlds.
-/
import Derived.Test.YtigfkfjlfpndfaaGreatDoorProg
import Derived.Test.YtigfkfjlfpndfaaGreatDoorSpec
import Derived.WalkKit
import Derived.WalkLawsBesides
import Derived.WalkSpells
import Derived.Lib.Hide
import Derived.Lib.Strings
namespace Go.Proofs.YtigfkfjlfpndfaaGreatDoor
open Go.RowKit

theorem ret_int {k : IntKind} {a b : Int} (h : a = b) : Ending.returned (.int k a) = .returned (.int k b) := by rw [h]
theorem size_list (s : ByteArray) : s.data.toList.length = s.size := rfl
theorem get_list (s : ByteArray) (k : Nat) (h : k < s.size) : s.data.toList[k]'(by simpa using h) = s[k] := rfl
theorem str_some {s : ByteArray} (h : 1 ≤ s.size) : s.toList.isEmpty = false := by
  rw [ByteArray.toList_eq, List.isEmpty_eq_false_iff]
  intro e
  have : s.data.toList.length = 0 := by rw [e]; rfl
  rw [size_list] at this; omega
theorem str_none {s : ByteArray} (h : ¬ 1 ≤ s.size) : s.toList.isEmpty = true := by
  rw [ByteArray.toList_eq, List.isEmpty_iff]
  exact List.length_eq_zero_iff.1 (by rw [size_list]; omega)

end Go.Proofs.YtigfkfjlfpndfaaGreatDoor
