/-
  Replies: what a line says, and how a reply lies in memory.
-/
import Derived.Test.YtigfkfjlfpndfaaGreatDoorCont
namespace Go.Proofs.YtigfkfjlfpndfaaGreatDoor
open Go.RowKit Sp

/-- a reply -/
structure Rep where
  kind : Int
  key : Nat → Int
  names : List (List UInt8)
  texts : List (List UInt8)
  seq : Int
  out : Int
  acked : Int
  inn : Int
  err : Int
def Rep.zero : Rep := ⟨0, fun _ => 0, [], [], 0, 0, 0, 0, 0⟩
/-- its cells, but for what its lists hold -/
def pcell (r : Rep) (nv tv : Value) : Array Value := #[.int .i64 r.kind] ++ kcell r.key ++ #[nv, tv, .int .i64 r.seq, .int .i64 r.out, .int .i64 r.acked, .int .i64 r.inn, .int .i64 r.err]
theorem pcell_size (r : Rep) (nv tv : Value) : (pcell r nv tv).size = 40 := by simp [pcell, kcell_size]
def pget (r : Rep) (nv tv : Value) (j : Nat) : Option Value :=
  if j = 0 then some (.int .i64 r.kind) else if j < 33 then some (.int .u8 (r.key (j - 1))) else if j = 33 then some nv else if j = 34 then some tv else if j = 35 then some (.int .i64 r.seq)
  else if j = 36 then some (.int .i64 r.out) else if j = 37 then some (.int .i64 r.acked) else if j = 38 then some (.int .i64 r.inn) else if j = 39 then some (.int .i64 r.err) else none
theorem pcell_get (r : Rep) (nv tv : Value) (j : Nat) : (pcell r nv tv)[j]? = pget r nv tv j := by
  unfold pcell pget
  by_cases h0 : j = 0
  · subst h0; simp [Array.getElem?_append, kcell_size]
  rw [if_neg h0]
  by_cases h2 : j < 33
  · rw [if_pos h2, Array.getElem?_append_left (by simp [kcell_size]; omega), Array.getElem?_append_right (by simp; omega)]
    exact kcell_at _ _ (by simp; omega)
  rw [if_neg h2, Array.getElem?_append_right (by simp [kcell_size]; omega)]
  simp only [Array.size_append, kcell_size]
  have hj : j = 33 ∨ j = 34 ∨ j = 35 ∨ j = 36 ∨ j = 37 ∨ j = 38 ∨ j = 39 ∨ 40 ≤ j := by omega
  rcases hj with rfl | rfl | rfl | rfl | rfl | rfl | rfl | hj
  all_goals first | rfl | skip
  rw [Array.getElem?_eq_none (by simp; omega)]
  simp [show j ≠ 33 by omega, show j ≠ 34 by omega, show j ≠ 35 by omega, show j ≠ 36 by omega, show j ≠ 37 by omega, show j ≠ 38 by omega, show j ≠ 39 by omega]
theorem pcell_put {r q : Rep} {nv tv nv' tv' : Value} {o : Nat} {v : Value} (h : ∀ j, (if o = j then (if o < 40 then some v else none) else pget r nv tv j) = pget q nv' tv' j) : (pcell r nv tv).setIfInBounds o v = pcell q nv' tv' := by
  apply Array.ext_getElem?; intro j
  rw [Array.getElem?_setIfInBounds, pcell_get, pcell_get, pcell_size]
  exact h j
theorem pcell_set0 (r : Rep) (nv tv : Value) (k : Int) : (pcell r nv tv).setIfInBounds 0 (.int .i64 k) = pcell { r with kind := k } nv tv := pcell_put fun j => by
  by_cases h : 0 = j
  · subst h; rfl
  · rw [if_neg h]; unfold pget; simp [Ne.symm h]
theorem pcell_set33 (r : Rep) (nv tv v : Value) : (pcell r nv tv).setIfInBounds 33 v = pcell r v tv := pcell_put fun j => by
  by_cases h : 33 = j
  · subst h; rfl
  · rw [if_neg h]; unfold pget; simp [Ne.symm h]
theorem pcell_set34 (r : Rep) (nv tv v : Value) : (pcell r nv tv).setIfInBounds 34 v = pcell r nv v := pcell_put fun j => by
  by_cases h : 34 = j
  · subst h; rfl
  · rw [if_neg h]; unfold pget; simp [Ne.symm h]
theorem pcell_set35 (r : Rep) (nv tv : Value) (k : Int) : (pcell r nv tv).setIfInBounds 35 (.int .i64 k) = pcell { r with seq := k } nv tv := pcell_put fun j => by
  by_cases h : 35 = j
  · subst h; rfl
  · rw [if_neg h]; unfold pget; simp [Ne.symm h]
theorem pcell_set36 (r : Rep) (nv tv : Value) (k : Int) : (pcell r nv tv).setIfInBounds 36 (.int .i64 k) = pcell { r with out := k } nv tv := pcell_put fun j => by
  by_cases h : 36 = j
  · subst h; rfl
  · rw [if_neg h]; unfold pget; simp [Ne.symm h]
theorem pcell_set37 (r : Rep) (nv tv : Value) (k : Int) : (pcell r nv tv).setIfInBounds 37 (.int .i64 k) = pcell { r with acked := k } nv tv := pcell_put fun j => by
  by_cases h : 37 = j
  · subst h; rfl
  · rw [if_neg h]; unfold pget; simp [Ne.symm h]
theorem pcell_set38 (r : Rep) (nv tv : Value) (k : Int) : (pcell r nv tv).setIfInBounds 38 (.int .i64 k) = pcell { r with inn := k } nv tv := pcell_put fun j => by
  by_cases h : 38 = j
  · subst h; rfl
  · rw [if_neg h]; unfold pget; simp [Ne.symm h]
theorem pcell_set39 (r : Rep) (nv tv : Value) (k : Int) : (pcell r nv tv).setIfInBounds 39 (.int .i64 k) = pcell { r with err := k } nv tv := pcell_put fun j => by
  by_cases h : 39 = j
  · subst h; rfl
  · rw [if_neg h]; unfold pget; simp [Ne.symm h]
theorem pcell_one {r : Rep} {nv tv : Value} (hn : nv.oneCell' = true) (ht : tv.oneCell' = true) : (pcell r nv tv).all (fun x => x.oneCell') = true := by
  have h := kcell_one r.key
  have e : (#[nv, tv, Value.int .i64 r.seq, .int .i64 r.out, .int .i64 r.acked, .int .i64 r.inn, .int .i64 r.err].all fun x => x.oneCell') = true := all_mk (by simp only [List.all_cons, hn, ht, List.all_nil, Bool.and_true, Bool.true_and]; rfl)
  have e1 : (#[Value.int .i64 r.kind].all fun x => x.oneCell') = true := all_mk rfl
  simp only [pcell, Array.all_append, h, e, e1, Bool.and_self]
abbrev nilV : Value := .slice none 0 0
theorem kcell_lit (f : Nat → Int) : kcell f = #[.int .u8 (f 0), .int .u8 (f 1), .int .u8 (f 2), .int .u8 (f 3), .int .u8 (f 4), .int .u8 (f 5), .int .u8 (f 6), .int .u8 (f 7), .int .u8 (f 8), .int .u8 (f 9), .int .u8 (f 10), .int .u8 (f 11), .int .u8 (f 12), .int .u8 (f 13), .int .u8 (f 14), .int .u8 (f 15), .int .u8 (f 16), .int .u8 (f 17), .int .u8 (f 18), .int .u8 (f 19), .int .u8 (f 20), .int .u8 (f 21), .int .u8 (f 22), .int .u8 (f 23), .int .u8 (f 24), .int .u8 (f 25), .int .u8 (f 26), .int .u8 (f 27), .int .u8 (f 28), .int .u8 (f 29), .int .u8 (f 30), .int .u8 (f 31)] := rfl
theorem kcell_lit0 : kcell (fun _ => 0) = #[cz, cz, cz, cz, cz, cz, cz, cz, cz, cz, cz, cz, cz, cz, cz, cz, cz, cz, cz, cz, cz, cz, cz, cz, cz, cz, cz, cz, cz, cz, cz, cz] := rfl
theorem pcell_zero (k : Int) : #[.int .i64 k, cz, cz, cz, cz, cz, cz, cz, cz, cz, cz, cz, cz, cz, cz, cz, cz, cz, cz, cz, cz, cz, cz, cz, cz, cz, cz, cz, cz, cz, cz, cz, cz, nilV, nilV, .int .i64 0, .int .i64 0, .int .i64 0, .int .i64 0, .int .i64 0] = pcell { Rep.zero with kind := k } nilV nilV := by
  apply Array.toList_inj.1
  simp only [pcell, kcell, Rep.zero, Array.toList_append]
  rfl
theorem i36 : (Tryz.prog.info? 36).map (·.size) = some 40 := by kernel_rfl
theorem i36p (r : Rep) (nv tv : Value) : (Tryz.prog.info? 36).map (·.size) = some (pcell r nv tv).size := by rw [pcell_size]; exact i36

/-! ### what a line says -/
/-- the words of errors -/
def errWords : List (Int × List UInt8) := [(6, [102, 117, 108, 108]), (4, [110, 111, 110, 101]), (5, [116, 104, 101, 114, 101]), (3, [108, 111, 110, 103]), (260, [110, 97, 109, 101]), (262, [111, 119, 110]), (130, [108, 111, 119]), (340, [108, 105, 110, 101]), (2, [97, 114, 103]), (7, [100, 101, 97, 100])]
def namedS (w : List UInt8) : Option Int := (errWords.find? fun p => decide (p.2 = w)).map (·.1)
def wordS (e : Int) : Option (List UInt8) := (errWords.find? fun p => decide (p.1 = e)).map (·.2)
def wAdded : List UInt8 := [97, 100, 100, 101, 100]
def wPurged : List UInt8 := [112, 117, 114, 103, 101, 100]
def wMe : List UInt8 := [109, 101]
def wContacts : List UInt8 := [99, 111, 110, 116, 97, 99, 116, 115]
def wQueued : List UInt8 := [113, 117, 101, 117, 101, 100]
def wInbox : List UInt8 := [105, 110, 98, 111, 120]
def wStatus : List UInt8 := [115, 116, 97, 116, 117, 115]
def wError : List UInt8 := [101, 114, 114, 111, 114]
/-- the reply of a word and a rest -/
def replyS (word rest : List UInt8) (more : Bool) : Option Rep :=
  if word = wAdded then (if more then none else some { Rep.zero with kind := 2 })
  else if word = wPurged then (if more then none else some { Rep.zero with kind := 6 })
  else if word = wMe then (if keyB ⟨rest.toArray⟩ then some { Rep.zero with kind := 1, key := keyF ⟨rest.toArray⟩ } else none)
  else if word = wContacts then (contactsS rest).map fun l => { Rep.zero with kind := 3, names := l }
  else if word = wQueued then (if numB rest then some { Rep.zero with kind := 4, seq := decV rest } else none)
  else if word = wInbox then (inboxS rest).map fun l => { Rep.zero with kind := 5, texts := l }
  else if word = wStatus then (match spl rest with
    | [a, b, c] => if numB a = true ∧ numB b = true ∧ numB c = true then some { Rep.zero with kind := 7, out := decV a, acked := decV b, inn := decV c } else none
    | _ => none)
  else if word = wError then (namedS rest).map fun e => { Rep.zero with kind := 8, err := e }
  else none
/-- what line.reply tells -/
def RepP (o : Option Rep) (w : World) (e : Ending) (w' : World) : Prop :=
  ∃ (r : Rep) (nv tv : Value), e = .returned (.tuple #[.agg (pcell r nv tv), .bool o.isSome]) ∧ nv.oneCell' = true ∧ tv.oneCell' = true ∧ Ext w w' ∧
    ∀ q, o = some q → pcell r nv tv = pcell q nv tv ∧ SlR w' w.heap.size nv q.names ∧ SlR w' w.heap.size tv q.texts
theorem RepP.no {w w' : World} {r : Rep} {nv tv : Value} (hn : nv.oneCell' = true) (ht : tv.oneCell' = true) (hx : Ext w w') : RepP none w (.returned (.tuple #[.agg (pcell r nv tv), .bool false])) w' :=
  ⟨r, nv, tv, rfl, hn, ht, hx, fun q h => by cases h⟩
theorem SlR.nil (w : World) (B : Nat) : SlR w B nilV [] := Rd.nil w B
theorem RepP.yes {w w' : World} {r : Rep} {nv tv : Value} (hn : SlR w' w.heap.size nv r.names) (ht : SlR w' w.heap.size tv r.texts) (hx : Ext w w') : RepP (some r) w (.returned (.tuple #[.agg (pcell r nv tv), .bool true])) w' :=
  ⟨r, nv, tv, rfl, Rd.one hn, Rd.one ht, hx, fun q h => by injection h with h; subst h; exact ⟨rfl, hn, ht⟩⟩
end Go.Proofs.YtigfkfjlfpndfaaGreatDoor
