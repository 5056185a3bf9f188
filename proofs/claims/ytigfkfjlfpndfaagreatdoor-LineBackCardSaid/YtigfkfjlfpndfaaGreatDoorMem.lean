/-
  Memory by blocks: what a block holds behind the steps of a walk.
-/
import Derived.WalkKit
import Derived.Deep.MidRow
import Derived.Deep.Draws
import Derived.Lib.Hide
import Derived.KernelRfl
namespace Go.Proofs.YtigfkfjlfpndfaaGreatDoor
open Go.RowKit

/-- block b holds just these cells, none of them frozen -/
structure Blk (w : World) (b : Nat) (C : Array Value) (t : TypeId) : Prop where mk :: (out : w.heap[b]? = some (.cells C t (0, 0)))

/-- of what was there nothing has turned but blocks of S -/
structure Mods (w w' : World) (S : Nat → Prop) : Prop where
  os : w'.os = w.os
  tape : w'.tape = w.tape
  output : w'.output = w.output
  size : w.heap.size ≤ w'.heap.size
  block : ∀ k, k < w.heap.size → ¬ S k → w'.heap[k]? = w.heap[k]?

/-! ### the heap behind a step -/
theorem hp_alloc (w : World) (o : Obj) (k : Nat) : (w.alloc o).heap[k]? = if k = w.heap.size then some o else w.heap[k]? := by
  show (w.heap.push o)[k]? = _
  rw [Array.getElem?_push]
theorem sz_alloc (w : World) (o : Obj) : (w.alloc o).heap.size = w.heap.size + 1 := by show (w.heap.push o).size = _; simp
theorem hp_drew (w : World) : w.drew.heap = w.heap := rfl
theorem hp_drewN (w : World) (n : Nat) : (w.drewN n).heap = w.heap := rfl
theorem hp_setCell (w : World) (a : Addr) (v : Value) (k : Nat) (h : k ≠ a.block) : (w.setCell a v).heap[k]? = w.heap[k]? := heap_setCell_other w a k v h
theorem sz_setCell (w : World) (a : Addr) (v : Value) : (w.setCell a v).heap.size = w.heap.size := by simp [World.setCell]
theorem hp_setCells (b : Nat) : ∀ (vs : List Value) (w : World) (o k : Nat), k ≠ b → (w.setCells b o vs).heap[k]? = w.heap[k]?
  | [], _, _, _, _ => rfl
  | v :: r, w, o, k, h => by rw [World.setCells, hp_setCells b r _ _ k h]; exact heap_setCell_other w _ k v h
theorem sz_setCells (b : Nat) : ∀ (vs : List Value) (w : World) (o : Nat), (w.setCells b o vs).heap.size = w.heap.size
  | [], _, _ => rfl
  | v :: r, w, o => by rw [World.setCells, sz_setCells b r, sz_setCell]

/-- cells o, o + 1, .. replaced -/
def putCells (C : Array Value) : Nat → List Value → Array Value
  | _, [] => C
  | o, v :: r => putCells (C.setIfInBounds o v) (o + 1) r
theorem putCells_size : ∀ (vs : List Value) (C : Array Value) (o : Nat), (putCells C o vs).size = C.size
  | [], _, _ => rfl
  | v :: r, C, o => by rw [putCells, putCells_size r]; simp
theorem putCells_get : ∀ (vs : List Value) (C : Array Value) (o j : Nat), o + vs.length ≤ C.size → (putCells C o vs)[j]? = if o ≤ j ∧ j < o + vs.length then vs[j - o]? else C[j]?
  | [], C, o, j, _ => by rw [putCells, if_neg]; simp
  | v :: r, C, o, j, h => by
    rw [List.length_cons] at h
    rw [putCells, putCells_get r _ _ _ (by simp; omega), List.length_cons]
    by_cases h1 : o + 1 ≤ j ∧ j < o + 1 + r.length
    · rw [if_pos h1, if_pos (by omega), show j - o = (j - (o + 1)) + 1 from by omega, List.getElem?_cons_succ]
    · rw [if_neg h1]
      by_cases h2 : j = o
      · subst h2
        rw [if_pos (by omega), Nat.sub_self, Array.getElem?_setIfInBounds_self_of_lt (by omega)]; rfl
      · rw [if_neg (by omega), Array.getElem?_setIfInBounds_ne (by omega)]
theorem putCells_ext {C : Array Value} {o : Nat} {vs : List Value} {D : Array Value} (h : o + vs.length ≤ C.size) (hs : D.size = C.size)
    (hd : ∀ j, j < C.size → D[j]? = if o ≤ j ∧ j < o + vs.length then vs[j - o]? else C[j]?) : putCells C o vs = D := by
  apply Array.ext_getElem?
  intro j
  rw [putCells_get vs C o j h]
  by_cases hj : j < C.size
  · rw [hd j hj]
  · rw [if_neg (by omega), Array.getElem?_eq_none (by omega), Array.getElem?_eq_none (by omega)]
theorem putCells_whole {C : Array Value} {vs : List Value} (h : vs.length = C.size) : putCells C 0 vs = vs.toArray := by
  refine putCells_ext (by omega) (by simp [h]) (fun j hj => ?_)
  rw [if_pos (by omega)]; simp

/-! ### a known block behind a step -/
namespace Blk
variable {w : World} {b : Nat} {C : Array Value} {t : TypeId}
theorem lt (h : Blk w b C t) : b < w.heap.size := (Array.getElem?_eq_some_iff.1 h.out).1
theorem new (w : World) (C : Array Value) (t : TypeId) : Blk (w.alloc (.cells C t)) w.heap.size C t := ⟨by rw [hp_alloc, if_pos rfl]⟩
theorem new' (w : World) (C : Array Value) (t : TypeId) (b : Nat) (h : b = w.heap.size) : Blk (w.alloc (.cells C t)) b C t := h ▸ new w C t
theorem alloc (h : Blk w b C t) (o : Obj) : Blk (w.alloc o) b C t := ⟨by rw [hp_alloc, if_neg (by have := h.lt; omega)]; exact h.out⟩
theorem drew (h : Blk w b C t) : Blk w.drew b C t := ⟨h.out⟩
theorem drewN (h : Blk w b C t) (n : Nat) : Blk (w.drewN n) b C t := ⟨h.out⟩
theorem drawn (h : Blk w b C t) (n : Nat) : Blk { w with drawn := n } b C t := ⟨h.out⟩
theorem set (h : Blk w b C t) (i : Nat) (v : Value) : Blk (w.setCell ⟨b, i, none⟩ v) b (C.setIfInBounds i v) t := ⟨heap_setCell_same w b i C t v h.out⟩
theorem setOther (h : Blk w b C t) (a : Addr) (v : Value) (hb : b ≠ a.block) : Blk (w.setCell a v) b C t := ⟨by rw [hp_setCell _ _ _ _ hb]; exact h.out⟩
theorem puts' (b : Nat) (t : TypeId) : ∀ (vs : List Value) (w : World) (C : Array Value) (o : Nat), Blk w b C t → Blk (w.setCells b o vs) b (putCells C o vs) t
  | [], _, _, _, h => h
  | v :: r, w, C, o, h => puts' b t r (w.setCell ⟨b, o, none⟩ v) (C.setIfInBounds o v) (o + 1) (h.set o v)
theorem puts (h : Blk w b C t) (o : Nat) (vs : List Value) : Blk (w.setCells b o vs) b (putCells C o vs) t := puts' b t vs w C o h
theorem putsOther (h : Blk w b C t) (g o : Nat) (vs : List Value) (hb : b ≠ g) : Blk (w.setCells g o vs) b C t := ⟨by rw [hp_setCells g vs w o b hb]; exact h.out⟩
theorem cell (h : Blk w b C t) {i : Nat} {v : Value} (hv : C[i]? = some v) : w.cell? ⟨b, i, none⟩ = some v := by rw [cell_of_row w b i C t (0, 0) h.out]; exact hv
theorem free (h : Blk w b C t) (i : Nat) : w.frozen? ⟨b, i, none⟩ = false := frozen_of_row w b i C t h.out
theorem mods {w' : World} {S : Nat → Prop} (h : Blk w b C t) (m : Mods w w' S) (hb : ¬ S b) : Blk w' b C t := ⟨by rw [m.block b h.lt hb]; exact h.out⟩
theorem below {w' : World} {B : Nat} (h : Blk w b C t) (m : Below B w w') (hb : b < B) : Blk w' b C t := ⟨by rw [m.block b hb]; exact h.out⟩
theorem range (h : Blk w b C t) (o n : Nat) : w.rangeAt b o (C.extract o (o + n)).toList := World.rangeAt_of_block h.out o n
theorem rangeWhole (h : Blk w b C t) : w.rangeAt b 0 C.toList := fun j v hv => by rw [Nat.zero_add]; exact h.cell (by simpa using hv)
theorem rangeIn (h : Blk w b C t) {o : Nat} {cs : List Value} (hc : ∀ j, j < cs.length → C[o + j]? = cs[j]?) : w.rangeAt b o cs := fun j v hv => h.cell (by rw [hc j (List.getElem?_eq_some_iff.1 hv).1]; exact hv)
theorem there (h : Blk w b C t) {o n : Nat} (hn : o + n ≤ C.size) : w.there b o n := fun j hj =>
  ⟨by rw [h.cell (Array.getElem?_eq_getElem (show o + j < C.size by omega))]; rfl, h.free _⟩
theorem congr (h : Blk w b C t) {D : Array Value} (e : C = D) : Blk w b D t := e ▸ h
end Blk

namespace Mods
variable {w w1 w2 : World} {S T : Nat → Prop}
theorem refl (w : World) (S : Nat → Prop) : Mods w w S := ⟨rfl, rfl, rfl, Nat.le_refl _, fun _ _ _ => rfl⟩
theorem trans (h : Mods w w1 S) (k : Mods w1 w2 S) : Mods w w2 S :=
  ⟨k.os.trans h.os, k.tape.trans h.tape, k.output.trans h.output, Nat.le_trans h.size k.size, fun i hi hs => (k.block i (Nat.lt_of_lt_of_le hi h.size) hs).trans (h.block i hi hs)⟩
/-- behind a step that may also have turned blocks that were not there at first -/
theorem andThen (h : Mods w w1 S) (k : Mods w1 w2 T) (hT : ∀ i, i < w.heap.size → T i → S i) : Mods w w2 S :=
  ⟨k.os.trans h.os, k.tape.trans h.tape, k.output.trans h.output, Nat.le_trans h.size k.size, fun i hi hs => (k.block i (Nat.lt_of_lt_of_le hi h.size) (fun ht => hs (hT i hi ht))).trans (h.block i hi hs)⟩
theorem mono (h : Mods w w1 S) (hT : ∀ i, S i → T i) : Mods w w1 T := ⟨h.os, h.tape, h.output, h.size, fun i hi hs => h.block i hi (fun h' => hs (hT i h'))⟩
theorem alloc (h : Mods w w1 S) (o : Obj) : Mods w (w1.alloc o) S :=
  ⟨h.os, h.tape, h.output, by rw [sz_alloc]; have := h.size; omega, fun i hi hs => by rw [hp_alloc, if_neg (by have := h.size; omega)]; exact h.block i hi hs⟩
theorem drew (h : Mods w w1 S) : Mods w w1.drew S := ⟨h.os, h.tape, h.output, h.size, h.block⟩
theorem drewN (h : Mods w w1 S) (n : Nat) : Mods w (w1.drewN n) S := ⟨h.os, h.tape, h.output, h.size, h.block⟩
theorem set (h : Mods w w1 S) (a : Addr) (v : Value) (ha : a.block < w.heap.size → S a.block) : Mods w (w1.setCell a v) S :=
  ⟨h.os, h.tape, h.output, by rw [sz_setCell]; exact h.size, fun i hi hs => by rw [hp_setCell _ _ _ _ (fun e => hs (by subst e; exact ha hi))]; exact h.block i hi hs⟩
theorem sets (g o : Nat) : ∀ (vs : List Value) {w w1 : World}, Mods w w1 S → (g < w.heap.size → S g) → Mods w (w1.setCells g o vs) S := by
  intro vs w w1 h hg
  refine ⟨?_, ?_, ?_, by rw [sz_setCells]; exact h.size, fun i hi hs => by rw [hp_setCells g vs w1 o i (fun e => hs (by subst e; exact hg hi))]; exact h.block i hi hs⟩
  · have : ∀ (vs : List Value) (w : World) (o : Nat), (w.setCells g o vs).os = w.os := by
      intro vs; induction vs with
      | nil => intro _ _; rfl
      | cons v r ih => intro w o; rw [World.setCells, ih]; rfl
    rw [this]; exact h.os
  · have : ∀ (vs : List Value) (w : World) (o : Nat), (w.setCells g o vs).tape = w.tape := by
      intro vs; induction vs with
      | nil => intro _ _; rfl
      | cons v r ih => intro w o; rw [World.setCells, ih]; rfl
    rw [this]; exact h.tape
  · have : ∀ (vs : List Value) (w : World) (o : Nat), (w.setCells g o vs).output = w.output := by
      intro vs; induction vs with
      | nil => intro _ _; rfl
      | cons v r ih => intro w o; rw [World.setCells, ih]; rfl
    rw [this]; exact h.output
theorem below (h : Mods w w1 S) {B : Nat} (hB : B ≤ w.heap.size) (hS : ∀ i, i < B → ¬ S i) : Below B w w1 := ⟨h.os, h.tape, h.output, h.size, fun k hk => h.block k (by omega) (hS k hk)⟩
theorem of_below (h : Below w.heap.size w w1) (S : Nat → Prop) : Mods w w1 S := ⟨h.os, h.tape, h.output, h.size, fun i hi _ => h.block i hi⟩
theorem of_below' {B : Nat} (h : Below B w w1) : Mods w w1 (fun i => B ≤ i) := ⟨h.os, h.tape, h.output, h.size, fun i _ hs => h.block i (by omega)⟩
theorem of_grown {row : Option Nat} (h : w.grownBy w1 row) : Mods w w1 (fun i => some i = row) := ⟨h.os, h.tape, h.output, h.size, fun i hi hs => h.block i hi hs⟩
end Mods

/-- of what was there nothing has turned -/
abbrev Ext (w w' : World) : Prop := Below w.heap.size w w'
theorem Ext.go {w w1 w2 : World} (h : Ext w w1) (k : Ext w1 w2) : Ext w w2 := h.trans (k.mono h.size)
theorem Ext.drewN {w w1 : World} (h : Ext w w1) (n : Nat) : Ext w (w1.drewN n) := ⟨h.os, h.tape, h.output, h.size, h.block⟩
theorem Ext.alloc {w w1 : World} (h : Ext w w1) (o : Obj) : Ext w (w1.alloc o) := Below.alloc h h.size o

theorem Ext.setCell {w w1 : World} (h : Ext w w1) {p : Addr} (hp : w.heap.size ≤ p.block) (u : Value) : Ext w (w1.setCell p u) := Below.setCell h hp u
theorem Ext.setCells {w w1 : World} (h : Ext w w1) (g o : Nat) (hg : w.heap.size ≤ g) (vs : List Value) : Ext w (w1.setCells g o vs) :=
  ((Mods.of_below h (fun _ => False)).sets g o vs (fun h => by omega)).below (Nat.le_refl _) (fun _ _ h => h)
theorem Ext.drew {w w1 : World} (h : Ext w w1) : Ext w w1.drew := Below.drew h
theorem Ext.mods {w w1 w2 : World} {S : Nat → Prop} (h : Ext w w1) (m : Mods w1 w2 S) (hS : ∀ i, i < w.heap.size → ¬ S i) : Ext w w2 :=
  ((Mods.of_below h S).trans m).below (Nat.le_refl _) hS

/-! ### whole values out of, and into, the midst of a block -/
section
variable {P : Program} {ops : Array Oper} {rest : List Oper} {op : Oper} {a : Act} {w : World} {Q : Exit → Act → World → Prop}
/-- a value of several cells is read out of a known block -/
theorem wpList_load_blk (hgd : op.guard = none) (ty : TypeId) (x : Operand) (ho : op.op = .load ty x) (b o : Nat) (hx : a.eval x = .pointer (some ⟨b, o, none⟩)) (cs : List Value) (d : TypeDesc)
    {C : Array Value} {t : TypeId} (hb : Blk w b C t) (hc : ∀ j, j < cs.length → C[o + j]? = cs[j]?) (hu : P.underlying ty = some d) (hd : d.isRow = true) (hi : (P.info? ty).map (·.size) = some cs.length)
    (h : wpList P ops Q rest (a.put op.dst (.agg cs.toArray)) w) : wpList P ops Q (op :: rest) a w :=
  wpList_load_mid hgd ty x ho b o hx cs d (hb.rangeIn hc) hu hd hi h
/-- a value of several cells is written into a known block -/
theorem wpList_store_blk (hgd : op.guard = none) (ty : TypeId) (x y : Operand) (ho : op.op = .store ty x y) (b o : Nat) (cells : Array Value) (hx : a.eval x = .pointer (some ⟨b, o, none⟩)) (hy : a.eval y = .agg cells)
    {C : Array Value} {t : TypeId} (hb : Blk w b C t) (hn : o + cells.size ≤ C.size) (hi : (P.info? ty).map (·.size) = some cells.size) (h1 : cells.all (·.oneCell') = true)
    (h : wpList P ops Q rest (a.put op.dst undef) (w.setCells b o cells.toList)) : wpList P ops Q (op :: rest) a w :=
  wpList_store_mid hgd ty x y ho b o cells hx hy (hb.there hn) hi h1 h
/-- .. and the world behind it goes by a name of its own: what is known of it is what it was for -/
theorem wpList_store_new (hgd : op.guard = none) (ty : TypeId) (x y : Operand) (ho : op.op = .store ty x y) (b o : Nat) (cells : Array Value) (hx : a.eval x = .pointer (some ⟨b, o, none⟩)) (hy : a.eval y = .agg cells)
    {C : Array Value} {t : TypeId} (hb : Blk w b C t) (hn : o + cells.size ≤ C.size) (hi : (P.info? ty).map (·.size) = some cells.size) (h1 : cells.all (·.oneCell') = true)
    (h : ∀ w1, Blk w1 b (putCells C o cells.toList) t → (∀ k D u, k ≠ b → Blk w k D u → Blk w1 k D u) → Mods w w1 (· = b) → wpList P ops Q rest (a.put op.dst undef) w1) : wpList P ops Q (op :: rest) a w :=
  wpList_store_blk hgd ty x y ho b o cells hx hy hb hn hi h1 (h _ (hb.puts o _) (fun _ _ _ hk hB => hB.putsOther b o _ hk) ((Mods.refl w _).sets b o _ (fun _ => rfl)))
end

/-! ### a string's iterator, wherever it lies -/
structure Itr (w : World) (r : Nat) (s : ByteArray) (pos : Nat) : Prop where mk :: (out : w.heap[r]? = some (.stringIter s pos))
def stepIter (w : World) (r : Nat) (s : ByteArray) (pos : Nat) : World := { w with heap := w.heap.setIfInBounds r (.stringIter s pos) }
theorem sz_stepIter (w : World) (r : Nat) (s : ByteArray) (pos : Nat) : (stepIter w r s pos).heap.size = w.heap.size := by simp [stepIter]
theorem hp_stepIter (w : World) (r : Nat) (s : ByteArray) (pos k : Nat) (h : k ≠ r) : (stepIter w r s pos).heap[k]? = w.heap[k]? := by
  simp [stepIter, Array.getElem?_setIfInBounds, Ne.symm h]
namespace Itr
variable {w : World} {r : Nat} {s : ByteArray} {pos : Nat}
theorem lt (h : Itr w r s pos) : r < w.heap.size := (Array.getElem?_eq_some_iff.1 h.out).1
theorem new (w : World) (s : ByteArray) (pos : Nat) : Itr (w.iter s pos) w.heap.size s pos := ⟨w.iter_heap s pos⟩
theorem step (h : Itr w r s pos) (p : Nat) : Itr (stepIter w r s p) r s p := ⟨by simp [stepIter, h.lt]⟩
theorem alloc (h : Itr w r s pos) (o : Obj) : Itr (w.alloc o) r s pos := ⟨by rw [hp_alloc, if_neg (by have := h.lt; omega)]; exact h.out⟩
theorem drew (h : Itr w r s pos) : Itr w.drew r s pos := ⟨h.out⟩
theorem drewN (h : Itr w r s pos) (n : Nat) : Itr (w.drewN n) r s pos := ⟨h.out⟩
theorem setOther (h : Itr w r s pos) (a : Addr) (v : Value) (hb : r ≠ a.block) : Itr (w.setCell a v) r s pos := ⟨by rw [hp_setCell _ _ _ _ hb]; exact h.out⟩
theorem mods {w' : World} {S : Nat → Prop} (h : Itr w r s pos) (m : Mods w w' S) (hb : ¬ S r) : Itr w' r s pos := ⟨by rw [m.block r h.lt hb]; exact h.out⟩
theorem ext {w' : World} (h : Itr w r s pos) (m : Below w.heap.size w w') : Itr w' r s pos := ⟨by rw [m.block r h.lt]; exact h.out⟩
theorem position (h : Itr w r s pos) : w.iterPos r = pos := by simp [World.iterPos, h.out]
theorem next {P : Program} (h : Itr w r s pos) (hlt : pos < s.size) (ty : TypeId) :
    (Instr.next (.pointer (some ⟨r, 0, none⟩)) true ty).run P w = .ok (.tuple #[.bool true, .int .i64 pos, .int .i32 (Utf8.decode s pos).1]) (stepIter w r s (pos + (Utf8.decode s pos).2)) := by
  simp [Instr.next, getObj, setObj, Sem.run_bind, Sem.run, h.out, Result.andThen, hlt, goInt, stepIter]
theorem next_end {P : Program} (h : Itr w r s pos) (hlt : ¬ pos < s.size) (ty : TypeId) :
    (Instr.next (.pointer (some ⟨r, 0, none⟩)) true ty).run P w = .ok (.tuple #[.bool false]) w := by
  simp [Instr.next, getObj, Sem.run_bind, Sem.run, h.out, Result.andThen, hlt]
end Itr
theorem Blk.stepOther {w : World} {b : Nat} {C : Array Value} {t : TypeId} (h : Blk w b C t) (r : Nat) (s : ByteArray) (p : Nat) (hb : b ≠ r) : Blk (stepIter w r s p) b C t := ⟨by rw [hp_stepIter _ _ _ _ _ hb]; exact h.out⟩
theorem Ext.step {w w1 : World} (h : Ext w w1) (r : Nat) (s : ByteArray) (p : Nat) (hr : w.heap.size ≤ r) : Ext w (stepIter w1 r s p) :=
  ⟨h.os, h.tape, h.output, by rw [sz_stepIter]; exact h.size, fun i hi => by rw [hp_stepIter _ _ _ _ _ (by omega)]; exact h.block i hi⟩

/-! ### results that lie in memory -/
theorem run_asAddr (P : Program) (w : World) (a : Addr) : (asAddr (.pointer (some a))).run P w = .ok a w := rfl
theorem loadVar_blk {P : Program} {w : World} {b : Nat} {C : Array Value} {t ty : TypeId} {d : TypeDesc} (hb : Blk w b C t) (hu : P.underlying ty = some d) (hd : d.isRow = true) (hi : (P.info? ty).map (·.size) = some C.size) :
    (loadVar ty ⟨b, 0, none⟩).run P w = .ok (.agg C) w := by
  have := run_loadVar_mid (P := P) w b 0 ty C.toList d hb.rangeWhole hu hd (by simpa using hi)
  simpa using this
theorem results_cell1 {P : Program} {fn : Func} {p : Tmp} {t1 : TypeId} (h : fn.results = #[.cell p t1]) (tmps : Array Value) (w : World) {b1 : Nat} {C1 : Array Value} {e1 : TypeId} {d1 : TypeDesc}
    (hp : tmps.getD p undef = .pointer (some ⟨b1, 0, none⟩)) (h1 : Blk w b1 C1 e1) (hu1 : P.underlying t1 = some d1) (hd1 : d1.isRow = true) (hi1 : (P.info? t1).map (·.size) = some C1.size) :
    (results fn tmps).run P w = .ok (.agg C1) w := by
  have hp' : tmps[p]?.getD undef = .pointer (some ⟨b1, 0, none⟩) := by simpa using hp
  simp [results, h, hp', run_asAddr, loadVar_blk h1 hu1 hd1 hi1]
theorem results_cell2 {P : Program} {fn : Func} {p q : Tmp} {t1 t2 : TypeId} (h : fn.results = #[.cell p t1, .cell q t2]) (tmps : Array Value) (w : World) {b1 b2 : Nat} {C1 C2 : Array Value} {e1 e2 : TypeId} {d1 d2 : TypeDesc}
    (hp : tmps.getD p undef = .pointer (some ⟨b1, 0, none⟩)) (hq : tmps.getD q undef = .pointer (some ⟨b2, 0, none⟩)) (h1 : Blk w b1 C1 e1) (h2 : Blk w b2 C2 e2)
    (hu1 : P.underlying t1 = some d1) (hd1 : d1.isRow = true) (hi1 : (P.info? t1).map (·.size) = some C1.size)
    (hu2 : P.underlying t2 = some d2) (hd2 : d2.isRow = true) (hi2 : (P.info? t2).map (·.size) = some C2.size) :
    (results fn tmps).run P w = .ok (.tuple #[.agg C1, .agg C2]) w := by
  have hp' : tmps[p]?.getD undef = .pointer (some ⟨b1, 0, none⟩) := by simpa using hp
  have hq' : tmps[q]?.getD undef = .pointer (some ⟨b2, 0, none⟩) := by simpa using hq
  simp [results, h, hp', hq', run_asAddr, loadVar_blk h1 hu1 hd1 hi1, loadVar_blk h2 hu2 hd2 hi2]
theorem results_cell_tmp' {P : Program} {fn : Func} {p u : Tmp} {t1 : TypeId} (h : fn.results = #[.cell p t1, .tmp u]) (tmps : Array Value) (w : World) {b1 : Nat} {C1 : Array Value} {e1 : TypeId} {d1 : TypeDesc}
    (hp : tmps.getD p undef = .pointer (some ⟨b1, 0, none⟩)) (h1 : Blk w b1 C1 e1) (hu1 : P.underlying t1 = some d1) (hd1 : d1.isRow = true) (hi1 : (P.info? t1).map (·.size) = some C1.size) :
    (results fn tmps).run P w = .ok (.tuple #[.agg C1, tmps.getD u undef]) w := by
  have hp' : tmps[p]?.getD undef = .pointer (some ⟨b1, 0, none⟩) := by simpa using hp
  simp [results, h, hp', run_asAddr, loadVar_blk h1 hu1 hd1 hi1]

end Go.Proofs.YtigfkfjlfpndfaaGreatDoor
