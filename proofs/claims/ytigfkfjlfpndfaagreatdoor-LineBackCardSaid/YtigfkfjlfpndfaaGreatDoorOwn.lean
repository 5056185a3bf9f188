/-
  Slices that a call has made itself, by what they hold; append, and string(b).
-/
import Derived.Test.YtigfkfjlfpndfaaGreatDoorMem
import Derived.Laws.AppendOwn
import Derived.Laws.BytesArg
import Derived.ChangeKeysEq
namespace Go.Proofs.YtigfkfjlfpndfaaGreatDoor
open Go.RowKit

/-- v is a slice of one-cell elements, in a block from B on, and holds xs -/
structure Own (w : World) (B : Nat) (e : TypeId) (v : Value) (xs : List Value) : Prop where mk :: (out : w.ownsRow B e 1 v xs.length xs)

theorem Mods.extends {w w' : World} (h : Ext w w') : w.Extends w' :=
  ⟨h.os, h.tape, h.output, h.size, fun a ha => World.cell?_of_block (h.block a.block ha), fun a ha => World.frozen?_of_block (h.block a.block ha), h.block⟩

namespace Own
variable {w w' : World} {B : Nat} {e : TypeId} {v : Value} {xs : List Value}
theorem nil (w : World) (B : Nat) (e : TypeId) : Own w B e (.slice none 0 0) [] := ⟨World.ownsRow_nil w B e 1⟩
theorem lt (h : Own w B e v xs) : ∀ k, v.ownBlock = some k → B ≤ k ∧ k < w.heap.size := h.out.lt
theorem form (h : Own w B e v xs) : (v = .slice none 0 0 ∧ xs = []) ∨ ∃ g cap C, v = .slice (some ⟨g, 0, none⟩) xs.length cap ∧ B ≤ g ∧ Blk w g C e ∧ xs.length ≤ cap ∧ C.size = cap ∧ C.toList.take xs.length = xs := by
  rcases h.out.2 with ⟨h1, h2⟩ | ⟨g, cap, cur, h1, h2, h3, h4, _, h6, h7⟩
  · exact .inl ⟨h1, List.length_eq_zero_iff.1 h2⟩
  · exact .inr ⟨g, cap, cur, h1, h2, ⟨h3⟩, h4, by omega, by rw [Nat.mul_one] at h7; exact h7⟩
theorem mods {S : Nat → Prop} (h : Own w B e v xs) (m : Mods w w' S) (hS : ∀ k, v.ownBlock = some k → ¬ S k) : Own w' B e v xs := by
  refine ⟨h.out.1, ?_⟩
  rcases h.out.2 with h1 | ⟨g, cap, cur, h1, h2, h3, h4⟩
  · exact .inl h1
  · have hg : g < w.heap.size := (Array.getElem?_eq_some_iff.1 h3).1
    exact .inr ⟨g, cap, cur, h1, h2, by rw [m.block g hg (hS g (by rw [h1]; rfl))]; exact h3, h4⟩
theorem ext (h : Own w B e v xs) (m : Ext w w') : Own w' B e v xs := h.mods (Mods.of_below m (fun _ => False)) (fun _ _ h => h)
theorem alloc (h : Own w B e v xs) (o : Obj) : Own (w.alloc o) B e v xs := h.ext ((Below.refl _ w).alloc (Nat.le_refl _) o)
theorem drew (h : Own w B e v xs) : Own w.drew B e v xs := h.ext (Ext.drew (Below.refl _ w))
theorem drewN (h : Own w B e v xs) (n : Nat) : Own (w.drewN n) B e v xs := h.ext (Ext.drewN (Below.refl _ w) n)
theorem setOther (h : Own w B e v xs) (a : Addr) (u : Value) (ha : a.block < B) : Own (w.setCell a u) B e v xs :=
  h.mods (S := fun k => k = a.block) ((Mods.refl w _).set a u (fun _ => rfl)) (fun k hk e => by have := (h.lt k hk).1; omega)
theorem mono {B' : Nat} (h : Own w B e v xs) (hb : B' ≤ B) : Own w B' e v xs := by
  refine ⟨h.out.1, ?_⟩
  rcases h.out.2 with h1 | ⟨g, cap, cur, h1, h2, h3⟩
  · exact .inl h1
  · exact .inr ⟨g, cap, cur, h1, by omega, h3⟩
/-- string(b) -/
theorem toStr {l : List UInt8} (h : Own w B e v (l.map fun c => Value.int .u8 (c.toNat : Int))) {P : Program} (src dst : TypeId) (hs : P.underlying src = some (.slice e)) (he : P.underlying e = some (.int .u8)) (hd : P.underlying dst = some .string) :
    (convert src dst v).run P w = .ok (.string ⟨l.toArray⟩) w := by
  rcases h.form with ⟨h1, h2⟩ | ⟨g, cap, C, h1, _, hb, hc, hC, ht⟩
  · subst h1
    have : l = [] := by simpa using h2
    subst this
    exact run_convert_bytes_nil w src e hs he 0 0 dst hd
  · subst h1
    rw [run_convert_bytes_arg w src e hs he g 0 _ cap (l.map fun c => (c.toNat : Int)) (by simp) (fun i hi => by
      have hi' : i < l.length := by simpa using hi
      rw [Nat.zero_add]
      refine hb.cell ?_
      have h0 : (C.toList.take (l.map fun c => Value.int .u8 (c.toNat : Int)).length)[i]? = (l.map fun c => Value.int .u8 (c.toNat : Int))[i]? := by rw [ht]
      rw [List.getElem?_take_of_lt hi] at h0
      rw [Array.getElem?_toList] at h0
      rw [h0]
      simp [hi', List.getD]) dst hd]
    congr 2
    unfold strOfNums
    simp only [List.map_map]
    congr 1
    have : l.map ((fun n : Int => UInt8.ofNat n.toNat) ∘ fun c : UInt8 => (c.toNat : Int)) = l := by
      conv => rhs; rw [← List.map_id l]
      apply List.map_congr_left
      intro x _
      simp
    simp [this]
end Own

/-- a[i] of an array's value -/
theorem run_index_arr {P : Program} (t e : TypeId) (n : Nat) (cs : Array Value) (k : IntKind) (i : Int) (v : Value) (h : P.underlying t = some (.array n e)) (he : P.plainKey e = true) (hs : P.cellsOf e = 1) (h0 : 0 ≤ i) (hi : i < (n : Int)) (hv : cs[i.toNat]? = some v) (w : World) :
    (Instr.index t (.agg cs) (.int k i)).run P w = .ok v w := by
  have hpu : ∃ d, P.underlying e = some d := by
    unfold Program.plainKey at he
    cases hu : P.underlying e with
    | none => simp [hu] at he
    | some d => exact ⟨d, rfl⟩
  obtain ⟨d, hd⟩ := hpu
  obtain ⟨ie, hie⟩ := info_of_underlying hd
  simp [Instr.index, run_underlying h, asIntOf, h0, hi, run_sizeOf w hie, hs, run_part_plain w he hv]

/-- what append asks of a type of elements of one cell -/
structure Elem1 (P : Program) (t e : TypeId) (bytes : Nat) : Prop where
  und : P.underlying t = some (.slice e)
  info : (P.info? e).map (fun i => (i.size, i.bytes, i.zero.map (·.cells.size))) = some (1, bytes, some 1)

section
variable {P : Program} {ops : Array Oper} {rest : List Oper} {op : Oper} {a : Act} {w : World} {Q : Exit → Act → World → Prop}
/-- append of what lies in a known block -/
theorem wpList_app (hgd : op.guard = none) (s x : Operand) (t : TypeId) (ho : op.op = .call { callee := .builtin .append, args := #[s, x], argTypes := #[t, t] })
    {B : Nat} {e : TypeId} {bytes : Nat} (E : Elem1 P t e bytes) {v : Value} {xs : List Value} (hs : a.eval s = v) (hown : Own w B e v xs)
    {g o c m : Nat} {news : List Value} {C : Array Value} {u : TypeId} (hx : a.eval x = .slice (some ⟨g, o, none⟩) m c) (hm : news.length = m) (hb : Blk w g C u) (hn : ∀ j, j < news.length → C[o + j]? = news[j]?)
    (h1 : ∀ y ∈ news, y.oneCell' = true) (hbytes : (xs.length + news.length) * bytes ≤ 140737488355328) (h63 : xs.length + news.length ≤ maxLen) (hbase : B ≤ w.heap.size)
    (h : ∀ v' w', Own w' B e v' (xs ++ news) → Mods w w' (fun k => some k = v.ownBlock) → wpList P ops Q rest (a.put op.dst v') w') : wpList P ops Q (op :: rest) a w := by
  subst hm
  obtain ⟨hu, hi⟩ := E
  cases hie : P.info? e with
  | none => simp [hie] at hi
  | some i =>
    simp only [hie, Option.map_some, Option.some.injEq, Prod.mk.injEq] at hi
    obtain ⟨h2, h3, h4⟩ := hi
    cases hz : i.zero with
    | none => simp [hz] at h4
    | some z =>
      simp only [hz, Option.map_some, Option.some.injEq] at h4
      refine wpList_append_own w hgd s x t ho B e i z 1 bytes hu hie hz h2 h3 h4 (by omega) v xs.length xs hs hown.out ⟨g, o, none⟩ news.length c news hx (by omega) (fun j y hy => ?_) h1 h63 hbytes hbase fun v' w' h5 h6 _ => h v' w' ⟨by rw [List.length_append]; exact h5⟩ (Mods.of_grown h6)
      have hj : j < news.length := (List.getElem?_eq_some_iff.1 hy).1
      have hadd : (⟨g, o, none⟩ : Addr).add j = ⟨g, o + j, none⟩ := by unfold Addr.add; split <;> simp_all
      rw [hadd]
      exact hb.cell (by rw [hn j hj]; exact hy)
/-- .. at a step of a region that draws its order -/
theorem step_app {K : Act → World → Prop} {E : Prop} (hgd : op.guard = none) (s x : Operand) (t : TypeId) (ho : op.op = .call { callee := .builtin .append, args := #[s, x], argTypes := #[t, t] })
    {B : Nat} {e : TypeId} {bytes : Nat} (El : Elem1 P t e bytes) {v : Value} {xs : List Value} (hs : a.eval s = v) (hown : Own w B e v xs)
    {g o c m : Nat} {news : List Value} {C : Array Value} {u : TypeId} (hx : a.eval x = .slice (some ⟨g, o, none⟩) m c) (hm : news.length = m) (hb : Blk w g C u) (hn : ∀ j, j < news.length → C[o + j]? = news[j]?)
    (h1 : ∀ y ∈ news, y.oneCell' = true) (hbytes : (xs.length + news.length) * bytes ≤ 140737488355328) (h63 : xs.length + news.length ≤ maxLen) (hbase : B ≤ w.heap.size)
    (h : ∀ v' w', Own w' B e v' (xs ++ news) → Mods w w' (fun k => some k = v.ownBlock) → K (a.put op.dst v') w') :
    if Region.wanted op (yielded ops a.tmps) = true then Oper.wp P op a w K Q else E := by
  have hw : Region.wanted op (yielded ops a.tmps) = true := by simp [Region.wanted, hgd]
  rw [if_pos hw]
  subst hm
  obtain ⟨hu, hi⟩ := El
  cases hie : P.info? e with
  | none => simp [hie] at hi
  | some i =>
    simp only [hie, Option.map_some, Option.some.injEq, Prod.mk.injEq] at hi
    obtain ⟨h2, h3, h4⟩ := hi
    cases hz : i.zero with
    | none => simp [hz] at h4
    | some z =>
      simp only [hz, Option.map_some, Option.some.injEq] at h4
      refine wp_append_own w s x t ho B e i z 1 bytes hu hie hz h2 h3 h4 (by omega) v xs.length xs hs hown.out ⟨g, o, none⟩ news.length c news hx (by omega) (fun j y hy => ?_) h1 h63 hbytes hbase fun v' w' h5 h6 _ => h v' w' ⟨by rw [List.length_append]; exact h5⟩ (Mods.of_grown h6)
      have hj : j < news.length := (List.getElem?_eq_some_iff.1 hy).1
      have hadd : (⟨g, o, none⟩ : Addr).add j = ⟨g, o + j, none⟩ := by unfold Addr.add; split <;> simp_all
      rw [hadd]
      exact hb.cell (by rw [hn j hj]; exact hy)
end
theorem own_mods_ext {w0 w w' : World} {B : Nat} {e : TypeId} {v : Value} {xs : List Value} (hown : Own w B e v xs) (hB : w0.heap.size ≤ B) (hx : Ext w0 w) (hm : Mods w w' (fun k => some k = v.ownBlock)) : Ext w0 w' :=
  hx.mods hm fun i hi hk => by have := (hown.lt i hk.symm).1; omega
theorem Blk.app {w w' : World} {b B : Nat} {C : Array Value} {t e : TypeId} {v : Value} {xs : List Value} (h : Blk w b C t) (hown : Own w B e v xs) (hm : Mods w w' (fun k => some k = v.ownBlock)) (hb : b < B) : Blk w' b C t :=
  h.mods hm fun hk => by have := (hown.lt b hk.symm).1; omega

end Go.Proofs.YtigfkfjlfpndfaaGreatDoor
