/-
  What is known of memory, as one list: blocks, slices of the call's own, iterators; and what each step makes of it.
-/
import Derived.Test.YtigfkfjlfpndfaaGreatDoorOwn
import Derived.BigFrame
namespace Go.Proofs.YtigfkfjlfpndfaaGreatDoor
open Go.RowKit

/-- the block of a slice that has elements -/
def sliceAt : Value → Option Nat
  | .slice (some a) (_ + 1) _ => some a.block
  | _ => none
/-- a slice that reads as xs, in a block from B on (or with no elements) -/
def Rd (w : World) (B : Nat) (v : Value) (xs : List Value) : Prop :=
  (∃ a c, v = .slice a 0 c ∧ xs = []) ∨ ∃ g o c C t, v = .slice (some ⟨g, o, none⟩) xs.length c ∧ B ≤ g ∧ Blk w g C t ∧ ∀ j, j < xs.length → C[o + j]? = xs[j]?
namespace Rd
variable {w w' : World} {B : Nat} {v : Value} {xs : List Value}
theorem one (h : Rd w B v xs) : v.oneCell' = true := by
  rcases h with ⟨a, c, rfl, _⟩ | ⟨g, o, c, C, t, rfl, _⟩ <;> rfl
theorem mono {B' : Nat} (h : Rd w B v xs) (hb : B' ≤ B) : Rd w B' v xs := by
  rcases h with h | ⟨g, o, c, C, t, h1, h2, h3⟩
  · exact .inl h
  · exact .inr ⟨g, o, c, C, t, h1, by omega, h3⟩
theorem lt (h : Rd w B v xs) : ∀ k, sliceAt v = some k → B ≤ k ∧ k < w.heap.size := by
  intro k hk
  rcases h with ⟨a, c, rfl, _⟩ | ⟨g, o, c, C, t, rfl, h2, h3, _⟩
  · cases a <;> cases hk
  · cases hn : xs.length with
    | zero => rw [hn] at hk; cases hk
    | succ n => rw [hn] at hk; injection hk with hk; subst hk; exact ⟨h2, h3.lt⟩
theorem mods {S : Nat → Prop} (h : Rd w B v xs) (m : Mods w w' S) (hS : ∀ k, sliceAt v = some k → ¬ S k) : Rd w' B v xs := by
  rcases h with h | ⟨g, o, c, C, t, rfl, h2, h3, h4⟩
  · exact .inl h
  · cases hn : xs.length with
    | zero => exact .inl ⟨_, _, rfl, List.length_eq_zero_iff.1 hn⟩
    | succ n => exact .inr ⟨g, o, c, C, t, by rw [hn], h2, h3.mods m (hS g (by rw [hn]; rfl)), h4⟩
theorem ext (h : Rd w B v xs) (m : Ext w w') : Rd w' B v xs := h.mods (Mods.of_below m (fun _ => False)) (fun _ _ h => h)
theorem nil (w : World) (B : Nat) : Rd w B (.slice none 0 0) [] := .inl ⟨none, 0, rfl, rfl⟩
theorem ofOwn {e : TypeId} (h : Own w B e v xs) : Rd w B v xs := by
  rcases h.form with ⟨h1, h2⟩ | ⟨g, cap, C, h1, h2, h3, _, _, h6⟩
  · exact .inl ⟨none, 0, h1, h2⟩
  · refine .inr ⟨g, 0, cap, C, e, h1, h2, h3, fun j hj => ?_⟩
    have h0 : (C.toList.take xs.length)[j]? = xs[j]? := by rw [h6]
    rw [List.getElem?_take_of_lt hj, Array.getElem?_toList] at h0
    rw [Nat.zero_add, h0]
end Rd

/-- a thing that lies in memory; 'own': it may be written -/
inductive Ent where
  | blk (own : Bool) (b : Nat) (C : Array Value) (t : TypeId)
  | row (B : Nat) (e : TypeId) (v : Value) (xs : List Value)
  | itr (r : Nat) (s : ByteArray) (p : Nat)
  | rd (B : Nat) (v : Value) (xs : List Value)

namespace Ent
def own : Ent → Bool | .blk o _ _ _ => o | .rd _ _ _ => false | _ => true
def at_ : Ent → Option Nat | .blk _ b _ _ => some b | .row _ _ v _ => v.ownBlock | .itr r _ _ => some r | .rd _ v _ => sliceAt v
def holds (w : World) : Ent → Prop | .blk _ b C t => Blk w b C t | .row B e v xs => Own w B e v xs | .itr r s p => Itr w r s p | .rd B v xs => Rd w B v xs
theorem stays {w w' : World} {S : Nat → Prop} (m : Mods w w' S) : ∀ {x : Ent}, x.holds w → (∀ k, x.at_ = some k → ¬ S k) → x.holds w'
  | .blk _ b _ _, h, hs => Blk.mods h m (hs b rfl)
  | .row _ _ v _, h, hs => Own.mods h m (fun k hk => hs k hk)
  | .itr r _ _, h, hs => Itr.mods h m (hs r rfl)
  | .rd _ _ _, h, hs => Rd.mods h m (fun k hk => hs k hk)
theorem lt {w : World} : ∀ {x : Ent}, x.holds w → ∀ k, x.at_ = some k → k < w.heap.size
  | .blk _ _ _ _, h, k, hk => by injection hk with hk; subst hk; exact Blk.lt h
  | .row _ _ _ _, h, k, hk => (Own.lt h k hk).2
  | .itr _ _ _, h, k, hk => by injection hk with hk; subst hk; exact Itr.lt h
  | .rd _ _ _, h, k, hk => (Rd.lt h k hk).2
end Ent

/-- two things that do not lie in one block, or none of which is written -/
def Apart (x y : Ent) : Prop := (x.own = false ∧ y.own = false) ∨ ∀ k, x.at_ = some k → y.at_ ≠ some k
theorem Apart.symm {x y : Ent} (h : Apart x y) : Apart y x := by
  rcases h with ⟨h1, h2⟩ | h
  · exact .inl ⟨h2, h1⟩
  · exact .inr fun k h1 h2 => h k h2 h1

/-- .. replaced in the list -/
inductive Upd : List Ent → Ent → Ent → List Ent → Prop
  | head {x y : Ent} {L : List Ent} : Upd (x :: L) x y (y :: L)
  | tail {x y z : Ent} {L M : List Ent} (h : Upd L x y M) : Upd (z :: L) x y (z :: M)
theorem Upd.mem {L M : List Ent} {x y : Ent} (h : Upd L x y M) : x ∈ L := by
  induction h with
  | head => simp
  | tail _ ih => simp [ih]
theorem Upd.cases' {L M : List Ent} {x y : Ent} (h : Upd L x y M) : ∀ z ∈ M, z = y ∨ z ∈ L := by
  induction h with
  | head => intro z hz; simp at hz ⊢; rcases hz with h | h <;> simp [h]
  | tail _ ih => intro z hz; simp at hz ⊢; rcases hz with h | h
                 · simp [h]
                 · rcases ih z h with h | h <;> simp [h]

/-- the list, open where a thing stands -/
inductive Hole : List Ent → Ent → (Ent → List Ent) → Prop
  | head {x : Ent} {L : List Ent} : Hole (x :: L) x (fun y => y :: L)
  | tail {x z : Ent} {L : List Ent} {F : Ent → List Ent} (h : Hole L x F) : Hole (z :: L) x (fun y => z :: F y)
theorem Hole.upd {L : List Ent} {x : Ent} {F : Ent → List Ent} (h : Hole L x F) (y : Ent) : Upd L x y (F y) := by
  induction h with
  | head => exact Upd.head
  | tail _ ih => exact Upd.tail ih
theorem Hole.mem {L : List Ent} {x : Ent} {F : Ent → List Ent} (h : Hole L x F) : x ∈ L := (h.upd x).mem

/-- what is known of a world: only blocks of S have turned since w0, and these things lie there -/
structure Mem (w0 : World) (S : Nat → Prop) (w : World) (L : List Ent) : Prop where
  mods : Mods w0 w S
  has : ∀ x ∈ L, x.holds w
  apart : L.Pairwise Apart
  mine : ∀ x ∈ L, x.own = true → ∀ k, x.at_ = some k → S k ∨ w0.heap.size ≤ k

/-- nothing may turn -/
def NoS : Nat → Prop := fun _ => False
theorem noS {k : Nat} : ¬ NoS k := fun h => h

namespace Mem
variable {w0 w w' : World} {S T : Nat → Prop} {L M : List Ent}
theorem start (w : World) (S : Nat → Prop) : Mem w S w [] := ⟨Mods.refl w S, by simp, List.Pairwise.nil, by simp⟩
theorem ext0 (h : Mem w0 NoS w L) : Ext w0 w := h.mods.below (Nat.le_refl _) (fun _ _ h => h)
theorem size (h : Mem w0 S w L) : w0.heap.size ≤ w.heap.size := h.mods.size
/-- a further thing, known to lie there -/
theorem add (h : Mem w0 S w L) (x : Ent) (hx : x.holds w) (ha : ∀ y ∈ L, Apart x y) (hm : x.own = true → ∀ k, x.at_ = some k → S k ∨ w0.heap.size ≤ k) : Mem w0 S w (x :: L) :=
  ⟨h.mods, by intro y hy; rcases List.mem_cons.1 hy with rfl | hy; exact hx; exact h.has y hy, List.Pairwise.cons ha h.apart, by
    intro y hy ho; rcases List.mem_cons.1 hy with rfl | hy
    · exact hm ho
    · exact h.mine y hy ho⟩
theorem old (h : Mem w0 S w L) {b : Nat} {C : Array Value} {t : TypeId} (hb : Blk w b C t) (ha : ∀ y ∈ L, y.own = true → y.at_ ≠ some b) : Mem w0 S w (.blk false b C t :: L) :=
  h.add _ hb (fun y hy => by
    cases ho : y.own with
    | false => exact .inl ⟨rfl, ho⟩
    | true => exact .inr fun k hk e => ha y hy ho (by rw [e]; exact hk.symm)) (fun e => by cases e)
theorem ownBlk (h : Mem w0 S w L) {b : Nat} {C : Array Value} {t : TypeId} (hb : Blk w b C t) (hs : S b ∨ w0.heap.size ≤ b) (ha : ∀ y ∈ L, y.at_ ≠ some b) : Mem w0 S w (.blk true b C t :: L) :=
  h.add _ hb (fun y hy => .inr fun k hk e => ha y hy (by rw [e]; exact hk.symm)) (fun _ k hk => by injection hk with hk; subst hk; exact hs)
/-- a nil slice, to be appended to -/
theorem nilRow (h : Mem w0 S w L) (e : TypeId) (B : Nat) : Mem w0 S w (.row B e (.slice none 0 0) [] :: L) :=
  h.add _ (Own.nil _ _ _) (fun y _ => .inr fun k hk => by cases hk) (fun _ k hk => by cases hk)
theorem drop1 {x : Ent} (h : Mem w0 S w (x :: L)) : Mem w0 S w L := ⟨h.mods, fun y hy => h.has y (by simp [hy]), (List.pairwise_cons.1 h.apart).2, fun y hy => h.mine y (by simp [hy])⟩
theorem swap {x y : Ent} (h : Mem w0 S w (x :: y :: L)) : Mem w0 S w (y :: x :: L) := by
  refine ⟨h.mods, fun z hz => h.has z (by simp at hz ⊢; rcases hz with h | h | h <;> simp [h]), ?_, fun z hz => h.mine z (by simp at hz ⊢; rcases hz with h | h | h <;> simp [h])⟩
  have h1 := List.pairwise_cons.1 h.apart
  have h2 := List.pairwise_cons.1 h1.2
  refine List.Pairwise.cons (fun z hz => ?_) (List.Pairwise.cons (fun z hz => h1.1 z (by simp [hz])) h2.2)
  rcases List.mem_cons.1 hz with rfl | hz
  · exact (h1.1 y (by simp)).symm
  · exact h2.1 z hz
theorem rot {x y z : Ent} (h : Mem w0 S w (x :: y :: z :: L)) : Mem w0 S w (y :: z :: x :: L) := by
  have h1 := List.pairwise_cons.1 h.apart
  have h2 := List.pairwise_cons.1 h1.2
  have h3 := List.pairwise_cons.1 h2.2
  have e : ∀ a, a ∈ y :: z :: x :: L → a ∈ x :: y :: z :: L := fun a ha => by
    simp only [List.mem_cons] at ha ⊢
    rcases ha with h | h | h | h <;> simp [h]
  refine ⟨h.mods, fun a ha => h.has a (e a ha), List.Pairwise.cons (fun a ha => ?_) (List.Pairwise.cons (fun a ha => ?_) (List.Pairwise.cons (fun a ha => h1.1 a (by simp [ha])) h3.2)), fun a ha => h.mine a (e a ha)⟩
  · simp only [List.mem_cons] at ha
    rcases ha with rfl | rfl | ha
    · exact h2.1 _ (by simp)
    · exact (h1.1 y (by simp)).symm
    · exact h2.1 a (by simp [ha])
  · rcases List.mem_cons.1 ha with rfl | ha
    · exact (h1.1 z (by simp)).symm
    · exact h3.1 a ha
/-- only some of them -/
theorem sub (h : Mem w0 S w L) (hs : M.Sublist L) : Mem w0 S w M := ⟨h.mods, fun y hy => h.has y (hs.subset hy), h.apart.sublist hs, fun y hy => h.mine y (hs.subset hy)⟩

/-- a step that turns nothing of the list -/
theorem keep (h : Mem w0 S w L) (m : Mods w w' T) (hT : ∀ x ∈ L, ∀ k, x.at_ = some k → ¬ T k) (hS : ∀ k, k < w0.heap.size → T k → S k) : Mem w0 S w' L :=
  ⟨h.mods.andThen m hS, fun x hx => Ent.stays m (h.has x hx) (hT x hx), h.apart, h.mine⟩
theorem ext (h : Mem w0 S w L) (m : Ext w w') : Mem w0 S w' L := h.keep (Mods.of_below m NoS) (fun _ _ _ _ h => h) (fun _ _ h => h.elim)
theorem drew (h : Mem w0 S w L) : Mem w0 S w.drew L := h.ext (Ext.drew (Below.refl _ w))
theorem drewN (h : Mem w0 S w L) (n : Nat) : Mem w0 S (w.drewN n) L := h.ext (Ext.drewN (Below.refl _ w) n)
theorem new (h : Mem w0 S w L) (x : Ent) (m : Ext w w') (hx : x.holds w') (hb : ∀ k, x.at_ = some k → w.heap.size ≤ k) : Mem w0 S w' (x :: L) :=
  (h.ext m).add x hx (fun y hy => .inr fun k hk hy' => by have := Ent.lt (h.has y hy) k hy'; have := hb k hk; omega) (fun _ k hk => .inr (by have := hb k hk; have := h.size; omega))
theorem alloc (h : Mem w0 S w L) (C : Array Value) (t : TypeId) : Mem w0 S (w.alloc (.cells C t)) (.blk true w.heap.size C t :: L) :=
  h.new _ (Ext.alloc (Below.refl _ w) _) (Blk.new w C t) (fun k hk => by injection hk with hk; omega)
/-- .. a slice that a call has told of -/
theorem told {v : Value} {xs : List Value} (h : Mem w0 S w L) (m : Ext w w') (hx : Rd w' w.heap.size v xs) : Mem w0 S w' (.rd w.heap.size v xs :: L) :=
  h.new _ m hx (fun k hk => (Rd.lt hx k hk).1)
/-- .. two slices; they may share a block, and are read alone -/
theorem told2 {v u : Value} {xs ys : List Value} (h : Mem w0 S w L) (m : Ext w w') (hx : Rd w' w.heap.size v xs) (hy : Rd w' w.heap.size u ys) : Mem w0 S w' (.rd w.heap.size v xs :: .rd w.heap.size u ys :: L) := by
  have h1 := h.told m hy
  refine h1.add _ hx (fun y hy' => ?_) (fun e k hk => by cases e)
  rcases List.mem_cons.1 hy' with rfl | hy'
  · exact .inl ⟨rfl, rfl⟩
  · exact .inr fun k hk hy2 => by have := Ent.lt (h.has y hy') k hy2; have := (Rd.lt hx k hk).1; omega
theorem theRd {B : Nat} {v : Value} {xs : List Value} (h : Mem w0 S w L) (hi : Ent.rd B v xs ∈ L) : Rd w B v xs := h.has _ hi
theorem iter (h : Mem w0 S w L) (s : ByteArray) (p : Nat) : Mem w0 S (w.iter s p) (.itr w.heap.size s p :: L) :=
  h.new _ ((Below.refl _ _).alloc (Nat.le_refl _) _) (Itr.new w s p) (fun k hk => by injection hk with hk; omega)

/-- a step that turns one thing of the list -/
theorem turn {x y : Ent} (h : Mem w0 S w L) (u : Upd L x y M) (hx : x.own = true) (m : Mods w w' (fun k => x.at_ = some k)) (hy : y.holds w') (hyo : y.own = true) (hat : ∀ k, y.at_ = some k → x.at_ = some k ∨ w.heap.size ≤ k) : Mem w0 S w' M := by
  have hS : ∀ k, k < w0.heap.size → x.at_ = some k → S k := fun k hk he => (h.mine x u.mem hx k he).elim id (fun h => by omega)
  have key : ∀ (L M : List Ent) (x y : Ent), Upd L x y M → x.own = true → (∀ k, y.at_ = some k → x.at_ = some k ∨ w.heap.size ≤ k) → L.Pairwise Apart → (∀ z ∈ L, z.holds w) → (M.Pairwise Apart ∧ ∀ z ∈ M, z = y ∨ (z ∈ L ∧ ∀ k, z.at_ = some k → ¬ x.at_ = some k)) := by
    intro L M x y u hx hat
    induction u with
    | @head x y L =>
      intro hp hh
      have h1 := List.pairwise_cons.1 hp
      have no : ∀ z ∈ L, ∀ k, z.at_ = some k → ¬ x.at_ = some k := by
        intro z hz k h2 h3
        rcases h1.1 z hz with ⟨h4, _⟩ | h4
        · rw [hx] at h4; cases h4
        · exact h4 k h3 h2
      refine ⟨List.Pairwise.cons (fun z hz => .inr fun k hk hz' => ?_) h1.2, fun z hz => ?_⟩
      · rcases hat k hk with h2 | h2
        · exact no z hz k hz' h2
        · have := Ent.lt (hh z (by simp [hz])) k hz'; omega
      · rcases List.mem_cons.1 hz with rfl | hz
        · exact .inl rfl
        · exact .inr ⟨by simp [hz], no z hz⟩
    | @tail x y c L M u ih =>
      intro hp hh
      have h1 := List.pairwise_cons.1 hp
      obtain ⟨h2, h3⟩ := ih hx hat h1.2 (fun z hz => hh z (by simp [hz]))
      have nc : ∀ k, c.at_ = some k → ¬ x.at_ = some k := by
        intro k h4 h5
        rcases h1.1 x u.mem with ⟨_, h6⟩ | h6
        · rw [hx] at h6; cases h6
        · exact h6 k h4 h5
      refine ⟨List.Pairwise.cons (fun z hz => ?_) h2, fun z hz => ?_⟩
      · rcases h3 z hz with rfl | ⟨h4, _⟩
        · refine .inr fun k hk hz' => ?_
          rcases hat k hz' with h5 | h5
          · exact nc k hk h5
          · have := Ent.lt (hh c (by simp)) k hk; omega
        · exact h1.1 z h4
      · rcases List.mem_cons.1 hz with rfl | hz
        · exact .inr ⟨by simp, nc⟩
        · rcases h3 z hz with h4 | ⟨h4, h5⟩
          · exact .inl h4
          · exact .inr ⟨by simp [h4], h5⟩
  obtain ⟨h1, h2⟩ := key L M x y u hx hat h.apart h.has
  refine ⟨h.mods.andThen m hS, fun z hz => ?_, h1, fun z hz ho k hk => ?_⟩
  · rcases h2 z hz with rfl | ⟨h3, h4⟩
    · exact hy
    · exact Ent.stays m (h.has z h3) h4
  · rcases h2 z hz with rfl | ⟨h3, h4⟩
    · rcases hat k hk with h5 | h5
      · exact h.mine x u.mem hx k h5
      · exact .inr (by have := h.size; omega)
    · exact h.mine z h3 ho k hk
/-- .. a block that a call has written -/
theorem wrote {b : Nat} {C D : Array Value} {t : TypeId} (h : Mem w0 S w L) (u : Upd L (.blk true b C t) (.blk true b D t) M) (m : Mods w w' (· = b)) (hb : Blk w' b D t) : Mem w0 S w' M :=
  h.turn u rfl (m.mono fun i hi => by rw [hi]; rfl) hb rfl (fun k hk => .inl hk)
theorem set {b : Nat} {C : Array Value} {t : TypeId} (h : Mem w0 S w L) (o : Nat) (v : Value) (u : Upd L (.blk true b C t) (.blk true b (C.setIfInBounds o v) t) M) : Mem w0 S (w.setCell ⟨b, o, none⟩ v) M :=
  h.wrote u ((Mods.refl w _).set ⟨b, o, none⟩ v (fun _ => rfl)) (Blk.set (h.has _ u.mem) o v)
theorem puts {b : Nat} {C : Array Value} {t : TypeId} (h : Mem w0 S w L) (o : Nat) (vs : List Value) (u : Upd L (.blk true b C t) (.blk true b (putCells C o vs) t) M) : Mem w0 S (w.setCells b o vs) M :=
  h.wrote u ((Mods.refl w _).sets b o vs (fun _ => rfl)) (Blk.puts (h.has _ u.mem) o vs)
theorem step {r : Nat} {s : ByteArray} {p : Nat} (h : Mem w0 S w L) (q : Nat) (u : Upd L (.itr r s p) (.itr r s q) M) : Mem w0 S (stepIter w r s q) M :=
  h.turn u rfl ⟨rfl, rfl, rfl, by rw [sz_stepIter]; exact Nat.le_refl _, fun k _ hk => by rw [hp_stepIter _ _ _ _ _ (fun e => hk (by rw [e]; rfl))]⟩ (Itr.step (h.has _ u.mem) q) rfl (fun k hk => .inl hk)
theorem blk {b : Nat} {C : Array Value} {t : TypeId} {o : Bool} (h : Mem w0 S w L) (hi : Ent.blk o b C t ∈ L) : Blk w b C t := h.has _ hi
theorem theRow {B : Nat} {e : TypeId} {v : Value} {xs : List Value} (h : Mem w0 S w L) (hi : Ent.row B e v xs ∈ L) : Own w B e v xs := h.has _ hi
theorem rowOne {B : Nat} {e : TypeId} {v : Value} {xs : List Value} (h : Mem w0 S w L) (hi : Ent.row B e v xs ∈ L) : v.oneCell' = true := by
  rcases (h.theRow hi).form with ⟨h1, _⟩ | ⟨_, _, _, h1, _⟩ <;> rw [h1] <;> rfl
theorem theItr {r : Nat} {s : ByteArray} {p : Nat} (h : Mem w0 S w L) (hi : Ent.itr r s p ∈ L) : Itr w r s p := h.has _ hi
end Mem

/-- where append's result lies: in the same block, or in a new one -/
theorem app_where {P : Program} {w : World} {base : Nat} {t ty e : TypeId} {i : TypeInfo} {z : Value} {size bytes : Nat} (ht : P.underlying t = some (.slice e)) (hi : P.info? e = some i) (hz : i.zero = some z)
    (hsize : i.size = size) (hby : i.bytes = bytes)
    {v : Value} {n : Nat} {xs : List Value} (hown : w.ownsRow base e size v n xs)
    {a : Addr} {m c : Nat} {news : List Value} (hl : news.length = m * size) (hnews : ∀ j u, news[j]? = some u → w.cell? (a.add j) = some u) (h1 : ∀ u ∈ news, u.oneCell' = true)
    (h63 : n + m ≤ maxLen) (hbytes : (n + m) * bytes ≤ 140737488355328) {v' : Value} {w' : World} (hr : (Builtin.append_ #[t, t] ty #[v, .slice (some a) m c]).run P w = .ok v' w')
    (hnz : 0 < m) : ∀ k, v'.ownBlock = some k → v.ownBlock = some k ∨ w.heap.size ≤ k := by
  subst hsize hby
  have hsmall : n + m ≤ 9223372036854775807 := by simp only [maxLen] at h63; omega
  rcases hown.2 with ⟨rfl, rfl⟩ | ⟨g, cap, cur, rfl, hbg, hg, hnc, hcm, hcs, htake⟩
  · have hx : xs = [] := List.eq_nil_of_length_eq_zero (by simpa using hown.1)
    subst hx
    rw [run_append_nil (P := P) w t ty e i z ht hi hz a m c news hl hnews hnz (by omega) (by rw [Nat.zero_add] at hbytes; omega)] at hr
    injection hr with h2 h3
    subst h2
    intro k hk
    simp [Value.ownBlock] at hk
    exact .inr (by omega)
  · by_cases hroom : n + m ≤ cap
    · have hfit : n * i.size + news.length ≤ cur.size := by rw [hl, hcs, ← Nat.add_mul]; exact Nat.mul_le_mul_right _ hroom
      rw [run_append_room (P := P) w t ty e i ht hi g n cap cur hg a m c news hl hnews h1 hroom hfit] at hr
      injection hr with h2 h3
      subst h2
      exact fun k hk => .inl hk
    · rw [run_append_grow (P := P) w t ty e i z ht hi hz ⟨g, 0, none⟩ n cap xs hown.1 (hown.cells (g := g) rfl) a m c news hl hnews (by omega) (by omega) (growslice_fits (by omega) hbytes)] at hr
      injection hr with h2 h3
      subst h2
      intro k hk
      simp [Value.ownBlock] at hk
      exact .inr (by omega)

theorem all_mk {l : List Value} (h : l.all (fun x => x.oneCell') = true) : (l.toArray.all fun x => x.oneCell') = true := by simpa using h

/-! ### the operations -/
section
variable {P : Program} {ops : Array Oper} {rest : List Oper} {op : Oper} {a : Act} {w w0 : World} {Q : Exit → Act → World → Prop} {S : Nat → Prop} {L : List Ent} {F : Ent → List Ent}
/-- a new block gets names -/
theorem wpList_named {C : Array Value} {t : TypeId} (hM : Mem w0 S w L) (h : ∀ w1, Mem w0 S w1 (.blk true w.heap.size C t :: L) → wpList P ops Q rest a w1) : wpList P ops Q rest a (w.alloc (.cells C t)) :=
  h _ (hM.alloc C t)
theorem wpList_namedI {s : ByteArray} {p : Nat} (hM : Mem w0 S w L) (h : ∀ w1, Mem w0 S w1 (.itr w.heap.size s p :: L) → wpList P ops Q rest a w1) : wpList P ops Q rest a (w.iter s p) :=
  h _ (hM.iter s p)
theorem run_loadVar_one (w : World) (b o : Nat) (ty : TypeId) (v : Value) (hr : (P.underlying ty).map (·.isRow) = some false) (hc : w.cell? ⟨b, o, none⟩ = some v) : (loadVar ty ⟨b, o, none⟩).run P w = .ok v w := by
  cases hu : P.underlying ty with
  | none => simp [hu] at hr
  | some d =>
    simp only [hu, Option.map_some, Option.some.injEq] at hr
    have hagg : (isAgg ty).run P w = .ok false w := by
      unfold isAgg
      rw [Sem.run_bind, run_underlying hu w]
      cases d <;> simp_all [TypeDesc.isRow]
    unfold loadVar
    rw [Sem.run_bind, hagg]
    simp only [Result.andThen_ok, Bool.false_eq_true, if_false]
    rw [run_load, hc]
/-- a value of one cell is read -/
theorem wpList_load1 (hM : Mem w0 S w L) (hw : Region.wanted op (yielded ops a.tmps) = true) {ty : TypeId} {x : Operand} (ho : op.op = .load ty x) {b o : Nat} (hx : a.eval x = .pointer (some ⟨b, o, none⟩)) {own : Bool} {C : Array Value} {t : TypeId} (hi : Ent.blk own b C t ∈ L)
    (hr : (P.underlying ty).map (·.isRow) = some false) {v : Value} (hc : C[o]? = some v) (h : wpList P ops Q rest (a.put op.dst v) w) : wpList P ops Q (op :: rest) a w := by
  refine BigFrame.wpList_want hw fun K hK => ?_
  unfold Oper.wp execOp
  simp only [ho, hx, Instr.loadAt, Instr.sureAddr, Sem.run_bind, Sem.run_pure, Result.andThen_ok, run_loadVar_one w b o ty v hr ((hM.blk hi).cell hc)]
  exact hK _ _ h
/-- a value of several cells is read -/
theorem wpList_loadN (hM : Mem w0 S w L) (hw : Region.wanted op (yielded ops a.tmps) = true) {ty : TypeId} {x : Operand} (ho : op.op = .load ty x) {b o : Nat} (hx : a.eval x = .pointer (some ⟨b, o, none⟩)) {own : Bool} {C : Array Value} {t : TypeId} (hi : Ent.blk own b C t ∈ L)
    (hr : (P.underlying ty).map (·.isRow) = some true) (D : Array Value) (hz : (P.info? ty).map (·.size) = some D.size) (hc : ∀ j, j < D.size → C[o + j]? = D[j]?) (h : wpList P ops Q rest (a.put op.dst (.agg D)) w) : wpList P ops Q (op :: rest) a w := by
  cases hu : P.underlying ty with
  | none => simp [hu] at hr
  | some d =>
    simp only [hu, Option.map_some, Option.some.injEq] at hr
    refine BigFrame.wpList_want hw fun K hK => wp_load_mid ty x ho b o hx D.toList d ((hM.blk hi).rangeIn (fun j hj => ?_)) hu hr (by simpa using hz) (hK _ _ (by simpa using h))
    rw [hc j (by simpa using hj), Array.getElem?_toList]
/-- a whole block is read -/
theorem wpList_loadA (hM : Mem w0 S w L) (hw : Region.wanted op (yielded ops a.tmps) = true) {ty : TypeId} {x : Operand} (ho : op.op = .load ty x) {b : Nat} (hx : a.eval x = .pointer (some ⟨b, 0, none⟩)) {own : Bool} {C : Array Value} {t : TypeId} (hi : Ent.blk own b C t ∈ L)
    (hr : (P.underlying ty).map (·.isRow) = some true) (hz : (P.info? ty).map (·.size) = some C.size) (h : wpList P ops Q rest (a.put op.dst (.agg C)) w) : wpList P ops Q (op :: rest) a w :=
  wpList_loadN hM hw ho hx hi hr C hz (fun j _ => by rw [Nat.zero_add]) h
/-- a value of one cell is written -/
theorem wpList_store1 (hM : Mem w0 S w L) (hw : Region.wanted op (yielded ops a.tmps) = true) {ty : TypeId} {x y : Operand} (ho : op.op = .store ty x y) {b o : Nat} (hx : a.eval x = .pointer (some ⟨b, o, none⟩)) {v : Value} (hy : a.eval y = v) {C : Array Value} {t : TypeId}
    (u : Hole L (.blk true b C t) F) (hn : o < C.size) (hz : (P.info? ty).map (·.size) = some 1) (h1 : v.oneCell' = true)
    (h : ∀ w1, Mem w0 S w1 (F (.blk true b (C.setIfInBounds o v) t)) → wpList P ops Q rest (a.put op.dst undef) w1) : wpList P ops Q (op :: rest) a w := by
  refine BigFrame.wpList_want hw fun K hK => ?_
  have hb := hM.blk u.mem
  have hcells : v.cells = #[v] := by
    cases v <;> first | rfl | (simp [Value.oneCell'] at h1)
  have hrun : (storeVar ty ⟨b, o, none⟩ v).run P w = .ok () (w.setCells b o [v]) := by
    have := run_storeVar_mid (P := P) w b o ty #[v] (hb.there (by simp; omega)) (by simpa using hz) (by simp [h1])
    have e : storeVar ty ⟨b, o, none⟩ v = storeVar ty ⟨b, o, none⟩ (.agg #[v]) := by unfold storeVar; rw [hcells]; rfl
    rw [e]; exact this
  unfold Oper.wp execOp
  simp only [ho, hx, hy, Instr.storeAt, Instr.sureAddr, Sem.run_bind, Sem.run_pure, Result.andThen_ok, hrun]
  exact hK _ _ (h _ (hM.set o v (u.upd _)))
/-- a value of several cells is written -/
theorem wpList_storeN (hM : Mem w0 S w L) (hw : Region.wanted op (yielded ops a.tmps) = true) {ty : TypeId} {x y : Operand} (ho : op.op = .store ty x y) {b o : Nat} (hx : a.eval x = .pointer (some ⟨b, o, none⟩)) {V : Array Value} (hy : a.eval y = .agg V) {C : Array Value} {t : TypeId}
    (u : Hole L (.blk true b C t) F) (hn : o + V.size ≤ C.size) (hz : (P.info? ty).map (·.size) = some V.size) (h1 : V.all (·.oneCell') = true)
    (h : ∀ w1, Mem w0 S w1 (F (.blk true b (putCells C o V.toList) t)) → wpList P ops Q rest (a.put op.dst undef) w1) : wpList P ops Q (op :: rest) a w :=
  BigFrame.wpList_want hw fun _ hK => wp_store_mid ty x y ho b o V hx hy ((hM.blk u.mem).there hn) hz h1 (hK _ _ (h _ (hM.puts o _ (u.upd _))))
/-- a whole block is written -/
theorem wpList_storeA (hM : Mem w0 S w L) (hw : Region.wanted op (yielded ops a.tmps) = true) {ty : TypeId} {x y : Operand} (ho : op.op = .store ty x y) {b : Nat} (hx : a.eval x = .pointer (some ⟨b, 0, none⟩)) {V : Array Value} (hy : a.eval y = .agg V) {C : Array Value} {t : TypeId}
    (u : Hole L (.blk true b C t) F) (hn : V.size = C.size) (hz : (P.info? ty).map (·.size) = some V.size) (h1 : V.all (·.oneCell') = true)
    (h : ∀ w1, Mem w0 S w1 (F (.blk true b V t)) → wpList P ops Q rest (a.put op.dst undef) w1) : wpList P ops Q (op :: rest) a w := by
  have e : putCells C 0 V.toList = V := by rw [putCells_whole (by simpa using hn)]
  exact wpList_storeN hM hw ho hx hy u (by omega) hz h1 (by rw [e]; exact h)
/-- append of what lies in a block -/
theorem wpList_appM (hM : Mem w0 S w L) (hw : Region.wanted op (yielded ops a.tmps) = true) {s x : Operand} {t : TypeId} (ho : op.op = .call { callee := .builtin .append, args := #[s, x], argTypes := #[t, t] })
    {B : Nat} {e : TypeId} {bytes : Nat} (El : Elem1 P t e bytes) {v : Value} (hs : a.eval s = v) {xs : List Value} (hB : B ≤ w.heap.size) (hB0 : w0.heap.size ≤ B)
    {g o c m : Nat} (hx : a.eval x = .slice (some ⟨g, o, none⟩) m c) {own : Bool} {C : Array Value} {ty : TypeId} (hi : Ent.blk own g C ty ∈ L) {news : List Value} (hm : news.length = m) (hpos : 0 < news.length) (hn : ∀ j, j < news.length → C[o + j]? = news[j]?)
    (u : Hole L (.row B e v xs) F)
    (h1 : ∀ y ∈ news, y.oneCell' = true) (hbytes : (xs.length + news.length) * bytes ≤ 140737488355328) (h63 : xs.length + news.length ≤ maxLen)
    (h : ∀ (r k : Nat) w', Mem w0 S w' (F (.row B e (.slice (some ⟨r, 0, none⟩) (xs.length + m) k) (xs ++ news))) → wpList P ops Q rest (a.put op.dst (.slice (some ⟨r, 0, none⟩) (xs.length + m) k)) w') : wpList P ops Q (op :: rest) a w := by
  subst hm
  obtain ⟨hu, hinf⟩ := El
  have hown := hM.theRow u.mem
  have hb := hM.blk hi
  cases hie : P.info? e with
  | none => simp [hie] at hinf
  | some i =>
    simp only [hie, Option.map_some, Option.some.injEq, Prod.mk.injEq] at hinf
    obtain ⟨h2, h3, h4⟩ := hinf
    cases hz : i.zero with
    | none => simp [hz] at h4
    | some z =>
      simp only [hz, Option.map_some, Option.some.injEq] at h4
      have hnews : ∀ j y, news[j]? = some y → w.cell? ((⟨g, o, none⟩ : Addr).add j) = some y := fun j y hy => by
        have hj : j < news.length := (List.getElem?_eq_some_iff.1 hy).1
        have hadd : (⟨g, o, none⟩ : Addr).add j = ⟨g, o + j, none⟩ := by unfold Addr.add; split <;> simp_all
        rw [hadd]
        exact hb.cell (by rw [hn j hj]; exact hy)
      refine BigFrame.wpList_want hw fun K hK => ?_
      obtain ⟨v', w', hr, h5, h6, _⟩ := run_append_own (P := P) w B t op.type e i z 1 bytes hu hie hz h2 h3 h4 (by omega) v xs.length xs hown.out ⟨g, o, none⟩ news.length c news (by omega) hnews h1 h63 hbytes hB
      have hwh := app_where hu hie hz h2 h3 hown.out (by omega) hnews h1 h63 hbytes hr hpos
      unfold Oper.wp execOp
      simp only [ho, resolve, invoke, builtin, Sem.run_bind, Sem.run_pure, Result.andThen_ok, List.map_toArray, List.map_cons, List.map_nil, hs, hx, hr]
      have hO : Own w' B e v' (xs ++ news) := ⟨by rw [List.length_append]; exact h5⟩
      rcases hO.form with ⟨_, h8⟩ | ⟨r, k, _, h8, _⟩
      · have := congrArg List.length h8
        rw [List.length_append, List.length_nil] at this; omega
      · rw [List.length_append] at h8
        subst h8
        refine hK _ _ (h r k w' (hM.turn (u.upd _) rfl (Mods.of_grown h6 |>.mono fun k hk => hk.symm) hO rfl hwh))
/-- append of what a whole block holds -/
theorem wpList_appB (hM : Mem w0 S w L) (hw : Region.wanted op (yielded ops a.tmps) = true) {s x : Operand} {t : TypeId} (ho : op.op = .call { callee := .builtin .append, args := #[s, x], argTypes := #[t, t] })
    {v : Value} (hs : a.eval s = v) {g m c : Nat} (hx : a.eval x = .slice (some ⟨g, 0, none⟩) m c) {e : TypeId} {bytes : Nat} (El : Elem1 P t e bytes)
    {own : Bool} {C : Array Value} {ty : TypeId} (hi : Ent.blk own g C ty ∈ L) {xs : List Value}
    (u : Hole L (.row w0.heap.size e v xs) F) (hm : C.size = m) (hpos : 0 < m)
    (h1 : C.all (·.oneCell') = true) (hlen : xs.length + m ≤ 1000000000) (hby : bytes ≤ 1000)
    (h : ∀ (r k : Nat) w', Mem w0 S w' (F (.row w0.heap.size e (.slice (some ⟨r, 0, none⟩) (xs.length + m) k) (xs ++ C.toList))) → wpList P ops Q rest (a.put op.dst (.slice (some ⟨r, 0, none⟩) (xs.length + m) k)) w') : wpList P ops Q (op :: rest) a w := by
  subst hm
  refine wpList_appM hM hw ho El hs hM.size (Nat.le_refl _) hx hi (news := C.toList) (by simp) (by simpa using hpos) (fun j _ => by rw [Nat.zero_add, Array.getElem?_toList]) u (fun y hy => Array.all_eq_true_iff_forall_mem.1 h1 y (by simpa using hy)) ?_ ?_ h
  · rw [Array.length_toList]
    exact Nat.le_trans (Nat.mul_le_mul hlen hby) (by decide)
  · have : C.toList.length = C.size := Array.length_toList
    unfold maxLen; omega
end

end Go.Proofs.YtigfkfjlfpndfaaGreatDoor
