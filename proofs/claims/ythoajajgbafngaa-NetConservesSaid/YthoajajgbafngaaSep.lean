/- Statements about parts of memory that lie apart, and how they move. -/
import Derived.WalkKit
import Derived.Deep.QuietTactic
import Derived.BigQuiet
import Derived.Lib.Hide
import Derived.Deep.DeepMust
import Derived.Deep.RegionHeld3
import Derived.Deep.RegionWith
import Derived.Deep.DrawnRows
import Derived.Maps.AppendAt
import Derived.Shelf.Abstract
import Derived.WalkSpells
import Derived.Test.YthoajajgbafngaaWMore
namespace Go.Proofs.Ythoajajgbafngaa
set_option linter.unusedVariables false
set_option linter.unusedSimpArgs false
open Go.RowKit Go.Shelf Go.Proofs.YthoajajgbafngaaW.PrintWords Go.Proofs.YthoajajgbafngaaW.PrintLast Go.Proofs.YthoajajgbafngaaW.PrintMore

/-- Block g is just the cells cs of element type t. -/
def Blk (w : World) (g : Nat) (t : TypeId) (cs : Array Value) : Prop := w.heap[g]? = some (.cells cs t (0, 0))
theorem Blk.lt {w : World} {g : Nat} {t : TypeId} {cs : Array Value} (h : Blk w g t cs) : g < w.heap.size := (Array.getElem?_eq_some_iff.1 h).1
theorem Blk.cell {w : World} {g : Nat} {t : TypeId} {cs : Array Value} (h : Blk w g t cs) (i : Nat) : w.cell? ⟨g, i, none⟩ = cs[i]? := cell_of_row w g i cs t (0, 0) h
theorem Blk.frozen {w : World} {g : Nat} {t : TypeId} {cs : Array Value} (h : Blk w g t cs) (i : Nat) : w.frozen? ⟨g, i, none⟩ = false := blk_frozen h i

/-- The streams are as they were; no block has gone. -/
structure Calm (w w' : World) : Prop where
  os : w'.os = w.os
  tape : w'.tape = w.tape
  output : w'.output = w.output
  size : w.heap.size ≤ w'.heap.size
theorem Calm.refl (w : World) : Calm w w := ⟨rfl, rfl, rfl, Nat.le_refl _⟩
theorem Calm.trans {a b c : World} (h : Calm a b) (k : Calm b c) : Calm a c := ⟨k.os.trans h.os, k.tape.trans h.tape, k.output.trans h.output, Nat.le_trans h.size k.size⟩
theorem Calm.alloc {a w : World} (h : Calm a w) (o : Obj) : Calm a (w.alloc o) := h.trans ⟨rfl, rfl, rfl, by simp⟩
theorem Calm.drew {a w : World} (h : Calm a w) : Calm a w.drew := ⟨h.os, h.tape, h.output, h.size⟩
theorem Calm.drewN {a w : World} (h : Calm a w) (n : Nat) : Calm a (w.drewN n) := ⟨h.os, h.tape, h.output, h.size⟩
theorem Calm.setCell {a w : World} (h : Calm a w) (p : Addr) (u : Value) : Calm a (w.setCell p u) := h.trans ⟨rfl, rfl, rfl, by simp [World.setCell]⟩
theorem Calm.below {a b c : World} {B : Nat} (h : Calm a b) (k : Below B b c) : Calm a c := h.trans ⟨k.os, k.tape, k.output, k.size⟩
theorem Calm.of_below {a b : World} {B : Nat} (k : Below B a b) : Calm a b := ⟨k.os, k.tape, k.output, k.size⟩
theorem Calm.grown {a b c : World} {r : Option Nat} (h : Calm a b) (k : b.grownBy c r) : Calm a c := h.trans ⟨k.os, k.tape, k.output, k.size⟩
theorem Calm.drawn {a b c : World} (h : Calm a b) (k : Drawn0 b c) : Calm a c := h.below k.below

/-- A statement about memory that speaks of the blocks S alone. -/
structure Hp where
  H : World → (Nat → Prop) → Prop
  mono : ∀ {w : World} {S T : Nat → Prop}, (∀ k, S k → T k) → H w S → H w T
  bound : ∀ {w : World} {S : Nat → Prop}, H w S → H w (fun k => S k ∧ k < w.heap.size)
  move : ∀ {w w' : World} {S : Nat → Prop}, (∀ k, S k → w'.heap[k]? = w.heap[k]?) → H w S → H w' S

/-- Two, apart. -/
def sepH (A B : Hp) : Hp where
  H w S := ∃ S1 S2 : Nat → Prop, (∀ k, S1 k → S2 k → False) ∧ (∀ k, S1 k → S k) ∧ (∀ k, S2 k → S k) ∧ A.H w S1 ∧ B.H w S2
  mono := fun hS ⟨S1, S2, d, h1, h2, a, b⟩ => ⟨S1, S2, d, fun k h => hS k (h1 k h), fun k h => hS k (h2 k h), a, b⟩
  bound := fun ⟨S1, S2, d, h1, h2, a, b⟩ => ⟨_, _, fun k h h' => d k h.1 h'.1, fun k h => ⟨h1 k h.1, h.2⟩, fun k h => ⟨h2 k h.1, h.2⟩, A.bound a, B.bound b⟩
  move := fun hm ⟨S1, S2, d, h1, h2, a, b⟩ => ⟨S1, S2, d, h1, h2, A.move (fun k h => hm k (h1 k h)) a, B.move (fun k h => hm k (h2 k h)) b⟩
def empH : Hp := ⟨fun _ _ => True, fun _ h => h, fun h => h, fun _ h => h⟩
/-- All of a list, apart. -/
def sepL : List Hp → Hp
  | [] => empH
  | A :: l => sepH A (sepL l)
/-- The world's memory is as the list says, each in blocks of its own. -/
def Holds (w : World) (l : List Hp) : Prop := (sepL l).H w (fun _ => True)

theorem sepL_perm {l l' : List Hp} (h : l.Perm l') {w : World} : ∀ {S : Nat → Prop}, (sepL l).H w S → (sepL l').H w S := by
  induction h with
  | nil => exact fun h => h
  | cons A _ ih => exact fun ⟨S1, S2, d, h1, h2, a, b⟩ => ⟨S1, S2, d, h1, h2, a, ih b⟩
  | swap A B l =>
    rintro S ⟨S1, S2, d, h1, h2, a, T1, T2, d', h1', h2', b, c⟩
    exact ⟨T1, fun k => S1 k ∨ T2 k, fun k h h' => h'.elim (fun h'' => d k h'' (h1' k h)) (d' k h), fun k h => h2 k (h1' k h), fun k h => h.elim (h1 k) (fun h => h2 k (h2' k h)), b, S1, T2, fun k h h' => d k h (h2' k h'), fun k h => .inl h, fun k h => .inr h, a, c⟩
  | trans _ _ ih1 ih2 => exact fun h => ih2 (ih1 h)
theorem Holds.perm {w : World} {l l' : List Hp} (h : Holds w l) (p : l.Perm l') : Holds w l' := sepL_perm p h

theorem sepL_append {w : World} : ∀ {l F : List Hp} {S : Nat → Prop}, (sepL (l ++ F)).H w S ↔ (sepH (sepL l) (sepL F)).H w S
  | [], F, S => ⟨fun h => ⟨fun _ => False, S, fun _ h _ => h, fun _ h => h.elim, fun _ h => h, trivial, h⟩, fun ⟨S1, S2, _, _, h2, _, b⟩ => (sepL F).mono h2 b⟩
  | A :: l, F, S => by
    constructor
    · rintro ⟨S1, S2, d, h1, h2, a, b⟩
      obtain ⟨T1, T2, d', h1', h2', b1, b2⟩ := sepL_append.1 b
      exact ⟨fun k => S1 k ∨ T1 k, T2, fun k h h' => h.elim (fun h => d k h (h2' k h')) (fun h => d' k h h'), fun k h => h.elim (h1 k) (fun h => h2 k (h1' k h)), fun k h => h2 k (h2' k h), ⟨S1, T1, fun k h h' => d k h (h1' k h'), fun k h => .inl h, fun k h => .inr h, a, b1⟩, b2⟩
    · rintro ⟨S1, S2, d, h1, h2, ⟨T1, T2, d', h1', h2', a, b1⟩, b2⟩
      exact ⟨T1, fun k => T2 k ∨ S2 k, fun k h h' => h'.elim (d' k h) (d k (h1' k h)), fun k h => h1 k (h1' k h), fun k h => h.elim (fun h => h1 k (h2' k h)) (h2 k), a, sepL_append.2 ⟨T2, S2, fun k h h' => d k (h2' k h) h', fun k h => .inl h, fun k h => .inr h, b1, b2⟩⟩

section
variable {w w' : World} {A B C D E G : Hp} {l F : List Hp}
theorem Holds.drop (h : Holds w (A :: F)) : Holds w F := by
  obtain ⟨S1, S2, _, _, h2, _, b⟩ := h
  exact (sepL F).mono (fun _ _ => trivial) b
theorem Holds.f2 (h : Holds w (A :: B :: F)) : Holds w (B :: A :: F) := h.perm (.swap _ _ _)
theorem Holds.f3 (h : Holds w (A :: B :: C :: F)) : Holds w (C :: A :: B :: F) := h.perm (((List.Perm.swap C B F).cons A).trans (.swap _ _ _))
theorem Holds.f4 (h : Holds w (A :: B :: C :: D :: F)) : Holds w (D :: A :: B :: C :: F) := h.perm (((((List.Perm.swap D C F).cons B).trans (.swap _ _ _)).cons A).trans (.swap _ _ _))
theorem Holds.f5 (h : Holds w (A :: B :: C :: D :: E :: F)) : Holds w (E :: A :: B :: C :: D :: F) :=
  h.perm (((((((List.Perm.swap E D F).cons C).trans (.swap _ _ _)).cons B).trans (.swap _ _ _)).cons A).trans (.swap _ _ _))
theorem Holds.f6 (h : Holds w (A :: B :: C :: D :: E :: G :: F)) : Holds w (G :: A :: B :: C :: D :: E :: F) :=
  h.perm (((((((((List.Perm.swap G E F).cons D).trans (.swap _ _ _)).cons C).trans (.swap _ _ _)).cons B).trans (.swap _ _ _)).cons A).trans (.swap _ _ _))
/-- The first, put behind so many. -/
theorem Holds.b3 (h : Holds w (A :: B :: C :: F)) : Holds w (B :: C :: A :: F) := h.f3.f3
theorem Holds.b4 (h : Holds w (A :: B :: C :: D :: F)) : Holds w (B :: C :: D :: A :: F) := h.f4.f4.f4
theorem Holds.sub (h : Holds w (l ++ F)) : Holds w l := by
  obtain ⟨S1, S2, _, _, _, a, _⟩ := sepL_append.1 h
  exact (sepL l).mono (fun _ _ => trivial) a
/-- What holds in all that is left. -/
theorem Holds.get (h : Holds w (A :: F)) : ∃ S, A.H w S ∧ ∀ k, S k → k < w.heap.size := by
  obtain ⟨S1, S2, _, _, _, a, _⟩ := h
  exact ⟨_, A.bound a, fun k h => h.2⟩

/-- The first may be changed, and what it was written in; the others lie as they lay. -/
theorem Holds.change (h : Holds w (A :: F)) (k : ∀ S : Nat → Prop, A.H w S → (∀ k, S k → k < w.heap.size) → ∃ S' : Nat → Prop, (∀ k, S' k → S k ∨ w.heap.size ≤ k) ∧ B.H w' S' ∧ ∀ k, k < w.heap.size → ¬ S k → w'.heap[k]? = w.heap[k]?) : Holds w' (B :: F) := by
  obtain ⟨S1, S2, d, _, _, a, b⟩ := h
  obtain ⟨S', hS, hb, hm⟩ := k _ (A.bound a) (fun k h => h.2)
  refine ⟨S', _, fun k h h' => ?_, fun _ _ => trivial, fun _ _ => trivial, hb, (sepL F).move (fun k h => hm k h.2 (fun h' => d k h'.1 h.1)) ((sepL F).bound b)⟩
  rcases hS k h with h1 | h1
  · exact d k h1.1 h'.1
  · have := h'.2; omega
/-- .. in one world. -/
theorem Holds.imp (h : Holds w (A :: F)) (k : ∀ S : Nat → Prop, A.H w S → (∀ k, S k → k < w.heap.size) → B.H w S) : Holds w (B :: F) :=
  h.change (fun S a hs => ⟨S, fun k h => .inl h, k S a hs, fun _ _ _ => rfl⟩)
theorem Holds.step (h : Holds w l) (hm : ∀ k, k < w.heap.size → w'.heap[k]? = w.heap[k]?) : Holds w' l :=
  (sepL l).mono (fun _ _ => trivial) ((sepL l).move (fun k h => hm k h.2) ((sepL l).bound h))
theorem Holds.below (h : Holds w l) (hb : Below w.heap.size w w') : Holds w' l := h.step hb.block
theorem Holds.drew (h : Holds w l) : Holds w.drew l := h.step (fun _ _ => rfl)
theorem Holds.drewN (h : Holds w l) (n : Nat) : Holds (w.drewN n) l := h.step (fun _ _ => rfl)
theorem Holds.drawn (h : Holds w l) (k : Drawn0 w w') : Holds w' l := h.below k.below
theorem Holds.alloc (h : Holds w l) (o : Obj) : Holds (w.alloc o) l := h.step (fun k hk => Below.heap_alloc w o k hk)
/-- Something new beside what lay. -/
theorem Holds.new (h : Holds w F) (hb : Below w.heap.size w w') {S : Nat → Prop} (a : A.H w' S) (hS : ∀ k, S k → w.heap.size ≤ k) : Holds w' (A :: F) := by
  refine ⟨S, _, fun k h h' => ?_, fun _ _ => trivial, fun _ _ => trivial, a, (sepL F).move (fun k h => hb.block k h.2) ((sepL F).bound h)⟩
  have := hS k h
  have := h'.2
  omega
theorem Holds.emp (h : Holds w F) : Holds w (empH :: F) := ⟨fun _ => False, _, fun _ h _ => h, fun _ _ => trivial, fun _ _ => trivial, trivial, h⟩
theorem Holds.nil (w : World) : Holds w [] := trivial
end

/-! ### one of several, a fact, a group -/
def exH {α : Type} (f : α → Hp) : Hp where
  H w S := ∃ x, (f x).H w S
  mono := fun hS ⟨x, h⟩ => ⟨x, (f x).mono hS h⟩
  bound := fun ⟨x, h⟩ => ⟨x, (f x).bound h⟩
  move := fun hm ⟨x, h⟩ => ⟨x, (f x).move hm h⟩
def factH (p : Prop) : Hp := ⟨fun _ _ => p, fun _ h => h, fun h => h, fun _ h => h⟩
section
variable {α : Type} {w : World} {f : α → Hp} {p : Prop} {A : Hp} {l F : List Hp}
theorem Holds.ex (h : Holds w (exH f :: F)) : ∃ x, Holds w (f x :: F) := by
  obtain ⟨S1, S2, d, h1, h2, ⟨x, a⟩, b⟩ := h
  exact ⟨x, S1, S2, d, h1, h2, a, b⟩
theorem Holds.mk (x : α) (h : Holds w (f x :: F)) : Holds w (exH f :: F) := by
  obtain ⟨S1, S2, d, h1, h2, a, b⟩ := h
  exact ⟨S1, S2, d, h1, h2, ⟨x, a⟩, b⟩
theorem Holds.fact (h : Holds w (factH p :: F)) : p ∧ Holds w F := by
  have h' := h.drop
  obtain ⟨S1, S2, d, h1, h2, a, b⟩ := h
  exact ⟨a, h'⟩
theorem Holds.put (hp : p) (h : Holds w F) : Holds w (factH p :: F) := h.emp.imp (fun _ _ _ => hp)
/-- A group is its parts. -/
theorem Holds.parts (h : Holds w (sepL l :: F)) : Holds w (l ++ F) := sepL_append.2 h
theorem Holds.group (h : Holds w (l ++ F)) : Holds w (sepL l :: F) := sepL_append.1 h
end

/-! ### one block -/
def blkH (g : Nat) (t : TypeId) (cs : Array Value) : Hp where
  H w S := S g ∧ Blk w g t cs
  mono := fun hS h => ⟨hS g h.1, h.2⟩
  bound := fun h => ⟨⟨h.1, h.2.lt⟩, h.2⟩
  move := fun hm h => ⟨h.1, (hm g h.1).trans h.2⟩
section
variable {w : World} {g : Nat} {t : TypeId} {cs : Array Value} {F l : List Hp}
theorem Holds.blk (h : Holds w (blkH g t cs :: F)) : Blk w g t cs := by
  obtain ⟨S, a, _⟩ := h.get
  exact a.2
theorem Holds.cell (h : Holds w (blkH g t cs :: F)) (i : Nat) : w.cell? ⟨g, i, none⟩ = cs[i]? := h.blk.cell i
theorem Holds.frozen (h : Holds w (blkH g t cs :: F)) (i : Nat) : w.frozen? ⟨g, i, none⟩ = false := h.blk.frozen i
theorem Holds.lt (h : Holds w (blkH g t cs :: F)) : g < w.heap.size := h.blk.lt
theorem Holds.box (h : Holds w F) (t : TypeId) (cs : Array Value) : Holds (w.alloc (.cells cs t)) (blkH w.heap.size t cs :: F) :=
  h.new ((Below.refl _ w).alloc (Nat.le_refl _) _) (S := fun k => k = w.heap.size) ⟨rfl, heap_alloc_new w _⟩ (fun k hk => by omega)
theorem Holds.set (h : Holds w (blkH g t cs :: F)) (i : Nat) (u : Value) : Holds (w.setCell ⟨g, i, none⟩ u) (blkH g t (cs.setIfInBounds i u) :: F) :=
  h.change (fun S a _ => ⟨S, fun k h => .inl h, ⟨a.1, blk_set a.2 i u⟩, fun k _ hn => Below.heap_setCell w ⟨g, i, none⟩ u k (fun e => hn (by cases e; exact a.1))⟩)
end

/-! ### a row of a kind's elements; an element's rows -/
def rowH {α : Type} (d : Kd α) (e : TypeId) (v : Value) (xs : List α) : Hp where
  H w S := d.R e w 0 S v xs
  mono := fun hS h => Kd.R_mono h hS
  bound := fun h => Kd.R_mono (Kd.R_bound h) (fun _ hk => ⟨hk.1, hk.2.2.1⟩)
  move := fun hm h => Kd.R_move h hm
def eltH {α : Type} (d : Kd α) (x : α) (cs : List Value) : Hp where
  H w S := d.M w 0 S x cs
  mono := fun hS h => d.M_mono hS h
  bound := fun h => d.M_mono (fun _ hk => ⟨hk.1, hk.2.2.1⟩) (d.M_bound h)
  move := fun hm h => d.M_move hm h
section
variable {α : Type} {d : Kd α} {e : TypeId} {w w' : World} {v : Value} {xs : List α} {F : List Hp} {A : Option Addr} {n c : Nat}
theorem Holds.row (h : Holds w (rowH d e v xs :: F)) : ∃ A c, v = .slice A xs.length c ∧ xs.length ≤ c ∧ d.C w A xs.length xs := by
  obtain ⟨S, a, _⟩ := h.get
  exact Kd.R_reads a
theorem Holds.row' (h : Holds w (rowH d e (.slice A n c) xs :: F)) : n = xs.length ∧ n ≤ c ∧ d.C w A xs.length xs := by
  obtain ⟨S, a, _⟩ := h.get
  exact Kd.R_reads' a
theorem Holds.nilRow (h : Holds w F) (d : Kd α) (e : TypeId) : Holds w (rowH d e (.slice none 0 0) [] :: F) := h.emp.imp (fun S _ _ => Kd.R_nil d e w 0 S)
/-- What an elder contract made. -/
theorem Holds.made (h : Holds w F) (hb : Below w.heap.size w w') {ok : Nat → Prop} (hR : d.R e w' w.heap.size ok v xs) : Holds w' (rowH d e v xs :: F) :=
  h.new hb (S := fun k => w.heap.size ≤ k) (Kd.R_lower (Kd.R_mono (Kd.R_bound hR) (fun k hk => hk.2.1)) (Nat.zero_le _)) (fun k hk => hk)
end

/-- All that lay when w0 was. -/
def oldH (w0 : World) : Hp where
  H w S := (∀ k, k < w0.heap.size → S k ∧ w.heap[k]? = w0.heap[k]?)
  mono := fun hS h k hk => ⟨hS k (h k hk).1, (h k hk).2⟩
  bound := fun h k hk => ⟨⟨(h k hk).1, by
    have h2 := (h k hk).2
    rw [Array.getElem?_eq_getElem hk] at h2
    exact (Array.getElem?_eq_some_iff.1 h2).1⟩, (h k hk).2⟩
  move := fun hm h k hk => ⟨(h k hk).1, (hm k (h k hk).1).trans (h k hk).2⟩
section
variable {w0 w : World} {F l : List Hp}
theorem Holds.start (w0 : World) : Holds w0 [oldH w0] := ⟨fun _ => True, fun _ => False, fun _ _ h => h, fun _ _ => trivial, fun _ h => h.elim, fun k _ => ⟨trivial, rfl⟩, trivial⟩
theorem Holds.old (h : Holds w (oldH w0 :: F)) (hc : Calm w0 w) : Below w0.heap.size w0 w := by
  obtain ⟨S, a, _⟩ := h.get
  exact ⟨hc.os, hc.tape, hc.output, hc.size, fun k hk => (a k hk).2⟩
theorem Holds.oldCells (h : Holds w (oldH w0 :: F)) : ∀ k, k < w0.heap.size → w.heap[k]? = w0.heap[k]? := by
  obtain ⟨S, a, _⟩ := h.get
  exact fun k hk => (a k hk).2
end
/-- What is read of F alone: in every world where F holds the row reads so. -/
def Rd {α : Type} (d : Kd α) (F : List Hp) (A : Option Addr) (n : Nat) (xs : List α) : Prop := ∀ w, Holds w F → d.C w A n xs
section
variable {α : Type} {d : Kd α} {F G : List Hp} {A : Option Addr} {n : Nat} {xs : List α} {B : Hp}
theorem Rd.cons (h : Rd d F A n xs) (B : Hp) : Rd d (B :: F) A n xs := fun w hw => h w hw.drop
theorem Rd.row {e : TypeId} {c : Nat} (F : List Hp) : Rd d (rowH d e (.slice A n c) xs :: F) A xs.length xs := fun w hw => hw.row'.2.2
theorem Rd.perm (h : Rd d F A n xs) (p : G.Perm F) : Rd d G A n xs := fun w hw => h w (hw.perm p)
theorem Rd.old_int {k : IntKind} {w0 : World} {ys : List Int} (h : (Kd.int k).C w0 A n ys) (F : List Hp) : Rd (Kd.int k) (oldH w0 :: F) A n ys := fun w hw =>
  Kd.C_of_reads (d := (0 : Int)) (h1 := fun _ => rfl) (by
    have h := Kd.reads_of_C (d := (0 : Int)) (h1 := fun _ => rfl) h
    refine ⟨h.1, h.2.1, fun h0 => ?_⟩
    obtain ⟨ad, e, hc⟩ := h.2.2 h0
    refine ⟨ad, e, fun j hj => ?_⟩
    have hcj := hc j hj
    exact (World.cell?_of_block (w := w0) (hw.oldCells _ (World.block_lt_of_cell? w0 _ hcj))).trans hcj)
theorem Rd.nil (d : Kd α) (F : List Hp) : Rd d F none ([] : List α).length [] := fun w _ => Kd.C_nil d w
end
end Go.Proofs.Ythoajajgbafngaa
