/- Parts of memory beside the book-keeping of a loop over a function. -/
import Derived.Test.YtkkhpdbognaioaaSep6
import Derived.RangeFuncBox
import Derived.RangeFuncNested
import Derived.RangeFuncBound
import Derived.RangeFuncCalls
import Derived.RangeFuncLeaves
import Derived.OwnWalkIn
import Derived.TacticsInMore
import Derived.LoopNIn
import Derived.LoopIn
namespace Go.Proofs.Ytkkhpdbognaioaa
set_option linter.unusedVariables false
set_option linter.unusedSimpArgs false
open Go.RowKit Go.Shelf Go.Proofs.YtkkhpdbognaioaaW.PrintWords Go.Proofs.YtkkhpdbognaioaaW.PrintLast Go.Proofs.YtkkhpdbognaioaaW.PrintMore

def isC (w : World) (k : Nat) : Prop := ∀ o, w.heap[k]? = some o → o.isCells = true
/-- From block B on the part needs blocks of cells alone. -/
def Trim (B : Nat) (A : Hp) : Prop := ∀ w S, A.H w S → A.H w (fun k => S k ∧ (B ≤ k → isC w k))
theorem Trim.blk (B g : Nat) (t : TypeId) (cs : Array Value) : Trim B (blkH g t cs) := fun w S h => ⟨⟨h.1, fun _ o ho => by
  have := h.2
  unfold Blk at this
  rw [this] at ho
  cases ho
  rfl⟩, h.2⟩
theorem Trim.row {α : Type} (B : Nat) (d : Kd α) (e : TypeId) (v : Value) (xs : List α) : Trim B (rowH d e v xs) := fun w S h =>
  Kd.R_mono (Kd.R_bound h) (fun k hk => ⟨hk.1, fun _ o ho => by
    obtain ⟨_, _, _, q, _, cs, hc⟩ := hk
    rw [hc] at ho
    cases ho
    rfl⟩)
theorem Trim.emp (B : Nat) : Trim B empH := fun _ _ _ => trivial
theorem Trim.sep {B : Nat} {A A' : Hp} (h : Trim B A) (h' : Trim B A') : Trim B (sepH A A') := fun w S ⟨S1, S2, d, h1, h2, a, b⟩ =>
  ⟨_, _, fun k k1 k2 => d k k1.1 k2.1, fun k hk => ⟨h1 k hk.1, hk.2⟩, fun k hk => ⟨h2 k hk.1, hk.2⟩, h w S1 a, h' w S2 b⟩
theorem Trim.nil (B : Nat) : Trim B (sepL []) := Trim.emp B
theorem Trim.cons {B : Nat} {A : Hp} {l : List Hp} (h : Trim B A) (h' : Trim B (sepL l)) : Trim B (sepL (A :: l)) := Trim.sep h h'
theorem Trim.ex {α : Type} {B : Nat} {f : α → Hp} (h : ∀ x, Trim B (f x)) : Trim B (exH f) := fun w S ⟨x, a⟩ => ⟨x, h x w S a⟩

/-- What lay in the blocks P. -/
def copyH (w0 : World) (P : Nat → Prop) : Hp where
  H w S := ∀ k, P k → k < w0.heap.size ∧ S k ∧ w.heap[k]? = w0.heap[k]?
  mono := fun hS h k hk => ⟨(h k hk).1, hS k (h k hk).2.1, (h k hk).2.2⟩
  bound := fun h k hk => ⟨(h k hk).1, ⟨(h k hk).2.1, by
    have h2 := (h k hk).2.2
    rw [Array.getElem?_eq_getElem (h k hk).1] at h2
    exact (Array.getElem?_eq_some_iff.1 h2).1⟩, (h k hk).2.2⟩
  move := fun hm h k hk => ⟨(h k hk).1, (h k hk).2.1, (hm k (h k hk).2.1).trans (h k hk).2.2⟩
theorem Trim.copy {B : Nat} {w0 : World} (P : Nat → Prop) (h : w0.heap.size ≤ B) : Trim B (copyH w0 P) := fun w S a k hk => ⟨(a k hk).1, ⟨(a k hk).2.1, fun hB => by have := (a k hk).1; omega⟩, (a k hk).2.2⟩
/-- The frame as one part. -/
theorem Holds.frozenF {w : World} {A : Hp} {F : List Hp} (h : Holds w (A :: F)) : ∃ P : Nat → Prop, Holds w [A, copyH w P] ∧ ∀ (W : World) (B : Hp), Holds W [B, copyH w P] → Holds W (B :: F) := by
  obtain ⟨S1, S2, d, h1, h2, a, b⟩ := h
  refine ⟨fun k => S2 k ∧ k < w.heap.size, ⟨S1, fun k => S2 k ∧ k < w.heap.size, fun k k1 k2 => d k k1 k2.1, fun _ _ => trivial, fun _ _ => trivial, a, fun k => S2 k ∧ k < w.heap.size, fun _ => False, fun _ _ h => h, fun _ h => h, fun _ h => h.elim, fun k hk => ⟨hk.2, hk, rfl⟩, trivial⟩, ?_⟩
  rintro W B ⟨T1, T2, d', _, _, a', U1, U2, _, hU1, _, c, _⟩
  have hF := (sepL F).bound b
  refine ⟨T1, T2, d', fun _ _ => trivial, fun _ _ => trivial, a', ?_⟩
  exact (sepL F).mono (fun k hk => hU1 k (c k hk).2.1) ((sepL F).move (fun k hk => (c k hk).2.2) hF)

/-- The other objects of the loop. -/
def avoidH (B : Nat) (w0 : World) : Hp where
  H w S := ∀ k o, B ≤ k → w0.heap[k]? = some o → o.isCells = false → S k ∧ w.heap[k]? = some o
  mono := fun hS h k o hB hk ho => ⟨hS k (h k o hB hk ho).1, (h k o hB hk ho).2⟩
  bound := fun h k o hB hk ho => ⟨⟨(h k o hB hk ho).1, (Array.getElem?_eq_some_iff.1 (h k o hB hk ho).2).1⟩, (h k o hB hk ho).2⟩
  move := fun hm h k o hB hk ho => ⟨(h k o hB hk ho).1, (hm k (h k o hB hk ho).1).trans (h k o hB hk ho).2⟩
theorem Holds.avoid {w : World} {l : List Hp} {B : Nat} (h : Holds w l) (ht : Trim B (sepL l)) : Holds w (avoidH B w :: l) :=
  ⟨fun k => B ≤ k ∧ ∃ o, w.heap[k]? = some o ∧ o.isCells = false, _, fun k k1 k2 => by
    obtain ⟨hB, o, ho, hc⟩ := k1
    have := k2.2 hB o ho
    rw [hc] at this
    exact absurd this (by decide), fun _ _ => trivial, fun _ _ => trivial, fun k o hB hk ho => ⟨⟨hB, o, hk, ho⟩, hk⟩, ht w _ h⟩
theorem Holds.keepsFrom {w w' : World} {l : List Hp} {B : Nat} (h : Holds w' (avoidH B w :: l)) (hs : w.heap.size ≤ w'.heap.size) : KeepsFrom B w w' := by
  obtain ⟨S, a, _⟩ := h.get
  exact ⟨hs, fun k o hB hk ho => (a k o hB hk ho).2⟩
theorem Holds.ownFrom {β : Type} {B : Nat} {l : β → List Hp} (ht : ∀ s, Trim B (sepL (l s))) : OwnFrom B (fun s w => Holds w (l s)) := by
  intro s W W' row hs hg hr
  have h1 := (sepL (l s)).bound (ht s W _ hs)
  refine (sepL (l s)).mono (fun _ _ => trivial) ((sepL (l s)).move (fun k hk => ?_) h1)
  refine hg.block k hk.2 (fun e => ?_)
  obtain ⟨hB, o, ho, hc⟩ := hr k e.symm
  have := hk.1.2 hB o ho
  rw [hc] at this
  exact absurd this (by decide)
theorem Calm.ownFrom {β : Type} {B : Nat} (w : World) : OwnFrom B (fun (_ : β) W => Calm w W) := fun s W W' row hs hg hr => hs.grown hg
end Go.Proofs.Ytkkhpdbognaioaa
