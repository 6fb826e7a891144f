/- Rows made of elements; one row's elements moved behind another's. -/
import Derived.Test.YthoajajgbafngaaSep4
namespace Go.Proofs.Ythoajajgbafngaa
set_option linter.unusedVariables false
set_option linter.unusedSimpArgs false
open Go.RowKit Go.Shelf Go.Proofs.YthoajajgbafngaaW.PrintWords Go.Proofs.YthoajajgbafngaaW.PrintLast Go.Proofs.YthoajajgbafngaaW.PrintMore

/-- Elements' cells, one behind the other. -/
def eltsH {α : Type} (d : Kd α) (ps : List α) (inner : List Value) : Hp where
  H w S := Reps (d.M w 0 S) d.sz ps inner
  mono := fun hS h => h.imp_ (fun _ _ hp => d.M_mono hS hp)
  bound := fun h => h.imp_ (fun _ _ hp => d.M_mono (fun _ hk => ⟨hk.1, hk.2.2.1⟩) (d.M_bound hp))
  move := fun hm h => h.imp_ (fun _ _ hp => d.M_move hm hp)
section
variable {α : Type} {d : Kd α} {e : TypeId} {w : World} {F : List Hp} {p : α} {ps : List α} {c inner : List Value}
theorem Holds.eltsNil (h : Holds w F) (d : Kd α) : Holds w (eltsH d [] [] :: F) := h.emp.imp (fun _ _ _ => Reps.none _ _)
theorem Holds.eltsSnoc (h : Holds w (eltH d p c :: eltsH d ps inner :: F)) : Holds w (eltsH d (ps ++ [p]) (inner ++ c) :: F) := by
  have h' : Holds w (sepL [eltH d p c, eltsH d ps inner] :: F) := Holds.group h
  refine h'.imp (fun S a _ => ?_)
  obtain ⟨S1, T, d1, h1, h2, a1, S2, T2, d2, h3, _, a2, _⟩ := a
  have a1' : d.M w 0 S p c := d.M_mono h1 a1
  have a2' : Reps (d.M w 0 S) d.sz ps inner := a2.imp_ (fun _ _ hp => d.M_mono (fun k hk => h2 k (h3 k hk)) hp)
  exact a2'.snoc a1' (d.K_len (d.K_of_M a1'))
theorem Holds.eltsOne (h : Holds w (eltH d p c :: F)) : Holds w (eltsH d [p] c :: F) := by
  have := (h.drop.eltsNil d)
  obtain ⟨S1, T, d1, h1, h2, a1, b⟩ := h
  have h' : Holds w (eltH d p c :: eltsH d [] [] :: F) := ⟨S1, T, d1, h1, h2, a1, fun _ => False, T, fun _ h _ => h, fun _ h => h.elim, fun _ h => h, Reps.none _ _, b⟩
  have := h'.eltsSnoc
  simpa using this
/-- A literal. -/
theorem Holds.litRow (h : Holds w (eltsH d ps inner :: F)) (e : TypeId) (hm : ps.length ≤ 9223372036854775807) : Holds (w.alloc (.cells inner.toArray e)) (rowH d e (.slice (some ⟨w.heap.size, 0, none⟩) ps.length ps.length) ps :: F) :=
  h.change (fun S a hs => by
    refine ⟨fun k => S k ∨ w.heap.size ≤ k, fun _ h => h, ⟨fun k hk => ?_, OwnRow.lit w 0 (Reps.imp_ a (fun p c hp => ?_)) (Nat.zero_le _) hm⟩, fun k hk _ => Below.heap_alloc w _ k hk⟩
    · cases hk
      exact .inr (Nat.le_refl _)
    · refine d.M_mono (fun k (hk : S k) => ⟨.inl hk, fun he => ?_⟩) (d.M_move (w1 := w.alloc (.cells inner.toArray e)) (fun k hk => Below.heap_alloc w _ k (hs k hk)) hp)
      cases he
      exact absurd (hs _ hk) (Nat.lt_irrefl _))
end
section
variable {P : Program} {ops : Array Oper} {rest : List Oper} {o : Oper} {a : Act} {Q : Exit → Act → World → Prop} {α : Type} {W : World} {F : List Hp}
/-- append(v, u...), u's elements given away. -/
theorem H_append_move (d : Kd α) (hgd : o.guard = none) (s x : Operand) (t e : TypeId) (z : Value) (bytes : Nat)
    (ho : o.op = .call { callee := .builtin .append, args := #[s, x], argTypes := #[t, t] })
    (ht : P.underlying t = some (.slice e)) (hinfo : (P.info? e).map (fun i => (i.zero, i.size, i.bytes)) = some (some z, d.sz, bytes)) (hz : z.cells.size = d.sz) (hs0 : 0 < d.sz) (hb0 : 0 < bytes)
    (v u : Value) (xs ys : List α) (hs : a.eval s = v) (hx : a.eval x = u)
    (H : Holds W (rowH d e u ys :: rowH d e v xs :: F)) (hl : (xs.length + ys.length) * bytes ≤ 140737488355328)
    (h : ∀ zs A1 c1 w1, Hid (zs = xs ++ ys) → Holds w1 (rowH d e (.slice A1 zs.length c1) zs :: F) → zs.length ≤ c1 → Calm W w1 → wpList P ops Q rest (a.put o.dst (.slice A1 zs.length c1)) w1) :
    wpList P ops Q (o :: rest) a W := by
  have H' : Holds W (sepL [rowH d e u ys, rowH d e v xs] :: F) := Holds.group H
  obtain ⟨S, U, dSU, _, _, ⟨S1, T, d1, h1, h2, a1, S2, T2, d2, h3, _, a2, _⟩, fr⟩ := H'
  obtain ⟨A, c, rfl, hc, hR⟩ := OwnRow.reads a1.2
  have hRR : ReadsRow (d.M W 0 S1) d.sz W A ys.length ys := ReadsRow.imp_ hR (Below.refl _ _) (fun _ _ hp => d.M_mono (fun _ hk => hk.1) hp)
  refine Kd.R_append_rows d (w0 := W) 0 hgd s x t e z bytes ho ht hinfo hz hs0 hb0 v xs ys A ys.length c (fun k => S k ∨ W.heap.size ≤ k) S1 hs hx (Kd.R_mono a2 (fun k hk => .inl (h2 k (h3 k hk)))) hRR (fun _ _ h => h) (fun k hk => ⟨.inl (h1 k hk), fun he => d1 k hk (h3 k (a2.1 k he.symm))⟩) (fun _ h => .inr h) (Below.refl _ _) (Nat.zero_le _) hl ?_
  intro v1 w1 hR1 hb hg hat
  refine H_named (K := fun v w => wpList P ops Q rest (a.put o.dst v) w) h ?_ (Calm.of_below hb)
  have hv : ∀ k, v.ownBlock = some k → S k := fun k hk => h2 k (h3 k (a2.1 k hk))
  refine ⟨_, fun k => U k ∧ k < W.heap.size, fun k hk hk' => ?_, fun _ _ => trivial, fun _ _ => trivial, hR1, (sepL F).move (fun k hk => ?_) ((sepL F).bound fr)⟩
  · rcases hk with hk | hk
    · exact dSU k hk hk'.1
    · have := hk'.2
      omega
  · exact hg.block k hk.2 (fun he => dSU k (hv k he.symm) hk.1)
/-- H_append where the new block's number is spelled otherwise. -/
theorem H_append_b (d : Kd α) (hgd : o.guard = none) (s x : Operand) (t e : TypeId) (z : Value) (bytes : Nat)
    (ho : o.op = .call { callee := .builtin .append, args := #[s, x], argTypes := #[t, t] })
    (ht : P.underlying t = some (.slice e)) (hinfo : (P.info? e).map (fun i => (i.zero, i.size, i.bytes)) = some (some z, d.sz, bytes)) (hz : z.cells.size = d.sz) (hs0 : 0 < d.sz) (hb0 : 0 < bytes)
    (v : Value) (xs : List α) (p : α) (cs : List Value) (b : Nat) (hs : a.eval s = v) (hx : a.eval x = .slice (some ⟨b, 0, none⟩) 1 1) (hb : b = W.heap.size)
    (H : Holds W (eltH d p cs :: rowH d e v xs :: F)) (hl : (xs.length + 1) * bytes ≤ 140737488355328)
    (h : ∀ zs A1 c1 w1, Hid (zs = xs ++ [p]) → Holds w1 (rowH d e (.slice A1 zs.length c1) zs :: F) → zs.length ≤ c1 → Calm W w1 → wpList P ops Q rest (a.put o.dst (.slice A1 zs.length c1)) w1) :
    wpList P ops Q (o :: rest) a (W.alloc (.cells cs.toArray e)) := by
  subst hb
  exact H_append d hgd s x t e z bytes ho ht hinfo hz hs0 hb0 v xs p cs hs hx H hl h
theorem H_append_int_b (k : IntKind) (hgd : o.guard = none) (s x : Operand) (t e : TypeId) (bytes : Nat)
    (ho : o.op = .call { callee := .builtin .append, args := #[s, x], argTypes := #[t, t] })
    (ht : P.underlying t = some (.slice e)) (hinfo : (P.info? e).map (fun i => (i.zero, i.size, i.bytes)) = some (some (.int k 0), 1, bytes)) (hb0 : 0 < bytes)
    (v : Value) (xs : List Int) (p : Int) (b : Nat) (hs : a.eval s = v) (hx : a.eval x = .slice (some ⟨b, 0, none⟩) 1 1) (hb : b = W.heap.size)
    (H : Holds W (rowH (Kd.int k) e v xs :: F)) (hl : (xs.length + 1) * bytes ≤ 140737488355328)
    (h : ∀ zs A1 c1 w1, Hid (zs = xs ++ [p]) → Holds w1 (rowH (Kd.int k) e (.slice A1 zs.length c1) zs :: F) → zs.length ≤ c1 → Calm W w1 → wpList P ops Q rest (a.put o.dst (.slice A1 zs.length c1)) w1) :
    wpList P ops Q (o :: rest) a (W.alloc (.cells #[.int k p] e)) := by
  subst hb
  exact H_append_int k hgd s x t e bytes ho ht hinfo hb0 v xs p hs hx H hl h
end
/-! in a region that draws its order -/
section
variable {P : Program} {ops : Array Oper} {o : Oper} {a : Act} {Q : Exit → Act → World → Prop} {Kc : Act → World → Prop} {α : Type} {W : World} {F : List Hp}
theorem H_append_int_step (k : IntKind) (hw : Region.wanted o (yielded ops a.tmps) = true) (s x : Operand) (t e : TypeId) (bytes : Nat)
    (ho : o.op = .call { callee := .builtin .append, args := #[s, x], argTypes := #[t, t] })
    (ht : P.underlying t = some (.slice e)) (hinfo : (P.info? e).map (fun i => (i.zero, i.size, i.bytes)) = some (some (.int k 0), 1, bytes)) (hb0 : 0 < bytes)
    (v : Value) (xs : List Int) (p : Int) (b : Nat) (hs : a.eval s = v) (hx : a.eval x = .slice (some ⟨b, 0, none⟩) 1 1) (hb : b = W.heap.size)
    (H : Holds W (rowH (Kd.int k) e v xs :: F)) (hl : (xs.length + 1) * bytes ≤ 140737488355328)
    (h : ∀ zs A1 c1 w1, Hid (zs = xs ++ [p]) → Holds w1 (rowH (Kd.int k) e (.slice A1 zs.length c1) zs :: F) → zs.length ≤ c1 → Calm W w1 → Kc (a.put o.dst (.slice A1 zs.length c1)) w1) :
    if Region.wanted o (yielded ops a.tmps) = true then Oper.wp P o a (W.alloc (.cells #[.int k p] e)) Kc Q else Kc (a.put o.dst undef) (W.alloc (.cells #[.int k p] e)) := by
  subst hb
  obtain ⟨S0, a0, hS0⟩ := H.get
  have a0' : (Kd.int k).R e W 0 (fun b => S0 b ∨ W.heap.size ≤ b) v xs := Kd.R_mono a0 (fun _ h => .inl h)
  refine Kd.R_append_step (Kd.int k) (w0 := W) 0 hw s x t e (.int k 0) bytes ho ht hinfo rfl Nat.zero_lt_one hb0 v xs p [.int k p] (fun b => S0 b ∨ W.heap.size ≤ b) (fun _ => False) hs hx rfl (fun _ h => h.elim) (fun _ h => .inr h) a0' (Below.refl _ _) (Nat.zero_le _) hl ?_
  intro v1 w1 hR hb hg hat
  refine H_named (K := fun v w => Kc (a.put o.dst v) w) h (H.grown hg (fun ok hf hR0 => ?_)) (Calm.of_below hb)
  have hown : w1.ownsRow 0 e 1 v1 (xs ++ [p]).length (encs (Value.int k) (xs ++ [p])) := Kd.own_of_R hR
  refine Kd.R_of_own hown (fun b hb => ?_)
  rcases hat with hat | ⟨b', hb', hle⟩
  · exact hR0.1 b (hat ▸ hb)
  · rw [hb'] at hb
    cases hb
    exact hf _ hle
end
end Go.Proofs.Ythoajajgbafngaa
