/- Rows of elements that are just their cells (structs whose slices are read elsewhere). -/
import Derived.Test.YthoajajgbafngaaSep6
import Derived.Test.YthoajajgbafngaaWApart
namespace Go.Proofs.Ythoajajgbafngaa
set_option linter.unusedVariables false
set_option linter.unusedSimpArgs false
open Go.RowKit Go.Shelf Go.Proofs.YthoajajgbafngaaW.PrintWords Go.Proofs.YthoajajgbafngaaW.PrintLast Go.Proofs.YthoajajgbafngaaW.PrintMore

/-- The kind whose elements are just the cells that f tells. -/
def flatK {β : Type} (sz : Nat) (f : β → List Value) : Kd β := Kd.iso (Kd.raw sz) f
section
variable {β : Type} {sz : Nat} {f : β → List Value} {e : TypeId} {w : World} {F : List Hp} {xs : List β}
theorem Holds.eltFlat (h : Holds w F) (x : β) (hl : (f x).length = sz) (h1 : ∀ u ∈ f x, u.oneCell' = true) : Holds w (eltH (flatK sz f) x (f x) :: F) := h.emp.imp (fun _ _ _ => ⟨rfl, hl, h1⟩)
/-- The cells of one element, read of F alone. -/
theorem Rd.flatAt {A : Option Addr} (h : Rd (flatK sz f) F A xs.length xs) {i : Nat} (hi : i < xs.length) (hw : Holds w F) : ∃ ad, A = some ad ∧ ∀ j u, (f xs[i])[j]? = some u → w.cell? (ad.add (i * sz + j)) = some u := by
  obtain ⟨ad, cs, he, hl, hK, hc⟩ := Kd.C_get (h w hw) xs[i] (i : Int) (by omega) (by omega)
  rw [Int.toNat_natCast] at hK hc
  have hK' : cs = f xs[i] := by
    have := hK.1
    rw [this]
    simp [List.getD_eq_getElem?_getD, hi]
  subst hK'
  exact ⟨ad, he, fun j u hu => hc j u hu⟩
theorem Holds.flatAt {A0 : Option Addr} {N c : Nat} (h : Holds w (rowH (flatK sz f) e (.slice A0 N c) xs :: F)) (i : Nat) (hi : i < xs.length) : ∃ g, A0 = some ⟨g, 0, none⟩ ∧ g < w.heap.size ∧ ∀ j u, (f xs[i])[j]? = some u → w.cell? ⟨g, i * sz + j, none⟩ = some u := by
  obtain ⟨S, a, _⟩ := h.get
  obtain ⟨g, cap, hv, _, hlt, _⟩ := Kd.R_form a (show 0 < xs.length by omega)
  cases hv
  obtain ⟨ad, cs, he, hl, hK, hc⟩ := Kd.C_get (Kd.R_reads' a).2.2 xs[i] (i : Int) (by omega) (by omega)
  cases he
  rw [Int.toNat_natCast] at hK hc
  have hK' : cs = f xs[i] := by
    have := hK.1
    rw [this]
    simp [List.getD_eq_getElem?_getD, hi]
  subst hK'
  refine ⟨g, rfl, hlt, fun j u hu => ?_⟩
  have := hc j u hu
  rw [add_plain] at this
  exact this
theorem flat_R {w1 : World} {v : Value} {ok ok' : Nat → Prop} (h : (flatK sz f).R e w1 0 ok v xs) (h' : ∀ k, v.ownBlock = some k → ok' k) : (flatK sz f).R e w1 0 ok' v xs := by
  obtain ⟨_, inner, ho, hr⟩ := h
  exact ⟨h', inner, ho, hr.imp_ (fun _ _ hp => hp)⟩
variable {P : Program} {ops : Array Oper} {rest : List Oper} {o : Oper} {a : Act} {Q : Exit → Act → World → Prop} {W : World}
/-- append(v, ys...), ys read of the rest. -/
theorem H_append_flat (hgd : o.guard = none) (s x : Operand) (t e : TypeId) (z : Value) (bytes : Nat)
    (ho : o.op = .call { callee := .builtin .append, args := #[s, x], argTypes := #[t, t] })
    (ht : P.underlying t = some (.slice e)) (hinfo : (P.info? e).map (fun i => (i.zero, i.size, i.bytes)) = some (some z, sz, bytes)) (hz : z.cells.size = sz) (hs0 : 0 < sz) (hb0 : 0 < bytes)
    (v : Value) (xs ys : List β) (A : Option Addr) (m c : Nat) (hs : a.eval s = v) (hx : a.eval x = .slice A m c)
    (H : Holds W (rowH (flatK sz f) e v xs :: F)) (HR : (flatK sz f).C W A m ys) (hl : (xs.length + m) * bytes ≤ 140737488355328)
    (h : ∀ zs A1 c1 w1, Hid (zs = xs ++ ys) → Holds w1 (rowH (flatK sz f) e (.slice A1 zs.length c1) zs :: F) → zs.length ≤ c1 → Calm W w1 → wpList P ops Q rest (a.put o.dst (.slice A1 zs.length c1)) w1) :
    wpList P ops Q (o :: rest) a W := by
  obtain ⟨S0, a0, hS0⟩ := H.get
  refine Kd.R_append_rows (flatK sz f) (w0 := W) 0 hgd s x t e z bytes ho ht hinfo hz hs0 hb0 v xs ys A m c (fun k => S0 k ∨ W.heap.size ≤ k) (fun _ => False) hs hx (Kd.R_mono a0 (fun _ h => .inl h)) HR (fun _ _ h => h) (fun _ h => h.elim) (fun _ h => .inr h) (Below.refl _ _) (Nat.zero_le _) hl ?_
  intro v1 w1 hR hb hg hat
  refine H_named (K := fun v w => wpList P ops Q rest (a.put o.dst v) w) h (H.grown hg (fun ok hf hR0 => flat_R hR (fun b hb => ?_))) (Calm.of_below hb)
  rcases hat with hat | ⟨b', hb', hle⟩
  · exact hR0.1 b (hat ▸ hb)
  · rw [hb'] at hb
    cases hb
    exact hf _ hle
theorem H_append_flat_step {Kc : Act → World → Prop} (hw : Region.wanted o (yielded ops a.tmps) = true) (s x : Operand) (t e : TypeId) (z : Value) (bytes : Nat)
    (ho : o.op = .call { callee := .builtin .append, args := #[s, x], argTypes := #[t, t] })
    (ht : P.underlying t = some (.slice e)) (hinfo : (P.info? e).map (fun i => (i.zero, i.size, i.bytes)) = some (some z, sz, bytes)) (hz : z.cells.size = sz) (hs0 : 0 < sz) (hb0 : 0 < bytes)
    (v : Value) (xs : List β) (p : β) (cs : List Value) (hcs : f p = cs) (hpl : (f p).length = sz) (hp1 : ∀ u ∈ f p, u.oneCell' = true) (b : Nat) (hs : a.eval s = v) (hx : a.eval x = .slice (some ⟨b, 0, none⟩) 1 1) (hb : b = W.heap.size)
    (H : Holds W (rowH (flatK sz f) e v xs :: F)) (hl : (xs.length + 1) * bytes ≤ 140737488355328)
    (h : ∀ zs A1 c1 w1, Hid (zs = xs ++ [p]) → Holds w1 (rowH (flatK sz f) e (.slice A1 zs.length c1) zs :: F) → zs.length ≤ c1 → Calm W w1 → Kc (a.put o.dst (.slice A1 zs.length c1)) w1) :
    if Region.wanted o (yielded ops a.tmps) = true then Oper.wp P o a (W.alloc (.cells cs.toArray e)) Kc Q else Kc (a.put o.dst undef) (W.alloc (.cells cs.toArray e)) := by
  subst hb hcs
  obtain ⟨S0, a0, hS0⟩ := H.get
  have a0' : (flatK sz f).R e W 0 (fun b => S0 b ∨ W.heap.size ≤ b) v xs := Kd.R_mono a0 (fun _ h => .inl h)
  refine Kd.R_append_step (flatK sz f) (w0 := W) 0 hw s x t e z bytes ho ht hinfo hz hs0 hb0 v xs p (f p) (fun b => S0 b ∨ W.heap.size ≤ b) (fun _ => False) hs hx ⟨rfl, hpl, hp1⟩ (fun _ h => h.elim) (fun _ h => .inr h) a0' (Below.refl _ _) (Nat.zero_le _) hl ?_
  intro v1 w1 hR hb hg hat
  refine H_named (K := fun v w => Kc (a.put o.dst v) w) h (H.grown hg (fun ok hf hR0 => flat_R hR (fun b hb => ?_))) (Calm.of_below hb)
  rcases hat with hat | ⟨b', hb', hle⟩
  · exact hR0.1 b (hat ▸ hb)
  · rw [hb'] at hb
    cases hb
    exact hf _ hle
theorem Rd.flatTake {A : Option Addr} (h : Rd (flatK sz f) F A xs.length xs) (m : Nat) (hm : m ≤ xs.length) : Rd (flatK sz f) F A (xs.take m).length (xs.take m) := fun w hw => Kd.C_take (h w hw) hm
end
end Go.Proofs.Ythoajajgbafngaa
