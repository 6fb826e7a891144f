/- What slices.Clone makes: a row of the call's own, or an empty slice. -/
import Derived.Test.YthoajajgbafngaaSep3
import Derived.Deep.Upon
namespace Go.Proofs.Ythoajajgbafngaa
set_option linter.unusedVariables false
set_option linter.unusedSimpArgs false
open Go.RowKit Go.Shelf Go.Proofs.YthoajajgbafngaaW.PrintWords Go.Proofs.YthoajajgbafngaaW.PrintLast Go.Proofs.YthoajajgbafngaaW.PrintMore

/-- A row of the call's own, or an empty slice. -/
def cloneH (k : IntKind) (e : TypeId) (v : Value) (xs : List Int) : Hp where
  H w S := (Kd.int k).R e w 0 S v xs ∨ (xs = [] ∧ ∃ A c, v = .slice A 0 c)
  mono := fun hS h => h.imp (fun h => Kd.R_mono h hS) id
  bound := fun h => h.imp (fun h => Kd.R_mono (Kd.R_bound h) (fun _ hk => ⟨hk.1, hk.2.2.1⟩)) id
  move := fun hm h => h.imp (fun h => Kd.R_move h hm) id
section
variable {k : IntKind} {e : TypeId} {w : World} {v : Value} {A : Option Addr} {n c : Nat} {xs : List Int} {F : List Hp}
theorem Holds.cloneView (h : Holds w (cloneH k e (.slice A n c) xs :: F)) : n = xs.length ∧ Holds w (viewH k A xs :: F) := by
  obtain ⟨S, a, _⟩ := h.get
  refine ⟨?_, h.imp (fun S a _ => ?_)⟩
  · rcases a with a | ⟨rfl, _, _, he⟩
    · exact (Kd.R_reads' a).1
    · cases he
      rfl
  · rcases a with a | ⟨rfl, _, _, he⟩
    · exact ⟨(Kd.R_reads' a).2.2, fun ad e _ => a.1 _ (by rw [e]; rfl)⟩
    · exact ⟨Kd.C_of_reads (d := (0 : Int)) (h1 := fun _ => rfl) ⟨rfl, by simp, fun h => absurd h (Nat.lt_irrefl 0)⟩, fun _ _ h => absurd h (Nat.lt_irrefl 0)⟩
theorem Holds.cloneRow (h : Holds w (cloneH k e v xs :: F)) (h0 : 0 < xs.length) : Holds w (rowH (Kd.int k) e v xs :: F) := h.imp (fun S a _ => by
  rcases a with a | ⟨rfl, _⟩
  · exact a
  · exact absurd h0 (Nat.lt_irrefl 0))
end
theorem Holds.lit {w : World} {F : List Hp} (h : Holds w F) (k : IntKind) (e : TypeId) (xs : List Int) (hm : xs.length ≤ 9223372036854775807) : Holds (w.alloc (.cells (nums k xs).toArray e)) (rowH (Kd.int k) e (.slice (some ⟨w.heap.size, 0, none⟩) xs.length xs.length) xs :: F) :=
  h.new ((Below.refl _ w).alloc (Nat.le_refl _) _) (S := fun b => b = w.heap.size) (Kd.R_of_own (enc := Value.int k) (own_lit w 0 e k xs (Nat.zero_le _) hm) (fun b hb => by cases hb; rfl)) (fun b hb => by omega)
theorem Holds.litNil {w : World} {F : List Hp} (h : Holds w F) (k : IntKind) (e : TypeId) : Holds (w.alloc (.cells #[] e)) (rowH (Kd.int k) e (.slice (some ⟨w.heap.size, 0, none⟩) 0 0) [] :: F) := h.lit k e [] (by simp)
section
variable {P : Program} {ops : Array Oper} {rest : List Oper} {o : Oper} {a : Act} {Q : Exit → Act → World → Prop} {W : World} {F : List Hp}
theorem H_append_empty (k : IntKind) (hgd : o.guard = none) (s x : Operand) (t e : TypeId) (bytes : Nat)
    (ho : o.op = .call { callee := .builtin .append, args := #[s, x], argTypes := #[t, t] })
    (ht : P.underlying t = some (.slice e)) (hinfo : (P.info? e).map (fun i => (i.zero, i.size, i.bytes)) = some (some (.int k 0), 1, bytes))
    (A0 : Option Addr) (ys : List Int) (A : Option Addr) (m c : Nat) (hs : a.eval s = .slice A0 0 0) (hx : a.eval x = .slice A m c)
    (H : Holds W F) (HR : (Kd.int k).C W A m ys) (hl : m * bytes ≤ 140737488355328)
    (h : ∀ A1 c1 w1, Holds w1 (cloneH k e (.slice A1 m c1) ys :: F) → m ≤ c1 → Calm W w1 → wpList P ops Q rest (a.put o.dst (.slice A1 m c1)) w1) :
    wpList P ops Q (o :: rest) a W := by
  obtain ⟨i0, hi, hzz⟩ := Option.map_eq_some_iff.1 hinfo
  simp only [Prod.mk.injEq] at hzz
  obtain ⟨hz0, hz1, hz2⟩ := hzz
  have hr := Kd.reads_of_C (d := (0 : Int)) (h1 := fun _ => rfl) HR
  have hm : ys.length = m := hr.1
  have hrun : ∃ A1 c1 w1, (Builtin.append_ #[t, t] o.type #[.slice A0 0 0, .slice A m c]).run P W = .ok (.slice A1 m c1) w1 ∧ Holds w1 (cloneH k e (.slice A1 m c1) ys :: F) ∧ m ≤ c1 ∧ Calm W w1 := by
    by_cases h0 : m = 0
    · subst h0
      have hsrc : Src P i0.size t (.slice A 0 c) 0 [] W := ⟨.inl ⟨_, ht⟩, fun _ => rfl, by cases A <;> simp [Builtin.firstCells, loadCells, loadCellsFrom], by cases A <;> simp [Builtin.firstCells, loadCells, loadCellsFrom], by simp, fun _ h => by cases h⟩
      refine ⟨A0, 0, W, run_append_nothing W t t o.type e i0 ht hi A0 0 0 (Nat.le_refl _) _ hsrc, H.emp.imp (fun _ _ _ => .inr ⟨List.eq_nil_of_length_eq_zero hm, A0, 0, rfl⟩), Nat.le_refl _, Calm.refl _⟩
    · obtain ⟨ad, rfl, hc⟩ := hr.2.2 (by omega)
      have hcell : ∀ (j : Nat) (u : Value), (nums k ys)[j]? = some u → W.cell? (ad.add j) = some u := by
        intro j u hu
        have hj : j < ys.length := by have := (List.getElem?_eq_some_iff.1 hu).1; simpa [nums] using this
        rw [hc j (by omega)]
        simp [nums, hj] at hu
        simp [List.getD_eq_getElem?_getD, hj, hu]
      have hsrc : Src P i0.size t (.slice (some ad) m c) m (nums k ys) W := Src.ofSlice W ht ad m c _ (by rw [hz1]; simp [nums, hm]) hcell (ints_oneCell k ys)
      have hcb : m ≤ 140737488355328 ∨ bytes = 0 := by
        rcases Nat.eq_zero_or_pos bytes with h | h
        · exact .inr h
        · exact .inl (Nat.le_trans (Nat.le_mul_of_pos_right _ h) hl)
      have hmax : m ≤ 9223372036854775807 := hr.2.1
      have hrun := run_append_grow_src W t t o.type e i0 (.int k 0) ht hi hz0 A0 0 0 [] (by cases A0 <;> simp [Builtin.firstCells, loadCells, loadCellsFrom]) _ m (nums k ys) hsrc (by omega) (by omega) (by rw [hz2]; exact growslice_fits (by omega) (by simpa using hl))
      simp only [Nat.zero_add, List.nil_append] at hrun
      have hge := grownCap_ge W m 0 e
      have hcm : grownCap W m 0 e ≤ maxLen := grownCap_le_maxLen W m 0 e (by simp only [maxLen]; omega)
      refine ⟨_, _, _, hrun, ?_, hge, (Calm.refl W).drew.alloc _⟩
      refine H.new (w' := W.drew.alloc _) ((Below.refl _ W).drew.alloc (Nat.le_refl _) _) (S := fun b => b = W.heap.size) (.inl (Kd.R_of_own ?_ (fun b hb => ?_))) (fun b hb => by omega)
      · refine ⟨by simp [encs], .inr ⟨W.heap.size, _, _, by rw [hm], Nat.zero_le _, heap_alloc_new W.drew _, by rw [hm]; exact hge, hcm, ?_, ?_⟩⟩
        · have hz1' : (Value.int k 0).cells.size = 1 := rfl
          simp only [Array.size_append, List.size_toArray, size_zeroCells, hz1', nums, List.length_map, hm]
          omega
        · simp only [Array.toList_append, hm]
          rw [List.take_append_of_le_length (by simp [nums, hm])]
          rw [List.take_of_length_le (by simp [nums, hm])]
          simp [nums, encs]
      · cases hb
        rfl
  obtain ⟨A1, c1, w1, hr1, h1, h2, h3⟩ := hrun
  refine wpList_plain hgd fun K hK => ?_
  unfold Oper.wp execOp
  simp only [ho, resolve, invoke, builtin, Sem.run_bind, Sem.run_pure, Result.andThen_ok, List.map_toArray, List.map_cons, List.map_nil, hs, hx, hr1]
  exact hK _ _ (h A1 c1 w1 h1 h2 h3)
end
end Go.Proofs.Ythoajajgbafngaa
