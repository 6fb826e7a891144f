/- Appending to a row that lies apart from the rest. -/
import Derived.Test.YthoajajgbafngaaSep
namespace Go.Proofs.Ythoajajgbafngaa
set_option linter.unusedVariables false
set_option linter.unusedSimpArgs false
open Go.RowKit Go.Shelf Go.Proofs.YthoajajgbafngaaW.PrintWords Go.Proofs.YthoajajgbafngaaW.PrintLast Go.Proofs.YthoajajgbafngaaW.PrintMore

theorem Holds.c {w : World} {g : Nat} {t : TypeId} {cs : Array Value} {F : List Hp} (h : Holds w (blkH g t cs :: F)) (i : Nat) (v : Value) (e : cs[i]? = some v) : w.cell? ⟨g, i, none⟩ = some v := (h.cell i).trans e

section
variable {α : Type} {d : Kd α} {e : TypeId} {W w1 : World} {v v1 : Value} {xs ys : List α} {F : List Hp} {p : α} {cs : List Value}
/-- A row that was written, or made anew: the others lie as they lay. -/
theorem Holds.grown (h : Holds W (rowH d e v xs :: F)) (hg : W.grownBy w1 v.ownBlock) (k : ∀ ok : Nat → Prop, (∀ k, W.heap.size ≤ k → ok k) → d.R e W 0 ok v xs → d.R e w1 0 ok v1 ys) : Holds w1 (rowH d e v1 ys :: F) :=
  h.change (fun S a hs => ⟨fun k => S k ∨ W.heap.size ≤ k, fun _ h => h, k _ (fun _ h => .inr h) (Kd.R_mono a (fun _ h => .inl h)), fun k hk hn => hg.block k hk (fun he => hn (a.1 k he.symm))⟩)
theorem Holds.grown_elt (h : Holds W (eltH d p cs :: rowH d e v xs :: F)) (hg : W.grownBy w1 v.ownBlock)
    (k : ∀ ok okp : Nat → Prop, (∀ k, W.heap.size ≤ k → ok k) → (∀ k, okp k → ok k ∧ some k ≠ v.ownBlock) → d.M W 0 okp p cs → d.R e W 0 ok v xs → d.R e w1 0 ok v1 ys) : Holds w1 (rowH d e v1 ys :: F) := by
  have h' : Holds W (sepL [eltH d p cs, rowH d e v xs] :: F) := Holds.group h
  refine h'.change (fun S a hs => ?_)
  obtain ⟨S1, T, d1, h1, h2, a1, S2, T2, d2, h3, _, a2, _⟩ := a
  refine ⟨fun k => S k ∨ W.heap.size ≤ k, fun _ h => h, k _ S1 (fun _ h => .inr h) (fun k hk => ⟨.inl (h1 k hk), fun he => d1 k hk (h3 k (a2.1 k he.symm))⟩) a1 (Kd.R_mono a2 (fun k h => .inl (h2 k (h3 k h)))), fun k hk hn => hg.block k hk (fun he => hn (h2 k (h3 k (a2.1 k he.symm))))⟩
end

/-- append of a string, and where the row lies. -/
theorem run_append_str_at {P : Program} (w : World) (base : Nat) (t u ty e : TypeId) (i : TypeInfo) (ht : P.underlying t = some (.slice e)) (hu : P.underlying u = some .string) (hi : P.info? e = some i) (hz : i.zero = some (.int .u8 0))
    (hsize : i.size = 1) (hby : i.bytes = 1) (v : Value) (n : Nat) (xs : List Value) (hown : w.ownsRow base e 1 v n xs) (s : ByteArray) (hbytes : n + s.size ≤ 140737488355328) (hbase : base ≤ w.heap.size) :
    ∃ v' w', (Builtin.append_ #[t, u] ty #[v, .string s]).run P w = .ok v' w' ∧ w'.ownsRow base e 1 v' (n + s.size) (xs ++ Lib.strCells s) ∧ w.grownBy w' v.ownBlock ∧ (v'.ownBlock = v.ownBlock ∨ ∃ b, v'.ownBlock = some b ∧ w.heap.size ≤ b) := by
  obtain ⟨v', w', hr, ho, hg, _⟩ := Lib.run_append_own_string (P := P) w base t u ty e i ht hu hi hz hsize hby v n xs hown s (by simp only [maxLen]; omega) hbytes hbase
  refine ⟨v', w', hr, ho, hg, ?_⟩
  rcases hown.2 with ⟨rfl, rfl⟩ | ⟨g, cap, cur, rfl, hbg, hgg, hnc, hcm, hcs, htake⟩
  · by_cases hm : s.size = 0
    · have hf := Lib.run_firstCells_string (P := P) w 1 s
      rw [hm] at hf
      have hr2 : (Builtin.append_ #[t, u] ty #[.slice none 0 0, .string s]).run P w = .ok (.slice none 0 0) w := by
        simp [Builtin.append_, run_underlying ht, run_underlying hu, sizeOf, typeInfo, hi, hsize, Builtin.lenOf, hm, hf]
      rw [hr2] at hr
      cases hr
      exact .inl rfl
    · have hr2 := run_append_nil_string (P := P) w t u ty e i (.int .u8 0) ht hu hi hz s (by omega) (by omega) (by rw [hby]; omega)
      rw [hr2] at hr
      cases hr
      exact .inr ⟨_, rfl, Nat.le_refl _⟩
  · by_cases hroom : n + s.size ≤ cap
    · have hr2 := Lib.run_append_room_string (P := P) w t u ty e i ht hu hi hsize g n cap cur hgg s hroom (by omega)
      rw [hr2] at hr
      cases hr
      exact .inl rfl
    · have holds : ∀ j u, xs[j]? = some u → w.cell? ((⟨g, 0, none⟩ : Addr).add j) = some u := hown.cells (g := g) rfl
      have hr2 := Lib.run_append_grow_string (P := P) w t u ty e i (.int .u8 0) ht hu hi hz ⟨g, 0, none⟩ n cap xs (by rw [hsize]; exact hown.1) holds s (by omega) (by omega) (by rw [hby]; exact growslice_fits (by omega) (by omega))
      rw [hr2] at hr
      cases hr
      exact .inr ⟨_, rfl, Nat.le_refl _⟩

section
variable {P : Program} {ops : Array Oper} {rest : List Oper} {o : Oper} {a : Act} {Q : Exit → Act → World → Prop} {Kc : Act → World → Prop} {α : Type} {W : World} {F : List Hp}
/-- The new row under a name of its own. -/
theorem H_named {d : Kd α} {e : TypeId} {ys : List α} {W w1 : World} {v1 : Value} {K : Value → World → Prop}
    (h : ∀ zs A1 c1 w1, Hid (zs = ys) → Holds w1 (rowH d e (.slice A1 zs.length c1) zs :: F) → zs.length ≤ c1 → Calm W w1 → K (.slice A1 zs.length c1) w1)
    (H : Holds w1 (rowH d e v1 ys :: F)) (hc : Calm W w1) : K v1 w1 := by
  obtain ⟨A, c, rfl, hle, _⟩ := H.row
  exact h ys A c w1 rfl H hle hc
/-- append(v, x), x's cells cs; behind 'at_builtin'. -/
theorem H_append (d : Kd α) (hgd : o.guard = none) (s x : Operand) (t e : TypeId) (z : Value) (bytes : Nat)
    (ho : o.op = .call { callee := .builtin .append, args := #[s, x], argTypes := #[t, t] })
    (ht : P.underlying t = some (.slice e)) (hinfo : (P.info? e).map (fun i => (i.zero, i.size, i.bytes)) = some (some z, d.sz, bytes)) (hz : z.cells.size = d.sz) (hs0 : 0 < d.sz) (hb0 : 0 < bytes)
    (v : Value) (xs : List α) (p : α) (cs : List Value) (hs : a.eval s = v) (hx : a.eval x = .slice (some ⟨W.heap.size, 0, none⟩) 1 1)
    (H : Holds W (eltH d p cs :: rowH d e v xs :: F)) (hl : (xs.length + 1) * bytes ≤ 140737488355328)
    (h : ∀ zs A1 c1 w1, Hid (zs = xs ++ [p]) → Holds w1 (rowH d e (.slice A1 zs.length c1) zs :: F) → zs.length ≤ c1 → Calm W w1 → wpList P ops Q rest (a.put o.dst (.slice A1 zs.length c1)) w1) :
    wpList P ops Q (o :: rest) a (W.alloc (.cells cs.toArray e)) := by
  obtain ⟨S0, a0, -⟩ := H.drop.get
  obtain ⟨S1, a1, -⟩ := H.get
  have a0' : d.R e W 0 S0 v xs := a0
  obtain ⟨_, inner, hown, hr⟩ := a0'
  refine print_append_cells (w0 := W) 0 hgd s x t e z d.sz bytes ho ht hinfo hz hs0 hb0 v xs.length inner cs hs hx (d.K_len (d.K_of_M a1)) (d.K_one (d.K_of_M a1)) hown (Below.refl _ _) (Nat.zero_le _) hl ?_
  intro v1 w1 hown1 hb1 hg1 hat1
  refine H_named (K := fun v w => wpList P ops Q rest (a.put o.dst v) w) h (H.grown_elt hg1 (fun ok okp hf hd hp hR => ?_)) (Calm.of_below hb1)
  obtain ⟨h0, inner', hown', hr'⟩ := hR
  obtain rfl : inner' = inner := by
    rcases hown.2 with ⟨rfl, hn0⟩ | ⟨g, cap, cur, rfl, _, hgg, _, _, _, ht1⟩
    · have l1 := hown.1
      have l2 := hown'.1
      rw [hn0, Nat.zero_mul] at l1 l2
      rw [List.eq_nil_of_length_eq_zero l1, List.eq_nil_of_length_eq_zero l2]
    · rcases hown'.2 with ⟨h1, _⟩ | ⟨g', cap', cur', h1, _, hgg', _, _, _, ht2⟩
      · cases h1
      · cases h1
        rw [hgg] at hgg'
        cases hgg'
        rw [← ht1, ← ht2]
  exact Kd.R_appended h0 hr' hp hd hf hown1 hg1 hat1
/-- append(v, x), x a whole number. -/
theorem H_append_int (k : IntKind) (hgd : o.guard = none) (s x : Operand) (t e : TypeId) (bytes : Nat)
    (ho : o.op = .call { callee := .builtin .append, args := #[s, x], argTypes := #[t, t] })
    (ht : P.underlying t = some (.slice e)) (hinfo : (P.info? e).map (fun i => (i.zero, i.size, i.bytes)) = some (some (.int k 0), 1, bytes)) (hb0 : 0 < bytes)
    (v : Value) (xs : List Int) (p : Int) (hs : a.eval s = v) (hx : a.eval x = .slice (some ⟨W.heap.size, 0, none⟩) 1 1)
    (H : Holds W (rowH (Kd.int k) e v xs :: F)) (hl : (xs.length + 1) * bytes ≤ 140737488355328)
    (h : ∀ zs A1 c1 w1, Hid (zs = xs ++ [p]) → Holds w1 (rowH (Kd.int k) e (.slice A1 zs.length c1) zs :: F) → zs.length ≤ c1 → Calm W w1 → wpList P ops Q rest (a.put o.dst (.slice A1 zs.length c1)) w1) :
    wpList P ops Q (o :: rest) a (W.alloc (.cells #[.int k p] e)) :=
  H_append (Kd.int k) hgd s x t e (.int k 0) bytes ho ht hinfo rfl (Nat.zero_lt_one) hb0 v xs p [.int k p] hs hx (H.emp.imp (fun _ _ _ => rfl)) hl h
/-- append(v, ys...), ys read of the rest. -/
theorem H_append_ints (k : IntKind) (hgd : o.guard = none) (s x : Operand) (t e : TypeId) (bytes : Nat)
    (ho : o.op = .call { callee := .builtin .append, args := #[s, x], argTypes := #[t, t] })
    (ht : P.underlying t = some (.slice e)) (hinfo : (P.info? e).map (fun i => (i.zero, i.size, i.bytes)) = some (some (.int k 0), 1, bytes)) (hb0 : 0 < bytes)
    (v : Value) (xs ys : List Int) (A : Option Addr) (m c : Nat) (hs : a.eval s = v) (hx : a.eval x = .slice A m c)
    (H : Holds W (rowH (Kd.int k) e v xs :: F)) (HR : (Kd.int k).C W A m ys) (hl : (xs.length + m) * bytes ≤ 140737488355328)
    (h : ∀ zs A1 c1 w1, Hid (zs = xs ++ ys) → Holds w1 (rowH (Kd.int k) e (.slice A1 zs.length c1) zs :: F) → zs.length ≤ c1 → Calm W w1 → wpList P ops Q rest (a.put o.dst (.slice A1 zs.length c1)) w1) :
    wpList P ops Q (o :: rest) a W := by
  obtain ⟨S0, a0, hS0⟩ := H.get
  refine Kd.R_append_rows (Kd.int k) (w0 := W) 0 hgd s x t e (.int k 0) bytes ho ht hinfo rfl (Nat.zero_lt_one) hb0 v xs ys A m c (fun k => S0 k ∨ W.heap.size ≤ k) (fun _ => False) hs hx (Kd.R_mono a0 (fun _ h => .inl h)) HR (fun _ _ h => h) (fun _ h => h.elim) (fun _ h => .inr h) (Below.refl _ _) (Nat.zero_le _) hl ?_
  intro v1 w1 hR hb hg hat
  refine H_named (K := fun v w => wpList P ops Q rest (a.put o.dst v) w) h (H.grown hg (fun ok hf hR0 => ?_)) (Calm.of_below hb)
  have hown : w1.ownsRow 0 e 1 v1 (xs ++ ys).length (encs (Value.int k) (xs ++ ys)) := Kd.own_of_R hR
  refine Kd.R_of_own hown (fun b hb => ?_)
  rcases hat with hat | ⟨b', hb', hle⟩
  · exact hR0.1 b (hat ▸ hb)
  · rw [hb'] at hb
    cases hb
    exact hf _ hle
/-- append(v, s...), s a string. -/
theorem H_append_str (hgd : o.guard = none) (s x : Operand) (t u e : TypeId)
    (ho : o.op = .call { callee := .builtin .append, args := #[s, x], argTypes := #[t, u] })
    (ht : P.underlying t = some (.slice e)) (hu : P.underlying u = some .string) (hinfo : (P.info? e).map (fun i => (i.zero, i.size, i.bytes)) = some (some (.int .u8 0), 1, 1))
    (v : Value) (xs : List Int) (y : ByteArray) (hs : a.eval s = v) (hx : a.eval x = .string y)
    (H : Holds W (rowH (Kd.int .u8) e v xs :: F)) (hl : xs.length + y.size ≤ 140737488355328)
    (h : ∀ zs A1 c1 w1, Hid (zs = xs ++ bytesOf y) → Holds w1 (rowH (Kd.int .u8) e (.slice A1 zs.length c1) zs :: F) → zs.length ≤ c1 → Calm W w1 → wpList P ops Q rest (a.put o.dst (.slice A1 zs.length c1)) w1) :
    wpList P ops Q (o :: rest) a W := by
  obtain ⟨i0, hi, hzz⟩ := Option.map_eq_some_iff.1 hinfo
  simp only [Prod.mk.injEq] at hzz
  obtain ⟨hz0, hz1, hz2⟩ := hzz
  obtain ⟨S0, a0, hS0⟩ := H.get
  have hown0 : W.ownsRow 0 e 1 v xs.length (nums .u8 xs) := Kd.own_of_R a0
  obtain ⟨v1, w1, hr, ho1, hg, hat⟩ := run_append_str_at (P := P) W 0 t u o.type e i0 ht hu hi hz0 hz1 hz2 v xs.length (nums .u8 xs) hown0 y hl (Nat.zero_le _)
  have hfin := H_named (K := fun v w => wpList P ops Q rest (a.put o.dst v) w) h (H.grown hg (fun ok hf hR0 => by
    have hl2 : (xs ++ bytesOf y).length = xs.length + y.size := by rw [List.length_append, bytesOf_length]
    have hc : nums .u8 (xs ++ bytesOf y) = nums .u8 xs ++ Lib.strCells y := by
      rw [nums_append]
      congr 1
      simp [nums, bytesOf, Lib.strCells]
    refine Kd.R_of_own (enc := Value.int .u8) (by rw [hl2]; exact (show encs (Value.int .u8) (xs ++ bytesOf y) = _ from hc) ▸ ho1) (fun b hb => ?_)
    rcases hat with hat | ⟨b', hb', hle⟩
    · exact hR0.1 b (hat ▸ hb)
    · rw [hb'] at hb
      cases hb
      exact hf _ hle)) (Calm.trans (Calm.refl _) ⟨hg.os, hg.tape, hg.output, hg.size⟩)
  refine wpList_plain hgd fun K hK => ?_
  unfold Oper.wp execOp
  simp only [ho, resolve, invoke, builtin, Sem.run_bind, Sem.run_pure, Result.andThen_ok, List.map_toArray, List.map_cons, List.map_nil, hs, hx, hr]
  exact hK _ _ hfin
end
end Go.Proofs.Ythoajajgbafngaa
