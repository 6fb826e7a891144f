/- The walks of the laws HashBytes, HashPairs, HashArguments: each returns true, whatever its arguments, and leaves what lay as it lay. -/
import Derived.Test.YtnkbaaffihocjaaHashLaws
namespace Go.Proofs.Ytnkbaaffihocjaa
set_option linter.unusedVariables false
set_option linter.unusedSimpArgs false
open Go.RowKit Go.Shelf Go.Proofs.YtnkbaaffihocjaaW.PrintWords Go.Proofs.YtnkbaaffihocjaaW.PrintLast Go.Proofs.YtnkbaaffihocjaaW.PrintMore

theorem u8_of_wf {l : List Int} (h : ∀ x ∈ l, (Lit.int .u8 x).wf = true) : AllU8 l := by
  intro x hx
  have := h x hx
  simp [Lit.wf, IntKind.min, IntKind.max, IntKind.bits, IntKind.signed] at this
  omega
theorem u64_of_wf {x : Int} (h : (Lit.int .u64 x).wf = true) : U64 x := by
  simp [Lit.wf, IntKind.min, IntKind.max, IntKind.bits, IntKind.signed] at h
  exact ⟨by omega, by omega⟩

theorem beq_beq {α β : Type} [BEq α] [LawfulBEq α] [BEq β] [LawfulBEq β] {x y : α} {a b : β} (h : x = y ↔ a = b) : ((x == y) == (a == b)) = true := by
  have e : (x == y) = (a == b) := by rw [Bool.eq_iff_iff, beq_iff_eq, beq_iff_eq]; exact h
  rw [e]; simp

theorem Ints_at (A : Option Addr) (c : Nat) (l : List Int) (most : Int) (r : List Int) (hr : Hid (l.take most.toNat = r)) (h0 : 0 ≤ most) (hl : l.length * 8 ≤ 140737488351232) (w : World) (hC : (Kd.int .i64).C w A l.length l) (hc : l.length ≤ c) :
    Calls Try.prog 12 #[.slice A l.length c, .int .i64 most] w fun e w' => ∃ A' c', e = .returned (.slice A' r.length c') ∧ r.length ≤ c' ∧ (Kd.int .i64).R 3 w' w.heap.size (fun _ => True) (.slice A' r.length c') r ∧ Below w.heap.size w w' := by
  have hr' := hr.out
  subst hr'
  refine (Ints_calls A c l most h0 hl w hC hc).mono ?_
  rintro e w' ⟨v, rfl, hR, hB⟩
  obtain ⟨A', c', rfl, h1, h2⟩ := Kd.R_reads hR
  exact ⟨A', c', rfl, h1, hR, hB⟩
theorem Few_at (A : Option Addr) (c : Nat) (l : List Int) (most : Int) (r : List Int) (hr : Hid (l.take most.toNat = r)) (h0 : 0 ≤ most) (hl : l.length ≤ 140737488351232) (w : World) (hC : (Kd.int .u8).C w A l.length l) (hc : l.length ≤ c) :
    Calls Try.prog 16 #[.slice A l.length c, .int .i64 most] w fun e w' => ∃ A' c', e = .returned (.slice A' r.length c') ∧ r.length ≤ c' ∧ (Kd.int .u8).R 5 w' w.heap.size (fun _ => True) (.slice A' r.length c') r ∧ Below w.heap.size w w' := by
  have hr' := hr.out
  subst hr'
  refine (Few_calls A c l most h0 hl w hC hc).mono ?_
  rintro e w' ⟨v, rfl, hR, hB⟩
  obtain ⟨A', c', rfl, h1, h2⟩ := Kd.R_reads hR
  exact ⟨A', c', rfl, h1, hR, hB⟩
/-- The first elements, under a name. -/
theorem take_name (l : List Int) (most : Int) : ∃ r, Hid (l.take most.toNat = r) ∧ r.length ≤ most.toNat ∧ r.length ≤ l.length ∧ (AllU8 l → AllU8 r) :=
  ⟨l.take most.toNat, rfl, by rw [List.length_take]; omega, by rw [List.length_take]; omega, fun h => allU8_take h _⟩

set_option maxRecDepth 100000 in
set_option maxHeartbeats 2000000 in
theorem HashBytes_walk (s : ByteArray) (a : Option Addr) (len cap : Nat) (zs : List Int) (x y : Int) (w : World) (hs : s.size ≤ 140737488351232) (hrow : IsRow .u8 w a len cap zs) (hlen : len * 1 ≤ 140737488351232) (hx : (Lit.int .u64 x).wf = true) (hy : (Lit.int .u64 y).wf = true) :
    Calls Try.prog 4 #[.string s, .slice a len cap, .int .u64 x, .int .u64 y] w fun e w' => e = .returned (.bool true) ∧ Below w.heap.size w w' := by
  obtain ⟨l, rfl, hc, hC, hwf⟩ := row_in hrow
  have hz := u8_of_wf hwf
  clear hrow hx hy hwf
  have hsz := (shortS_size s 20).1
  go_enter Try.func4, Try.ntmps4
  go_wp2_with fail
  refine (Short_calls s hs 20 (by omega) w).mono ?_
  rintro e w1 ⟨rfl, rfl⟩
  go_wp2_with fail
  refine (Few_calls a cap l 60 (by omega) (by omega) w hC hc).mono ?_
  rintro e w1 ⟨v, rfl, hR, hB1⟩
  obtain ⟨A1, c1, rfl, hc1, hC1⟩ := Kd.R_reads hR
  clear hR
  have hz2 := allU8_take hz (60 : Int).toNat
  generalize hl2 : l.take (60 : Int).toNat = l2 at *
  have hl2' : l2.length ≤ 60 := by rw [← hl2, List.length_take]; omega
  clear hl2
  generalize shortS s 20 = s2 at *
  go_wp2_with fail
  refine (Bytes_calls s2 (by omega) A1 c1 l2 hz2 (by omega) w1 hC1 hc1).mono ?_
  rintro e w2 ⟨rfl, hB2⟩
  go_wp2_with fail
  refine (refBytes_calls s2 (by omega) A1 c1 l2 hz2 (by omega) w2 (Kd.C_below hC1 hB2) hc1).mono ?_
  rintro e w3 ⟨rfl, hB3⟩
  go_wp2_with fail
  refine (Pair_calls x y w3).mono ?_
  rintro e w4 ⟨rfl, hB4⟩
  go_wp2_with fail
  refine (refPair_calls x y w4).mono ?_
  rintro e w5 ⟨rfl, hB5⟩
  go_wp2_with fail
  refine (lives_calls w5).mono ?_
  rintro e w6 ⟨rfl, hB6⟩
  go_wp2
  go_ret
  exact ⟨rfl, bthen (bthen (bthen (bthen (bthen hB1 hB2) hB3) hB4) hB5) hB6⟩

theorem Sum_pair (x y : Int) (w0 : World) :
    Calls Try.prog 13 #[.string ⟨#[112, 97, 105, 114]⟩, .slice (some ⟨w0.heap.size, 0, none⟩) 2 2] (w0.alloc (.cells #[.int .i64 (wrap64 x), .int .i64 (wrap64 y)] 3)) fun e w' => e = .returned (.int .u64 (pairI x y)) ∧ Below w0.heap.size w0 w' :=
  Sum_lit ⟨#[112, 97, 105, 114]⟩ (by decide) [wrap64 x, wrap64 y] 2 rfl (by omega) w0

set_option maxRecDepth 100000 in
set_option maxHeartbeats 2000000 in
theorem HashPairs_walk (a b c : Int) (w : World) (ha : (Lit.int .u64 a).wf = true) (hb : (Lit.int .u64 b).wf = true) (hc : (Lit.int .u64 c).wf = true) :
    Calls Try.prog 9 #[.int .u64 a, .int .u64 b, .int .u64 c] w fun e w' => e = .returned (.bool true) ∧ Below w.heap.size w w' := by
  have h1 : ((pairI a c == pairI b c) == (a == b)) = true := by
    exact beq_beq (pairI_left (u64_of_wf ha) (u64_of_wf hb) (u64_of_wf hc))
  have h2 : ((pairI c a == pairI c b) == (a == b)) = true := by
    exact beq_beq (pairI_right (u64_of_wf ha) (u64_of_wf hb) (u64_of_wf hc))
  clear ha hb hc
  go_enter Try.func9, Try.ntmps9
  go_wp2_with fail
  refine (Pair_calls a c w).mono ?_
  rintro e w1 ⟨rfl, hB1⟩
  go_wp2_with fail
  refine (Pair_calls b c w1).mono ?_
  rintro e w2 ⟨rfl, hB2⟩
  go_wp2_with fail
  refine (Pair_calls c a w2).mono ?_
  rintro e w3 ⟨rfl, hB3⟩
  go_wp2_with fail
  refine (Pair_calls c b w3).mono ?_
  rintro e w4 ⟨rfl, hB4⟩
  go_wp2_with fail
  refine (Pair_calls a b w4).mono ?_
  rintro e w5 ⟨rfl, hB5⟩
  go_wp2_with fail
  refine (Sum_pair a b w5).mono ?_
  rintro e w6 ⟨rfl, hB6⟩
  go_wp2_with fail
  refine (lives_calls w6).mono ?_
  rintro e w7 ⟨rfl, hB7⟩
  go_wp2
  go_ret
  exact ⟨rfl, bthen (bthen (bthen (bthen (bthen (bthen hB1 hB2) hB3) hB4) hB5) hB6) hB7⟩

set_option maxRecDepth 100000 in
set_option maxHeartbeats 2000000 in
theorem HashArguments_walk (a : Option Addr) (len cap : Nat) (zs : List Int) (a' : Option Addr) (len' cap' : Nat) (zs' : List Int) (w : World) (hrow : IsRow .i64 w a len cap zs) (hlen : len * 8 ≤ 140737488351232) (hrow' : IsRow .u8 w a' len' cap' zs') (hlen' : len' * 1 ≤ 140737488351232) :
    Calls Try.prog 10 #[.slice a len cap, .slice a' len' cap'] w fun e w' => e = .returned (.bool true) ∧ Below w.heap.size w w' := by
  obtain ⟨l, rfl, hc, hC, _⟩ := row_in hrow
  obtain ⟨b, rfl, hc', hC', hwf⟩ := row_in hrow'
  have hz := u8_of_wf hwf
  clear hrow hrow' hwf
  obtain ⟨l2, Hl2, hl2, _, _⟩ := take_name l 10
  obtain ⟨b2, Hb2, hb2, _, hz2⟩ := take_name b 30
  have hz2 := hz2 hz
  go_enter Try.func10, Try.ntmps10
  go_wp2_with fail
  refine (Ints_at a cap l 10 l2 Hl2 (by omega) hlen w hC hc).mono ?_
  rintro e w1 ⟨A1, c1, rfl, hc1, hR1, hB1⟩
  have hC1 := (Kd.R_reads' hR1).2.2
  clear hR1
  go_wp2_with fail
  refine (Few_at a' cap' b 30 b2 Hb2 (by omega) (by omega) w1 (Kd.C_below hC' hB1) hc').mono ?_
  rintro e w2 ⟨A2, c2, rfl, hc2, hR2, hB2⟩
  have hC2 := (Kd.R_reads' hR2).2.2
  clear hR2
  have hC1b := Kd.C_below hC1 hB2
  go_wp2_with fail
  refine (Sum_calls _ (by decide) A1 c1 l2 (by omega) w2 hC1b hc1).mono ?_
  rintro e w3 ⟨rfl, hB3⟩
  go_wp2_with fail
  refine (Bytes_calls _ (by decide) A2 c2 b2 hz2 (by omega) w3 (Kd.C_below hC2 hB3) hc2).mono ?_
  rintro e w4 ⟨rfl, hB4⟩
  have hB14 : Below w.heap.size w w4 := bthen (bthen (bthen hB1 hB2) hB3) hB4
  have hC1d := Kd.C_below (Kd.C_below hC1b hB3) hB4
  have hC2d := Kd.C_below (Kd.C_below hC2 hB3) hB4
  clear hC1 hC1b hC2 hB1 hB2 hB3 hB4
  go_wp2_with fail
  refine (Ints_at a cap l 10 l2 Hl2 (by omega) hlen w4 (Kd.C_below hC hB14) hc).mono ?_
  rintro e w5 ⟨A5, c5, rfl, hc5, hR5, hB5⟩
  have hC5 := (Kd.R_reads' hR5).2.2
  clear hR5
  go_wp2_with fail
  refine (SameInts_calls A1 c1 l2 A5 c5 l2 w5 (Kd.C_below hC1d hB5) hC5 (by omega)).mono ?_
  rintro e w6 ⟨rfl, hD6⟩
  have hB6 := hD6.below
  clear hD6
  rw [decide_eq_true rfl]
  go_wp2_with fail
  refine (Few_at a' cap' b 30 b2 Hb2 (by omega) (by omega) w6 (Kd.C_below hC' (bthen (bthen hB14 hB5) hB6)) hc').mono ?_
  rintro e w7 ⟨A7, c7, rfl, hc7, hR7, hB7⟩
  have hC7 := (Kd.R_reads' hR7).2.2
  clear hR7
  go_wp2_with fail
  refine (SameBytes_calls A2 c2 b2 A7 c7 b2 w7 (Kd.C_below (Kd.C_below (Kd.C_below hC2d hB5) hB6) hB7) hC7 (by omega)).mono ?_
  rintro e w8 ⟨rfl, hD8⟩
  have hB8 := hD8.below
  clear hD8
  rw [decide_eq_true rfl]
  have hB58 : Below w4.heap.size w4 w8 := bthen (bthen (bthen hB5 hB6) hB7) hB8
  clear hB5 hB6 hB7 hB8 hC5 hC7
  go_wp2_with fail
  refine (Sum_calls _ (by decide) A1 c1 l2 (by omega) w8 (Kd.C_below hC1d hB58) hc1).mono ?_
  rintro e w9 ⟨rfl, hB9⟩
  go_wp2_with fail
  refine (Bytes_calls _ (by decide) A2 c2 b2 hz2 (by omega) w9 (Kd.C_below (Kd.C_below hC2d hB58) hB9) hc2).mono ?_
  rintro e w10 ⟨rfl, hB10⟩
  go_wp2_with fail
  refine (lives_calls w10).mono ?_
  rintro e w11 ⟨rfl, hB11⟩
  go_wp2
  go_ret
  exact ⟨rfl, bthen (bthen (bthen (bthen hB14 hB58) hB9) hB10) hB11⟩

end Go.Proofs.Ytnkbaaffihocjaa
