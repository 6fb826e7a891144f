/- The law WireSizes: the varint has one byte for every 7 bits; small numbers have encodings of one byte. -/
import Derived.Test.YthkmfmcofkcjeaaWireLives
namespace Go.Proofs.Ythkmfmcofkcjeaa
set_option linter.unusedVariables false
set_option linter.unusedSimpArgs false
open Go.RowKit Go.Shelf Go.Proofs.YthkmfmcofkcjeaaW.PrintWords Go.Proofs.YthkmfmcofkcjeaaW.PrintLast Go.Proofs.YthkmfmcofkcjeaaW.PrintMore

theorem wf_u64 {n : Int} (h : (Lit.int .u64 n).wf = true) : 0 ≤ n ∧ n < 18446744073709551616 := by
  simp [Lit.wf, IntKind.min, IntKind.max, IntKind.bits, IntKind.signed] at h
  omega
theorem encN_small {n : Int} (h : -64 ≤ n) (h' : n ≤ 63) : (encN (zz n)).length = 1 := by
  rw [encN_lt (by unfold zz; split <;> omega)]; rfl

set_option maxRecDepth 100000 in
set_option maxHeartbeats 4000000 in
theorem WireSizes_walk (a0 a1 a2 : Int) (w : World) (wf0 : (Lit.int .u64 a0).wf = true) (wf1 : (Lit.int .i64 a1).wf = true) (wf2 : (Lit.int .i64 a2).wf = true) :
    Calls Try.prog 3 #[.int .u64 a0, .int .i64 a1, .int .i64 a2] w fun e w' => e = .returned (.bool true) ∧ Below w.heap.size w w' := by
  obtain ⟨u0, u1⟩ := wf_u64 wf0
  obtain ⟨s, hs, hs64⟩ := around_name a2 64 (by omega)
  clear wf0
  go_enter Try.func3, Try.ntmps3
  go_wp2_with fail
  refine (Around_at a2 64 s hs wf2 (by omega) (by omega) w).mono ?_
  rintro e _ ⟨rfl, rfl⟩
  clear hs
  obtain ⟨K, hK⟩ : ∃ K : Nat, Hid (a0 / 2 ^ s = (K : Int)) := ⟨(a0 / 2 ^ s).toNat, by
    have : 0 ≤ a0 / 2 ^ s := Int.ediv_nonneg u0 (Int.pow_nonneg (by decide))
    show _ = _
    omega⟩
  have hb0 : 0 ≤ a0 / 2 ^ s := by rw [hK.out]; omega
  have hb1 : a0 / 2 ^ s ≤ a0 := Int.ediv_le_self _ u0
  have hb2 : a0 / 2 ^ s < 18446744073709551616 := by omega
  go_wp2_with fail
  rw [hK.out]
  rw [hK.out] at hb2
  clear hb0 hb1
  have hK2 : K < 18446744073709551616 := by omega
  have hfl := encN_len 9 K (by simp only [Nat.reducePow, Nat.reduceAdd]; omega)
  clear hK hb2
  go_loop [8, 9] (fun sv rv => ∃ (c r : Nat), sv = .int .i64 (c : Int) ∧ rv = .int .u64 (r : Int) ∧ c ≤ 10 ∧ r < 18446744073709551616 ∧ Hid (c + (if r = 0 then 0 else (encN r).length) = (encN K).length)) (fun _ rv => (intOf rv).toNat)
  case atStart =>
    refine ⟨1, K / 128, rfl, by go_num, by omega, by omega, ?_⟩
    show _ = _
    by_cases h : K < 128
    · rw [encN_lt h, if_pos (by omega)]; rfl
    · rw [if_neg (by omega), encN_ge (n := K) (by omega), List.length_cons]; omega
  case round =>
    obtain ⟨c, r, rfl, rfl, hc, hr, hE⟩ := hrel
    by_cases hr0 : 0 < r
    · have hri : (0 : Int) < (r : Int) := by omega
      have hE1 : Hid ((c + 1) + (if r / 128 = 0 then 0 else (encN (r / 128)).length) = (encN K).length) := by
        have h := hE.out
        show _ = _
        rw [if_neg (by omega)] at h
        by_cases h1 : r < 128
        · rw [encN_lt h1] at h; rw [if_pos (by omega)]; simpa using h
        · rw [encN_ge (by omega), List.length_cons] at h; rw [if_neg (by omega)]; omega
      have hc9 : c + 1 ≤ 10 := by
        have h := hE.out
        rw [if_neg (by omega)] at h
        have := encN_pos r
        omega
      go_wp2
      go_round
      case rel => exact ⟨c + 1, r / 128, by go_num, by go_num, hc9, by omega, hE1⟩
      case measure => simp [intOf]; omega
    · obtain rfl : r = 0 := by omega
      have hE1 : Hid (c = (encN K).length) := by simpa [Hid] using hE.out
      clear hE hr0 hr
      have H0 := (Holds.start w).wrNew
      go_wp2_with fail
      refine (wUint w.heap.size [] K hK2 (by decide) _ H0).mono ?_
      rintro e w1 ⟨rfl, H1, Q1⟩
      have Q1' := ((Calm.refl w).alloc (.cells #[.slice none 0 0] 26)).trans Q1
      have H2 := H1.wrNew
      have Q2' := Q1'.alloc (.cells #[.slice none 0 0] 26)
      have hm := aroundI_range a1 (show (1 : Int) ≤ 127 by omega)
      have hBd := fun W => Bound_calls a1 63 wf1 (by omega) (by omega) W
      rw [show (2 * 63 + 1 : Int) = 127 from rfl] at hBd
      clear Q1 Q1' H1 H0
      obtain ⟨m, hm1⟩ : ∃ m, Hid (aroundI a1 127 - 63 = m) := ⟨_, rfl⟩
      have hmr : -63 ≤ m ∧ m ≤ 63 := by have := hm1.out; omega
      rw [hm1.out] at hBd
      clear hm hm1
      have hm0 := hmr.1
      have hm3 := hmr.2
      go_wp2_with fail
      refine (hBd _).mono ?_
      rintro e _ ⟨rfl, rfl⟩
      clear hBd
      go_wp2_with fail
      refine (wInt w1.heap.size [] m (by unfold I64; omega) (by decide) _ H2).mono ?_
      rintro e w3 ⟨rfl, H3, Q3⟩
      have hl1 := encN_small (n := m) (by omega) (by omega)
      have hl2 := encN_small (n := -m) (by omega) (by omega)
      obtain ⟨X1, hX1⟩ : ∃ X : List Int, Hid ([] ++ encN (zz m) = X) := ⟨_, Lib.hid rfl⟩
      have hx1 : X1.length ≤ 1 := by rw [← hX1.out, List.nil_append, hl1]; exact Nat.le_refl _
      rw [hX1.out] at H3
      go_wp2_with fail
      refine (wInt w1.heap.size X1 (-m) (by unfold I64; omega) (by omega) _ H3).mono ?_
      rintro e w4 ⟨rfl, H4, Q4⟩
      obtain ⟨X2, hX2⟩ : ∃ X : List Int, Hid (X1 ++ encN (zz (-m)) = X) := ⟨_, Lib.hid rfl⟩
      have hx2 : X2.length ≤ 2 := by rw [← hX2.out, List.length_append, hl2]; omega
      rw [hX2.out] at H4
      have Q4' := (Q2'.trans Q3).trans Q4
      clear Q2' Q3 Q4 H3 H2
      go_wp2_with fail
      refine (wBool w1.heap.size X2 _ (by omega) _ H4).mono ?_
      rintro e w5 ⟨rfl, H5, Q5⟩
      obtain ⟨X3, hX3⟩ : ∃ X : List Int, Hid (X2 ++ [if decide (0 < m) = true then 1 else 0] = X) := ⟨_, Lib.hid rfl⟩
      rw [hX3.out] at H5
      have hx3 : Hid (X3.length = 3) := by
        show _ = _
        rw [← hX3.out, ← hX2.out, ← hX1.out]
        simp [hl1, hl2]
      have hx3' : X3.length ≤ 3 := by rw [hx3.out]; exact Nat.le_refl _
      rw [List.nil_append] at H5
      go_wp2_with fail
      refine (wDone w.heap.size (encN K) (by omega) _ H5.f2).mono ?_
      rintro e w6 ⟨A, c6, rfl, H6, -, Q6⟩
      have Q6' := (Q4'.trans Q5).trans Q6
      rw [← hE1.out]
      have hcB : ((c : Int) == (c : Int)) = true := beq_self_eq_true _
      go_wp2_with fail
      refine (wDone w1.heap.size X3 (by omega) _ H6.f3).mono ?_
      rintro e w7 ⟨A7, c7, rfl, H7, -, Q7⟩
      rw [hx3.out]
      go_wp2_with fail
      refine (lives_calls w7 H7).mono ?_
      rintro e w8 ⟨rfl, H8, Q8⟩
      have HB := Lib.hid (H8.drop.drop.drop.drop.old ((Q6'.trans Q7).trans Q8))
      go_wp2
      go_ret
      exact ⟨rfl, HB.out⟩
end Go.Proofs.Ythkmfmcofkcjeaa
