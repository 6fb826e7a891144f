/- The law WireHash: the hashes of two encodings of equal length are equal if and only if the numbers are. -/
import Derived.Test.YthkmfmcofkcjeaaWireSizes
import Derived.Test.YthkmfmcofkcjeaaHxSum
namespace Go.Proofs.Ythkmfmcofkcjeaa
set_option linter.unusedVariables false
set_option linter.unusedSimpArgs false
open Go.RowKit Go.Shelf Go.Proofs.YthkmfmcofkcjeaaW.PrintWords Go.Proofs.YthkmfmcofkcjeaaW.PrintLast Go.Proofs.YthkmfmcofkcjeaaW.PrintMore

theorem hash_enc {s : ByteArray} (hs : s.size ≤ 140737488351232) {m n : Nat} (hl : (encN m).length = (encN n).length) (h8 : (encN m).length ≤ 8) :
    (Hx.sumI (bytesOf s) (Hx.bytesL (encN m)) = Hx.sumI (bytesOf s) (Hx.bytesL (encN n))) ↔ (m : Int) = (n : Int) := by
  have hp := encN_pos n
  rw [Hx.sumI_group (Hx.bytesOf_u8 s) (by rw [bytesOf_length]; exact hs) (encN_u8 n) (encN_u8 m) (by omega) (g := 0) ⟨hl, fun i hi => by
    rw [List.getElem?_eq_none (by omega), List.getElem?_eq_none (by omega)]⟩ (by unfold Hx.nwords; omega)]
  constructor
  · intro h; rw [encN_inj _ _ h]
  · intro h; rw [show m = n by omega]

theorem shift_name {a : Int} (h : 0 ≤ a) (h1 : a < 18446744073709551616) (s : Nat) : ∃ K : Nat, Hid (a / 2 ^ (8 + s) = (K : Int)) ∧ K < 72057594037927936 := by
  have e : a / 2 ^ (8 + s) = a / 256 / 2 ^ s := by
    rw [Int.pow_add, show (2 : Int) ^ 8 = 256 from rfl, ← Int.ediv_ediv_of_nonneg (by decide)]
  have b0 : 0 ≤ a / 256 := by omega
  have b1 : a / 256 / 2 ^ s ≤ a / 256 := Int.ediv_le_self _ b0
  have b2 : 0 ≤ a / 256 / 2 ^ s := Int.ediv_nonneg b0 (Int.pow_nonneg (by decide))
  exact ⟨(a / 2 ^ (8 + s)).toNat, by show _ = _; omega, by omega⟩
theorem beqI (a b : Int) : (a == b) = decide (a = b) := rfl

set_option maxRecDepth 100000 in
set_option maxHeartbeats 4000000 in
theorem WireHash_walk (a0 a1 a2 : Int) (s3 : ByteArray) (w : World) (wf0 : (Lit.int .u64 a0).wf = true) (wf1 : (Lit.int .u64 a1).wf = true) (wf2 : (Lit.int .i64 a2).wf = true) (y3 : s3.size ≤ 140737488351232) :
    Calls Try.prog 10 #[.int .u64 a0, .int .u64 a1, .int .i64 a2, .string s3] w fun e w' => e = .returned (.bool true) ∧ Below w.heap.size w w' := by
  obtain ⟨u0, u1⟩ := wf_u64 wf0
  obtain ⟨v0, v1⟩ := wf_u64 wf1
  obtain ⟨s, hs, hs64⟩ := around_name a2 56 (by omega)
  clear wf0 wf1
  go_enter Try.func10, Try.ntmps10
  go_wp2_with fail
  refine (Around_at a2 56 s hs wf2 (by omega) (by omega) w).mono ?_
  rintro e _ ⟨rfl, rfl⟩
  clear hs
  go_wp2_with fail
  obtain ⟨M, hM, hM56⟩ := shift_name u0 u1 s
  obtain ⟨N, hN, hN56⟩ := shift_name v0 v1 s
  rw [hM.out, hN.out]
  have lM := encN_len 7 M (by simp only [Nat.reducePow, Nat.reduceAdd]; omega)
  have lN := encN_len 7 N (by simp only [Nat.reducePow, Nat.reduceAdd]; omega)
  have hz := shortS_size s3 20
  clear hM hN u0 u1 v0 v1
  have H0 := (Holds.start w).wrNew
  refine (wUint w.heap.size [] M (by omega) (by decide) _ H0).mono ?_
  rintro e w1 ⟨rfl, H1, Q1⟩
  have Q1' := ((Calm.refl w).alloc (.cells #[.slice none 0 0] 26)).trans Q1
  have H2 := H1.wrNew
  have Q2' := Q1'.alloc (.cells #[.slice none 0 0] 26)
  clear H0 Q1 Q1' H1
  go_wp2_with fail
  refine (wUint w1.heap.size [] N (by omega) (by decide) _ H2).mono ?_
  rintro e w2 ⟨rfl, H3, Q3⟩
  rw [List.nil_append, List.nil_append] at H3
  have hEq := fun (h : (encN M).length = (encN N).length) => hash_enc (s := shortS s3 20) (by omega) h (by omega)
  have HEq := Lib.hid hEq
  clear hEq
  have hne : (encN M).length ≠ (encN N).length → ¬ ((M : Int) = (N : Int)) := fun h e => h (by rw [show M = N by omega])
  have Hne := Lib.hid hne
  clear hne
  obtain ⟨P, hP⟩ : ∃ P : List Int, Hid (encN M = P) := ⟨_, Lib.hid rfl⟩
  obtain ⟨R, hR⟩ : ∃ R : List Int, Hid (encN N = R) := ⟨_, Lib.hid rfl⟩
  have hP8 : Hid (U8s P) := by rw [← hP.out]; exact encN_u8 M
  have hR8 : Hid (U8s R) := by rw [← hR.out]; exact encN_u8 N
  rw [hP.out] at lM HEq H3 Hne
  rw [hR.out] at lN HEq H3 Hne
  clear hP hR H2
  go_wp2_with fail
  refine (wDone w.heap.size P (by omega) _ H3.f2).mono ?_
  rintro e w3 ⟨A3, c3, rfl, H4, k4, Q4⟩
  go_wp2_with fail
  refine (wDone w1.heap.size R (by omega) _ H4.f3).mono ?_
  rintro e w4 ⟨A5, c5, rfl, H5, k5, Q5⟩
  go_wp2_with fail
  refine (Short_calls s3 y3 20 (by omega) w4).mono ?_
  rintro e _ ⟨rfl, rfl⟩
  have Q6 := ((Q2'.trans Q3).trans Q4).trans Q5
  have C5 := H5.row'.2.2
  have C4 := H5.f3.row'.2.2
  clear Q2' Q3 Q4 Q5 H3 H4
  obtain ⟨s, hs⟩ : ∃ s : ByteArray, shortS s3 20 = s := ⟨_, rfl⟩
  rw [hs] at HEq hz ⊢
  clear hs
  by_cases hl : P.length = R.length
  · have hEq := HEq.out hl
    have hd := Lib.hid hEq
    have hli : ((P.length : Int) == (R.length : Int)) = true := by simp [hl]
    have hlin : ((P.length : Int) != (R.length : Int)) = false := by simp [hl]
    have hl8 : ¬ (8 : Int) < (P.length : Int) := by omega
    have Hl := Lib.hid hl
    clear hEq HEq Hne hl
    go_wp2_with fail
    refine (Hx.Bytes_calls s (by omega) A3 c3 P hP8.out (by omega) w4 C4 k4).mono ?_
    rintro e w5 ⟨rfl, B5⟩
    have H6 := H5.below B5
    have Q7 := Q6.below B5
    have C5' := H6.row'.2.2
    clear H5 Q6
    go_wp2_with fail
    refine (Hx.Bytes_calls s (by omega) A5 c5 R hR8.out (by omega) w5 C5' k5).mono ?_
    rintro e w6 ⟨rfl, B6⟩
    have H7 := H6.below B6
    have Q8 := Q7.below B6
    clear H6 Q7
    obtain ⟨x, hx⟩ : ∃ x : Int, Hx.sumI (bytesOf s) (Hx.bytesL P) = x := ⟨_, rfl⟩
    obtain ⟨y, hy⟩ : ∃ y : Int, Hx.sumI (bytesOf s) (Hx.bytesL R) = y := ⟨_, rfl⟩
    rw [hx, hy] at hd
    rw [hx, hy]
    clear hx hy
    by_cases hxy : x = y
    focus
      have hMN : M = N := by have := hd.out.1 hxy; omega
      subst hMN
      subst hxy
      go_wp2_with fail
    rotate_left
    focus
      have hMN : ¬ M = N := fun e => hxy (hd.out.2 (by rw [e]))
      have hb1 : (x == y) = false := beq_eq_false_iff_ne.2 hxy
      have hb2 : ((M : Int) == (N : Int)) = false := beq_eq_false_iff_ne.2 (by omega)
      go_wp2_with fail
    rotate_left
    all_goals
      refine (lives_calls w6 H7).mono ?_
      rintro e w8 ⟨rfl, H8, Q9⟩
      have HB := Lib.hid (H8.drop.drop.drop.drop.old (Q8.trans Q9))
      go_wp2
      go_ret
      exact ⟨rfl, HB.out⟩
  · have hMN := Hne.out hl
    have hMNb : ((M : Int) == (N : Int)) = false := by simpa using hMN
    have hli : ((P.length : Int) == (R.length : Int)) = false := by simp; omega
    have hlr : ¬ ((P.length : Int) = (R.length : Int)) := by omega
    have hMNn : ((M : Int) != (N : Int)) = true := by simpa using hMN
    have hMNa : ¬ M = N := by omega
    have hl8 : (P.length : Int) ≤ 8 := by omega
    go_wp2_with fail
    refine (lives_calls w4 H5).mono ?_
    rintro e w8 ⟨rfl, H8, Q8⟩
    have HB := Lib.hid (H8.drop.drop.drop.drop.old (Q6.trans Q8))
    go_wp2
    go_ret
    exact ⟨rfl, HB.out⟩
end Go.Proofs.Ythkmfmcofkcjeaa
