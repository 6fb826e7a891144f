/- The law BitsOrder: the bytes behind a common beginning are in the order of the numbers. -/
import Derived.Test.YtkkhpdbognaioaaBitsOps
import Derived.Test.YtkkhpdbognaioaaBitsOrdM
namespace Go.Proofs.Ytkkhpdbognaioaa
set_option linter.unusedVariables false
set_option linter.unusedSimpArgs false
open Go.RowKit Go.Shelf Go.Proofs.YtkkhpdbognaioaaW.PrintWords Go.Proofs.YtkkhpdbognaioaaW.PrintLast Go.Proofs.YtkkhpdbognaioaaW.PrintMore

theorem lt_decide {p : Prop} [Decidable p] {b : Bool} (h : b = true ↔ p) : b = decide p := by
  rw [Bool.eq_iff_iff, decide_eq_true_iff]; exact h

set_option maxRecDepth 100000 in
set_option maxHeartbeats 16000000 in
theorem BitsOrder_walk (a0 a1 a2 a3 : Int) (w : World)
    (wf0 : (Lit.int .u64 a0).wf = true) (wf1 : (Lit.int .u64 a1).wf = true) (wf2 : (Lit.int .i64 a2).wf = true) (wf3 : (Lit.int .i64 a3).wf = true) :
    Calls Try.prog 8 #[.int .u64 a0, .int .u64 a1, .int .i64 a2, .int .i64 a3] w fun e w' => e = .returned (.bool true) ∧ Below w.heap.size w w' := by
  obtain ⟨m, hm, hm64⟩ : ∃ n : Nat, a0 = (n : Int) ∧ n < 18446744073709551616 := ⟨a0.toNat, by
    simp [Lit.wf, IntKind.min, IntKind.max, IntKind.bits, IntKind.signed] at wf0
    omega⟩
  obtain ⟨n, hn, hn64⟩ : ∃ n : Nat, a1 = (n : Int) ∧ n < 18446744073709551616 := ⟨a1.toNat, by
    simp [Lit.wf, IntKind.min, IntKind.max, IntKind.bits, IntKind.signed] at wf1
    omega⟩
  subst hm hn
  obtain ⟨c, hc, hc65⟩ := around_name a2 65 (by omega)
  obtain ⟨k, hk, hk20⟩ := around_name a3 20 (by omega)
  have hAc := fun W => Around_at a2 65 c hc wf2 (by omega) (by omega) W
  have hAk := fun W => Around_at a3 20 k hk wf3 (by omega) (by omega) W
  have hcl : clampN (c : Int) 64 = c := by unfold clampN; omega
  have hkl : clampN (k : Int) 65536 = k := by unfold clampN; omega
  have hS0l : (unaryB k).length ≤ 100 := by simp [unaryB]; omega
  have hu := fun p W F (K : Holds W (bwH p [] :: F)) => bUnary p [] (k : Int) (by decide) W K
  rw [hkl] at hu
  simp only [List.nil_append] at hu
  have hw := fun (x : Nat) (hx : x < 18446744073709551616) p W F (K : Holds W (bwH p (unaryB k) :: F)) => bBits p (unaryB k) x hx (c : Int) (by omega) W K
  rw [hcl] at hw
  have hlow := fun (x : Nat) (hx : x < 18446744073709551616) W => low_calls x hx (c : Int) W
  rw [hcl] at hlow
  have hdn := fun (x : Nat) p W F (K : Holds W (bwH p (unaryB k ++ bitsN x c) :: F)) => bDone p (unaryB k ++ bitsN x c) (by rw [List.length_append, bitsN_length]; omega) W K
  have hlen := order_len (unaryB k) m n c
  have hlt := order_less (unaryB k) m n c
  have heq := order_eq (unaryB k) m n c
  have hwm := hw m hm64
  have hwn := hw n hn64
  have hlm := hlow m hm64
  have hln := hlow n hn64
  have hdm := hdn m
  have hdn' := hdn n
  clear hw hlow hdn wf0 wf1 wf2 wf3 hc hk hcl hkl
  have hpl := pack_length (unaryB k ++ bitsN n c)
  rw [List.length_append, bitsN_length] at hpl
  have hp : m % 2 ^ c < 18446744073709551616 := Nat.lt_of_le_of_lt (Nat.mod_le _ _) hm64
  have hq : n % 2 ^ c < 18446744073709551616 := Nat.lt_of_le_of_lt (Nat.mod_le _ _) hn64
  have hXs := strOfNums_size (pack (unaryB k ++ bitsN m c))
  have hYs := strOfNums_size (pack (unaryB k ++ bitsN n c))
  generalize unaryB k ++ bitsN m c = S1 at *
  generalize unaryB k ++ bitsN n c = S2 at *
  generalize unaryB k = S0 at *
  generalize m % 2 ^ c = p at *
  generalize n % 2 ^ c = q at *
  generalize pack S1 = X at *
  have hYl : (pack S2).length ≤ 100 := by rw [hpl]; unfold nbytes; omega
  generalize pack S2 = Y at *
  obtain ⟨sx, hsx⟩ : ∃ s, Hid (strOfNums X = s) := ⟨_, Lib.hid rfl⟩
  obtain ⟨sy, hsy⟩ : ∃ s, Hid (strOfNums Y = s) := ⟨_, Lib.hid rfl⟩
  rw [hsx.out] at hlt heq hXs
  rw [hsy.out] at hlt heq hYs
  have Hlt := Lib.hid hlt
  have Heq := Lib.hid heq
  have Hlen := Lib.hid hlen
  have hss : Hid (sx.size = sy.size) := by show _ = _; rw [hXs, hYs, hlen]
  clear hlt heq hlen hXs hYs hpl
  have H0 := (Holds.start w).bwNew
  have Q0 := (Calm.refl w).alloc (.cells #[.slice none 0 0, .int .i64 0] 31)
  go_enter Try.func8, Try.ntmps8
  go_wp2_with fail
  refine (hAc w).mono ?_
  rintro e _ ⟨rfl, rfl⟩
  go_wp2_with fail
  refine (hAk w).mono ?_
  rintro e _ ⟨rfl, rfl⟩
  clear hAc hAk
  go_wp2_with fail
  generalize w.heap.size = x at *
  generalize w.alloc (.cells #[.slice none 0 0, .int .i64 0] 31) = w0 at *
  refine (hu x w0 _ H0).mono ?_
  rintro e w1 ⟨rfl, H1, Q1⟩
  go_wp2_with fail
  refine (hwm x w1 _ H1).mono ?_
  rintro e w2 ⟨rfl, H2, Q2⟩
  have H3 := H2.bwNew
  have Q3 := ((Q0.trans Q1).trans Q2).alloc (.cells #[.slice none 0 0, .int .i64 0] 31)
  clear H0 Q0 H1 Q1 H2 Q2
  go_wp2_with fail
  generalize w2.heap.size = y at *
  generalize w2.alloc (.cells #[.slice none 0 0, .int .i64 0] 31) = w3 at *
  refine (hu y w3 _ H3).mono ?_
  rintro e w4 ⟨rfl, H4, Q4⟩
  go_wp2_with fail
  refine (hwn y w4 _ H4).mono ?_
  rintro e w5 ⟨rfl, H5, Q5⟩
  clear hu hwm hwn
  go_wp2_with fail
  refine (hdm x w5 _ H5.f2).mono ?_
  rintro e w6 ⟨A6, c6, rfl, H6, hc6, Q6⟩
  have hstr1 : (convert 29 9 (.slice A6 X.length c6)).run Try.prog w6 = .ok (.string sx) w6 := by
    have := Kd.C_string (P := Try.prog) (c := c6) Try.underlying29 Try.underlying5 Try.underlying9 H6.row'.2.2
    rw [hsx.out] at this
    exact this
  go_wp2_with fail
  refine (hdn' y w6 _ H6.f3).mono ?_
  rintro e w7 ⟨A7, c7, rfl, H7, hc7, Q7⟩
  have hstr2 : (convert 29 9 (.slice A7 Y.length c7)).run Try.prog w7 = .ok (.string sy) w7 := by
    have := Kd.C_string (P := Try.prog) (c := c7) Try.underlying29 Try.underlying5 Try.underlying9 H7.row'.2.2
    rw [hsy.out] at this
    exact this
  go_wp2_with fail
  refine (hlm w7).mono ?_
  rintro e _ ⟨rfl, rfl⟩
  go_wp2_with fail
  refine (hln w7).mono ?_
  rintro e _ ⟨rfl, rfl⟩
  have Q8 := (((Q3.trans Q4).trans Q5).trans Q6).trans Q7
  clear hdm hdn' hlm hln hstr1 hstr2 H3 H4 H5 H6 Q3 Q4 Q5 Q6 Q7
  have hs1 := hss.out
  have hlv := fun W F (K : Holds W F) => lives_calls W K
  rcases Nat.lt_trichotomy p q with h | h | h
  · have b1 : Op.bytesLess sx.toList sy.toList = true := Hlt.out.2 h
    have b2 : (sx.toList == sy.toList) = false := by rw [beq_eq_false_iff_ne]; intro he; have := Heq.out.1 he; omega
    have b3 : (p : Int) < (q : Int) := by omega
    have b4 : ((p : Int) == (q : Int)) = false := by simp; omega
    go_wp2_with fail
    refine (hlv w7 _ H7).mono ?_
    rintro e w8 ⟨rfl, H8, Q9⟩
    have HB := Lib.hid (H8.drop.drop.drop.drop.old (Q8.trans Q9))
    go_wp2
    go_ret
    exact ⟨rfl, HB.out⟩
  · subst h
    have b1 : Op.bytesLess sx.toList sy.toList = false := by
      rw [Bool.eq_false_iff]
      intro hh
      have := Hlt.out.1 hh
      omega
    have b2 : (sx.toList == sy.toList) = true := by rw [beq_iff_eq]; exact Heq.out.2 rfl
    go_wp2_with fail
    refine (hlv w7 _ H7).mono ?_
    rintro e w8 ⟨rfl, H8, Q9⟩
    have HB := Lib.hid (H8.drop.drop.drop.drop.old (Q8.trans Q9))
    go_wp2
    go_ret
    exact ⟨rfl, HB.out⟩
  · have b1 : Op.bytesLess sx.toList sy.toList = false := by
      rw [Bool.eq_false_iff]
      intro hh
      have := Hlt.out.1 hh
      omega
    have b2 : (sx.toList == sy.toList) = false := by rw [beq_eq_false_iff_ne]; intro he; have := Heq.out.1 he; omega
    have b3 : ¬ (p : Int) < (q : Int) := by omega
    have b5 : decide (p < q) = false := decide_eq_false (by omega)
    have b4 : ((p : Int) == (q : Int)) = false := by simp; omega
    go_wp2_with fail
    refine (hlv w7 _ H7).mono ?_
    rintro e w8 ⟨rfl, H8, Q9⟩
    have HB := Lib.hid (H8.drop.drop.drop.drop.old (Q8.trans Q9))
    go_wp2
    go_ret
    exact ⟨rfl, HB.out⟩
end Go.Proofs.Ytkkhpdbognaioaa
