/- The law BitsPadding: one byte for every 8 bits; bits 0 within the last byte change nothing, a bit 1 does. -/
import Derived.Test.YtkkhpdbognaioaaBitsOps
namespace Go.Proofs.Ytkkhpdbognaioaa
set_option linter.unusedVariables false
set_option linter.unusedSimpArgs false
open Go.RowKit Go.Shelf Go.Proofs.YtkkhpdbognaioaaW.PrintWords Go.Proofs.YtkkhpdbognaioaaW.PrintLast Go.Proofs.YtkkhpdbognaioaaW.PrintMore

theorem bitsN_zero : ∀ k : Nat, bitsN 0 k = List.replicate k false
  | 0 => rfl
  | k + 1 => by rw [bitsN, bitsN_zero k, List.replicate_succ]; simp
/-- A bit 1 behind bits 0 changes the bytes. -/
theorem pack_one (S : List Bool) (k : Nat) (h : nbytes (S.length + k + 1) = nbytes S.length) : pack ((S ++ List.replicate k false) ++ [true]) ≠ pack S := by
  intro he
  have h1 := congrArg unpack he
  rw [unpack_pack, unpack_pack] at h1
  have h2 : ((S ++ List.replicate k false ++ [true]) ++ List.replicate (8 * nbytes (S ++ List.replicate k false ++ [true]).length - (S ++ List.replicate k false ++ [true]).length) false)[S.length + k]? = (S ++ List.replicate (8 * nbytes S.length - S.length) false)[S.length + k]? := by rw [h1]
  have hl : (S ++ List.replicate k false).length = S.length + k := by simp
  rw [List.getElem?_append_left (by simp), List.getElem?_append_right (by omega), hl, Nat.sub_self, List.getElem?_append_right (by omega)] at h2
  simp only [List.getElem?_cons_zero] at h2
  rw [List.getElem?_replicate] at h2
  split at h2
  · simp at h2
  · simp at h2

set_option maxRecDepth 100000 in
set_option maxHeartbeats 8000000 in
theorem BitsPadding_walk (a0 : Option Addr) (len0 cap0 : Nat) (z0 : List Int) (a1 : Int) (w : World)
    (w0 : IsRow .i64 w a0 len0 cap0 z0) (y0 : len0 * 8 ≤ 140737488351232) (wf1 : (Lit.int .i64 a1).wf = true) :
    Calls Try.prog 7 #[.slice a0 len0 cap0, .int .i64 a1] w fun e w' => e = .returned (.bool true) ∧ Below w.heap.size w w' := by
  obtain ⟨l, rfl, hlc, hCl, hwl⟩ := row_in w0
  have HWL := Lib.hid hwl
  clear w0 hwl
  have H0 := Holds.start w
  go_enter Try.func7, Try.ntmps7
  go_wp2_with fail
  refine (Ops_calls a0 cap0 l HWL.out y0 w H0 (Rd.old_int hCl [])).mono ?_
  rintro e w1 ⟨A, c, ops, rfl, hol, hops, H1, hoc, Q1⟩
  have Hops := Lib.hid hops
  have H2 := H1.bwNew
  have Q2 := Q1.alloc (.cells #[.slice none 0 0, .int .i64 0] 31)
  clear hops H0 H1 Q1
  go_wp2
  generalize w1.heap.size = p at *
  generalize w1.alloc (.cells #[.slice none 0 0, .int .i64 0] 31) = w2 at *
  go_loopw [7] (fun iv wr => ∃ (i : Nat) (S : List Bool), i ≤ ops.length ∧ iv = .int .i64 (i : Int) ∧ S.length ≤ 65537 * i ∧ Holds wr [bwH p S, rowH opK 27 (.slice A ops.length c) ops, oldH w] ∧ Calm w wr) (fun iv _ => ops.length - (intOf iv).toNat)
  case atStart => exact ⟨0, [], by omega, rfl, by simp, H2, Q2⟩
  case round =>
    clear H2 Q2
    obtain ⟨i, S, hi, rfl, hSl, H1, Q1⟩ := hrel
    by_cases hlt : i < ops.length
    · have hii : (i : Int) < (ops.length : Int) := by omega
      obtain ⟨g, rfl, d0, d1, d2⟩ := H1.drop.opAt i hlt
      have hok := Hops.out ops[i] (List.getElem_mem hlt)
      have hbl := OpV.bits_len ops[i]
      have hw := lwrite p S ops[i] hok.n64 (by omega) wr H1
      clear hok
      generalize ops[i] = o at *
      go_wp2_with fail
      refine hw.mono ?_
      rintro e w3 ⟨rfl, H3, Q3⟩
      go_wp2
      go_roundw
      case rel => exact ⟨i + 1, S ++ o.bits, by omega, by go_num, by rw [List.length_append]; omega, H3, Q1.trans Q3⟩
      case measure => simp [intOf]; omega
    · obtain rfl : i = ops.length := by omega
      have hS6 : S.length ≤ 1000000 := by omega
      have hpl := pack_length S
      have hdn := bDone p S (by omega) wr H1
      obtain ⟨n, hn⟩ : ∃ n : Nat, Hid (S.length = n) := ⟨_, Lib.hid rfl⟩
      have hln := fun W F (K : Holds W (bwH p S :: F)) => bLen p S W K
      obtain ⟨P, hP⟩ : ∃ P : List Int, Hid (pack S = P) := ⟨_, Lib.hid rfl⟩
      rw [hn.out] at hpl hln hS6
      rw [hP.out] at hpl hdn
      have hq : ((n : Int) + 7) / 8 = (P.length : Int) := by rw [hpl]; unfold nbytes; omega
      have hPl : P.length ≤ 200000 := by rw [hpl]; unfold nbytes; omega
      have Hpl := Lib.hid hpl
      clear hpl
      go_wp2_with fail
      refine hdn.mono ?_
      rintro e w3 ⟨A3, c3, rfl, H3, hc3, Q3⟩
      go_wp2_with fail
      refine (hln w3 _ H3.f2).mono ?_
      rintro e _ ⟨rfl, rfl⟩
      clear hdn hln
      obtain ⟨rest, hrest⟩ : ∃ rest : Nat, Hid (8 * (P.length : Int) - (n : Int) = (rest : Int) ∧ rest < 8) := ⟨8 * P.length - n, by have := Hpl.out; unfold nbytes at this; constructor <;> omega⟩
      have hr1 := hrest.out.1
      have hr8 := hrest.out.2
      by_cases h0 : rest = 0
      · have h0b : ((rest : Int) == 0) = true := by rw [h0]; rfl
        have hw := bBits p S 0 (by decide) 1 (by rw [hn.out]; omega) w3 H3.f2
        rw [show bitsN 0 (clampN 1 64) = [false] by decide] at hw
        have hd2 := fun W F (K : Holds W (bwH p (S ++ [false]) :: F)) => bDone p (S ++ [false]) (by rw [List.length_append, hn.out]; simp; omega) W K
        have hpl2 := pack_length (S ++ [false])
        obtain ⟨P2, hP2⟩ : ∃ P : List Int, Hid (pack (S ++ [false]) = P) := ⟨_, Lib.hid rfl⟩
        rw [hP2.out] at hd2 hpl2
        have hl2 : P2.length = P.length + 1 := by
          rw [hpl2, Hpl.out, List.length_append, hn.out]
          have h1 := hr1
          rw [Hpl.out] at h1
          unfold nbytes at *
          simp
          omega
        clear hpl2
        have Hl2 := Lib.hid hl2
        rw [hl2] at hd2
        clear hl2
        go_wp2_with fail
        refine hw.mono ?_
        rintro e w4 ⟨rfl, H4, Q4⟩
        go_wp2_with fail
        refine (hd2 w4 _ H4).mono ?_
        rintro e w5 ⟨A5, c5, rfl, H5, hc5, Q5⟩
        clear hw hd2
        go_wp2_with fail
        refine (lives_calls w5 H5).mono ?_
        rintro e w6 ⟨rfl, H6, Q6⟩
        have HB := Lib.hid (H6.drop.drop.drop.drop.old ((((Q1.trans Q3).trans Q4).trans Q5).trans Q6))
        go_wp2
        go_ret
        exact ⟨rfl, HB.out⟩
      · have h0b : ((rest : Int) == 0) = false := by simpa using h0
        obtain ⟨k, hk, hkr⟩ := around_name a1 rest (by omega)
        have hA := fun W => Around_at a1 (rest : Int) k hk wf1 (by omega) (by omega) W
        have hcl : clampN (k : Int) 64 = k := by unfold clampN; omega
        have hnr : nbytes (n + k + 1) = nbytes n := by have h1 := hr1; rw [Hpl.out] at h1; unfold nbytes at *; omega
        have hnr0 : nbytes (n + k) = nbytes n := by have h1 := hr1; rw [Hpl.out] at h1; unfold nbytes at *; omega
        have hw := bBits p S 0 (by decide) (k : Int) (by rw [hn.out]; omega) w3 H3.f2
        rw [hcl, bitsN_zero] at hw
        have hpad : pack (S ++ List.replicate k false) = P := by rw [pack_pad S k (by rw [hn.out]; exact hnr0), hP.out]
        have hone : pack ((S ++ List.replicate k false) ++ [true]) ≠ P := by rw [← hP.out]; exact pack_one S k (by rw [hn.out]; exact hnr)
        have hSk : (S ++ List.replicate k false).length = n + k := by rw [List.length_append, List.length_replicate, hn.out]
        have hpl3 := pack_length ((S ++ List.replicate k false) ++ [true])
        rw [List.length_append, hSk, List.length_singleton, hnr, ← Hpl.out] at hpl3
        clear hk
        obtain ⟨S2, hS2⟩ : ∃ S2 : List Bool, Hid (S ++ List.replicate k false = S2) := ⟨_, Lib.hid rfl⟩
        rw [hS2.out] at hw hpad hone hSk hpl3
        have hd2 := fun W F (K : Holds W (bwH p S2 :: F)) => bDone p S2 (by omega) W K
        have hln2 := fun W F (K : Holds W (bwH p S2 :: F)) => bLen p S2 W K
        have hw2 := fun W F (K : Holds W (bwH p S2 :: F)) => bBits p S2 1 (by decide) 1 (by omega) W K
        rw [hpad] at hd2
        rw [hSk] at hln2
        rw [show bitsN 1 (clampN 1 64) = [true] by decide] at hw2
        have hd3 := fun W F (K : Holds W (bwH p (S2 ++ [true]) :: F)) => bDone p (S2 ++ [true]) (by rw [List.length_append, hSk]; simp; omega) W K
        obtain ⟨P3, hP3⟩ : ∃ P : List Int, Hid (pack (S2 ++ [true]) = P) := ⟨_, Lib.hid rfl⟩
        rw [hP3.out] at hd3 hpl3 hone
        have Hpl3 := Lib.hid hpl3
        rw [hpl3] at hd3
        have hdec : Hid (decide (P3 = P) = false) := decide_eq_false hone
        clear hpad hone hSk hpl3
        go_wp2_with fail
        refine (hA w3).mono ?_
        rintro e _ ⟨rfl, rfl⟩
        go_wp2_with fail
        refine hw.mono ?_
        rintro e w4 ⟨rfl, H4, Q4⟩
        go_wp2_with fail
        refine (hd2 w4 _ H4).mono ?_
        rintro e w5 ⟨A5, c5, rfl, H5, hc5, Q5⟩
        clear hw hd2
        go_wp2_with fail
        refine (SameBytes_H A5 c5 P.length P A3 c3 P.length P true (decide_eq_true rfl) w5 rfl rfl H5.row'.2.2 (H5.drop.drop.row'.2.2) (by omega) H5).mono ?_
        rintro e w6 ⟨rfl, H6, Q6⟩
        go_wp2_with fail
        refine (hln2 w6 _ H6.f2).mono ?_
        rintro e _ ⟨rfl, rfl⟩
        rw [show ((n + k : Nat) : Int) = (n : Int) + (k : Int) by omega]
        have hnk : (n : Int) + (k : Int) ≤ 2000000 := by omega
        go_wp2_with fail
        refine (hA w6).mono ?_
        rintro e _ ⟨rfl, rfl⟩
        clear hln2 hA
        go_wp2_with fail
        refine (hw2 w6 _ H6.f2).mono ?_
        rintro e w7 ⟨rfl, H7, Q7⟩
        clear hw2
        go_wp2_with fail
        refine (hd3 w7 _ H7).mono ?_
        rintro e w8 ⟨A8, c8, rfl, H8, hc8, Q8⟩
        go_wp2_with fail
        refine (hd3 w8 _ H8.f2).mono ?_
        rintro e w9 ⟨A9, c9, rfl, H9, hc9, Q9⟩
        clear hd3
        have HP : (Kd.int .u8).C w9 A3 P.length P := (H9.drop.drop.drop.drop.row'.2.2)
        have HP3 := H9.row'.2.2
        rw [Hpl3.out] at HP3
        go_wp2_with fail
        refine (SameBytes_H A9 c9 P.length P3 A3 c3 P.length P false hdec w9 Hpl3.out.symm rfl (by rw [Hpl3.out]; exact HP3) HP (by omega) H9).mono ?_
        rintro e w10 ⟨rfl, H10, Q10⟩
        go_wp2_with fail
        refine (lives_calls w10 H10).mono ?_
        rintro e w11 ⟨rfl, H11, Q11⟩
        have HB := Lib.hid (H11.drop.drop.drop.drop.drop.drop.old (((((((((Q1.trans Q3).trans Q4).trans Q5).trans Q6).trans Q7).trans Q8).trans Q9).trans Q10).trans Q11))
        go_wp2
        go_ret
        exact ⟨rfl, HB.out⟩
end Go.Proofs.Ytkkhpdbognaioaa
