/- The law BitsWrites: the length and the bytes are the specified ones after every value. -/
import Derived.Test.YtkkhpdbognaioaaBitsRef3
namespace Go.Proofs.Ytkkhpdbognaioaa
set_option linter.unusedVariables false
set_option linter.unusedSimpArgs false
open Go.RowKit Go.Shelf Go.Proofs.YtkkhpdbognaioaaW.PrintWords Go.Proofs.YtkkhpdbognaioaaW.PrintLast Go.Proofs.YtkkhpdbognaioaaW.PrintMore

set_option maxRecDepth 100000 in
set_option maxHeartbeats 16000000 in
theorem BitsWrites_walk (a0 : Option Addr) (len0 cap0 : Nat) (z0 : List Int) (a1 a2 a3 : Int) (w : World)
    (w0 : IsRow .i64 w a0 len0 cap0 z0) (y0 : len0 * 8 ≤ 140737488351232) (wf1 : (Lit.int .u64 a1).wf = true) (wf2 : (Lit.int .i64 a2).wf = true) (wf3 : (Lit.int .i64 a3).wf = true) :
    Calls Try.prog 3 #[.slice a0 len0 cap0, .int .u64 a1, .int .i64 a2, .int .i64 a3] w fun e w' => e = .returned (.bool true) ∧ Below w.heap.size w w' := by
  obtain ⟨l, rfl, hlc, hCl, hwl⟩ := row_in w0
  have HWL := Lib.hid hwl
  obtain ⟨n, hn, hn64⟩ : ∃ n : Nat, a1 = (n : Int) ∧ n < 18446744073709551616 := ⟨a1.toNat, by
    simp [Lit.wf, IntKind.min, IntKind.max, IntKind.bits, IntKind.signed] at wf1
    omega⟩
  subst hn
  clear w0 hwl wf1
  have H0 := Holds.start w
  have hBd := Bound_calls a3 2000 wf3 (by decide) (by decide)
  have hbr := aroundI_range a3 (show (1 : Int) ≤ 2 * 2000 + 1 by decide)
  obtain ⟨b, hb⟩ : ∃ b, Hid (aroundI a3 (2 * 2000 + 1) - 2000 = b) := ⟨_, Lib.hid rfl⟩
  have hb0 : -2000 ≤ b := by have := hb.out; omega
  have hb1 : b ≤ 2000 := by have := hb.out; omega
  rw [hb.out] at hBd
  obtain ⟨N, hN, hN64⟩ : ∃ N : Nat, Hid (IntKind.u64.wrap (b + 1500) = (N : Int)) ∧ N < 18446744073709551616 := ⟨(IntKind.u64.wrap (b + 1500)).toNat, by have := wrap_u64_range (b + 1500); show _ = _; omega, by have := wrap_u64_range (b + 1500); omega⟩
  clear hbr hb wf3
  go_enter Try.func3, Try.ntmps3
  go_wp2_with fail
  refine (Ops_calls a0 cap0 l HWL.out y0 w H0 (Rd.old_int hCl [])).mono ?_
  rintro e w1 ⟨A, c, ops0, rfl, hol0, hops0, H1, hoc, Q1⟩
  have Hops0 := Lib.hid hops0
  clear hops0 H0
  go_wp2_with fail
  refine (hBd w1).mono ?_
  rintro e _ ⟨rfl, rfl⟩
  clear hBd
  have E0 := H1.eltsNil opK
  have E1 := (E0.eltOp ⟨false, n, a2⟩).eltsSnoc
  have E2 := (E1.eltOp ⟨true, N, 0⟩).eltsSnoc
  have HL : Holds (w1.alloc (.cells #[.bool false, .int .u64 (n : Int), .int .i64 a2, .bool true, .int .u64 (N : Int), .int .i64 0] 27)) (rowH opK 27 (.slice (some ⟨w1.heap.size, 0, none⟩) 2 2) [(⟨false, n, a2⟩ : OpV), ⟨true, N, 0⟩] :: rowH opK 27 (.slice A ops0.length c) ops0 :: [oldH w]) := E2.litRow 27 (by simp)
  have Q2 := Q1.alloc (.cells #[.bool false, .int .u64 (n : Int), .int .i64 a2, .bool true, .int .u64 (N : Int), .int .i64 0] 27)
  have hl2 : (ops0.length + [(⟨false, n, a2⟩ : OpV), (⟨true, N, 0⟩ : OpV)].length) * 24 ≤ 140737488355328 := by simp; omega
  clear E0 E1 E2 H1 Q1
  rw [← hN.out] at HL Q2
  go_wp2_with (at_builtin; go_must (refine H_append_move opK rfl (.tmp 14) (.tmp 23) 24 27 _ 24 rfl Try.underlying24 info_op rfl (by decide) (by decide) (.slice A ops0.length c) (.slice (some ⟨w1.heap.size, 0, none⟩) 2 2) ops0 [(⟨false, n, a2⟩ : OpV), (⟨true, N, 0⟩ : OpV)] rfl rfl HL hl2 ?_; intro ops A1 c1 w1' hB1 K1 k1 Q3))
  have hol : ops.length ≤ 14 := by rw [hB1.out]; simp; omega
  have hops : ∀ o ∈ ops, o.n < 18446744073709551616 := fun o ho => by
    rw [hB1.out] at ho
    rcases List.mem_append.1 ho with h | h
    · exact (Hops0.out o h).n64
    · simp at h
      rcases h with rfl | rfl
      · exact hn64
      · exact hN64
  have Hops := Lib.hid hops
  have H2 := K1.bwNew
  have Q4 := (Q2.trans Q3).alloc (.cells #[.slice none 0 0, .int .i64 0] 31)
  clear hops HL K1 Q2 Q3 Hops0 hol0 hoc hB1 hN hN64 hn64
  generalize w1'.heap.size = p at *
  generalize w1'.alloc (.cells #[.slice none 0 0, .int .i64 0] 31) = w2 at *
  go_loopw [11, 12] (fun wv iv wr => ∃ (i : Nat) (S : List Bool) (A2 : Option Addr) (c2 : Nat), i ≤ ops.length ∧ iv = .int .i64 (i : Int) ∧ wv = .slice A2 S.length c2 ∧ S.length ≤ 65537 * i ∧ Holds wr [bwH p S, rowH Kd.bool 4 (.slice A2 S.length c2) S, rowH opK 27 (.slice A1 ops.length c1) ops, oldH w] ∧ Calm w wr) (fun _ iv _ => ops.length - (intOf iv).toNat)
  case atStart => exact ⟨0, [], none, 0, by omega, rfl, rfl, by simp, (H2.nilRow Kd.bool 4).f2, Q4⟩
  case round =>
    clear H2 Q4
    obtain ⟨i, S, A2, c2, hi, rfl, rfl, hSl, H1, Q1⟩ := hrel
    by_cases hlt : i < ops.length
    · have hii : (i : Int) < (ops.length : Int) := by omega
      obtain ⟨g, rfl, d0, d1, d2⟩ := H1.drop.drop.opAt i hlt
      have hok := Hops.out ops[i] (List.getElem_mem hlt)
      have hbl := OpV.bits_len ops[i]
      have hw := lwrite p S ops[i] hok (by omega) wr H1
      have hd := fun W F (K : Holds W (rowH opK 27 (.slice (some ⟨g, 0, none⟩) ops.length c1) ops :: F)) => K.opAt i hlt
      have hof := fun W F (K : Holds W F) => xOf ops[i] hok W K
      clear hok
      generalize ops[i] = o at *
      have hl3 : (S.length + o.bits.length) * 1 ≤ 140737488355328 := by omega
      obtain ⟨S2, hS2⟩ : ∃ S2 : List Bool, Hid (S ++ o.bits = S2) := ⟨_, Lib.hid rfl⟩
      have hS2l : S2.length ≤ 65537 * (i + 1) := by rw [← hS2.out, List.length_append]; omega
      have hS2m : S2.length ≤ 1000000 := by omega
      rw [hS2.out] at hw
      generalize o.bits = Z at *
      go_wp2_with fail
      refine hw.mono ?_
      rintro e w3 ⟨rfl, H3, Q3⟩
      clear hw
      obtain ⟨g', hg', x0, x1, x2⟩ := hd w3 _ H3.drop.drop
      cases hg'
      go_wp2_with fail
      refine (hof w3 _ H3).mono ?_
      rintro e w4 ⟨A4, c4, rfl, H4, hc4, Q4⟩
      have H4' := (H4.f3).f2
      go_wp2_with (at_builtin; go_must (refine H_append_move Kd.bool rfl (.tmp 36) (.tmp 41) 32 4 _ 1 rfl Try.underlying32 info_bool rfl (by decide) (by decide) (.slice A2 S.length c2) (.slice A4 Z.length c4) S Z rfl rfl H4' hl3 ?_; intro B5 A5 c5 w5 hB5 K5 k5 Q5))
      have hB6 : B5 = S2 := by rw [hB5.out, hS2.out]
      subst hB6
      have K6 := K5.f2
      go_wp2_with fail
      refine (bLen p B5 w5 K6).mono ?_
      rintro e _ ⟨rfl, rfl⟩
      have hdn := bDone p B5 (by omega) w5 K6
      have hpk := fun W (K : Holds W (rowH (Kd.int .u8) 5 (.slice A5 0 0) [] :: [oldH w])) => K
      have hpl := pack_length B5
      have hpx := fun W F (K : Holds W F) R => xPack A5 c5 B5 (by omega) W K R
      obtain ⟨P, hP⟩ : ∃ P : List Int, Hid (pack B5 = P) := ⟨_, Lib.hid rfl⟩
      rw [hP.out] at hdn hpl hpx
      have hPl : P.length ≤ 1000000 := by rw [hpl]; unfold nbytes; omega
      clear hpl hpk hof hd
      go_wp2_with fail
      refine hdn.mono ?_
      rintro e w6 ⟨A6, c6, rfl, H6, hc6, Q6⟩
      go_wp2_with fail
      refine (hpx w6 _ H6 (((Rd.row _).cons _).cons _)).mono ?_
      rintro e w7 ⟨A7, c7, rfl, H7, Q7⟩
      go_wp2_with fail
      refine (SameBytes_H A6 c6 P.length P A7 c7 P.length P true (decide_eq_true rfl) w7 rfl rfl H7.drop.row'.2.2 H7.row'.2.2 (by omega) H7).mono ?_
      rintro e w8 ⟨rfl, H8, Q8⟩
      go_wp2
      go_roundw
      case rel => exact ⟨i + 1, B5, A5, c5, by omega, by go_num, rfl, hS2l, H8.drop.drop, (((((Q1.trans Q3).trans Q4).trans Q5).trans Q6).trans Q7).trans Q8⟩
      case measure => simp [intOf]; omega
    · obtain rfl : i = ops.length := by omega
      go_wp2_with fail
      refine (lives_calls wr H1).mono ?_
      rintro e w6 ⟨rfl, H6, Q6⟩
      have HB := Lib.hid (H6.drop.drop.drop.old (Q1.trans Q6))
      go_wp2
      go_ret
      exact ⟨rfl, HB.out⟩
end Go.Proofs.Ytkkhpdbognaioaa
