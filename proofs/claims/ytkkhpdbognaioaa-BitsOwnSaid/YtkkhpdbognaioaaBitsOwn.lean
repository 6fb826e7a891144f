/- The law BitsOwn: later changes of arguments and results affect neither a Writer nor a Reader. -/
import Derived.Test.YtkkhpdbognaioaaBitsRound
namespace Go.Proofs.Ytkkhpdbognaioaa
set_option linter.unusedVariables false
set_option linter.unusedSimpArgs false
open Go.RowKit Go.Shelf Go.Proofs.YtkkhpdbognaioaaW.PrintWords Go.Proofs.YtkkhpdbognaioaaW.PrintLast Go.Proofs.YtkkhpdbognaioaaW.PrintMore

set_option maxRecDepth 100000 in
set_option maxHeartbeats 16000000 in
theorem BitsOwn_walk (a0 : Option Addr) (len0 cap0 : Nat) (z0 : List Int) (a1 : Int) (w : World)
    (w0 : IsRow .i64 w a0 len0 cap0 z0) (y0 : len0 * 8 ≤ 140737488351232) (wf1 : (Lit.int .u64 a1).wf = true) :
    Calls Try.prog 9 #[.slice a0 len0 cap0, .int .u64 a1] w fun e w' => e = .returned (.bool true) ∧ Below w.heap.size w w' := by
  obtain ⟨l, rfl, hlc, hCl, hwl⟩ := row_in w0
  have HWL := Lib.hid hwl
  obtain ⟨n, hn, hn64⟩ : ∃ n : Nat, a1 = (n : Int) ∧ n < 18446744073709551616 := ⟨a1.toNat, by
    simp [Lit.wf, IntKind.min, IntKind.max, IntKind.bits, IntKind.signed] at wf1
    omega⟩
  subst hn
  clear w0 hwl wf1
  have H0 := Holds.start w
  go_enter Try.func9, Try.ntmps9
  go_wp2_with fail
  refine (Ops_calls a0 cap0 l HWL.out y0 w H0 (Rd.old_int hCl [])).mono ?_
  rintro e w1 ⟨A, c, ops, rfl, hol, hops, H1, hoc, Q1⟩
  have Hops := Lib.hid hops
  have H2 := H1.bwNew
  have Q2 := Q1.alloc (.cells #[.slice none 0 0, .int .i64 0] 31)
  clear hops H0 H1 Q1
  go_wp2_with fail
  generalize w1.heap.size = p at *
  generalize w1.alloc (.cells #[.slice none 0 0, .int .i64 0] 31) = w2 at *
  have hb := bBits p [] n hn64 64 (by decide) w2 H2
  rw [show clampN 64 64 = 64 from rfl, List.nil_append] at hb
  obtain ⟨L0, hL0⟩ : ∃ L0 : List Bool, Hid (bitsN n 64 = L0) := ⟨_, Lib.hid rfl⟩
  rw [hL0.out] at hb
  have hL0l : L0.length = 64 := by rw [← hL0.out, bitsN_length]
  refine hb.mono ?_
  rintro e w3 ⟨rfl, H3, Q3⟩
  have Q4 := Q2.trans Q3
  clear hb H2 Q2 Q3
  have HL0l := Lib.hid hL0l
  clear hL0l
  go_wp2
  go_loopw [7] (fun iv wr => ∃ (i : Nat) (T : List Bool), i ≤ ops.length ∧ iv = .int .i64 (i : Int) ∧ T.length ≤ 65537 * i ∧ Holds wr [bwH p (L0 ++ T), rowH opK 27 (.slice A ops.length c) ops, oldH w] ∧ Calm w wr) (fun iv _ => ops.length - (intOf iv).toNat)
  case atStart => exact ⟨0, [], by omega, rfl, by simp, by rw [List.append_nil]; exact H3, Q4⟩
  case round =>
    clear H3 Q4
    obtain ⟨i, T, hi, rfl, hTl, H1, Q1⟩ := hrel
    have hSl : (L0 ++ T).length ≤ 1000000 := by rw [List.length_append, HL0l.out]; omega
    by_cases hlt : i < ops.length
    · have hii : (i : Int) < (ops.length : Int) := by omega
      obtain ⟨g, rfl, d0, d1, d2⟩ := H1.drop.opAt i hlt
      have hok := Hops.out ops[i] (List.getElem_mem hlt)
      have hbl := OpV.bits_len ops[i]
      have hw := lwrite p (L0 ++ T) ops[i] hok.n64 (by omega) wr H1
      rw [List.append_assoc] at hw
      clear hok
      generalize ops[i] = o at *
      go_wp2_with fail
      refine hw.mono ?_
      rintro e w3 ⟨rfl, H3, Q3⟩
      go_wp2
      go_roundw
      case rel => exact ⟨i + 1, T ++ o.bits, by omega, by go_num, by rw [List.length_append]; omega, H3, Q1.trans Q3⟩
      case measure => simp [intOf]; omega
    · obtain rfl : i = ops.length := by omega
      have hpl := pack_length (L0 ++ T)
      have hdn := fun W F (K : Holds W (bwH p (L0 ++ T) :: F)) => bDone p (L0 ++ T) (by omega) W K
      have hU8 : Hid (AllU8' (pack (L0 ++ T))) := pack_u8 _
      obtain ⟨P, hP⟩ : ∃ P : List Int, Hid (pack (L0 ++ T) = P) := ⟨_, Lib.hid rfl⟩
      rw [hP.out] at hpl hdn hU8
      have hPl : P.length ≤ 200000 := by rw [hpl]; unfold nbytes; omega
      have hP8 : 8 ≤ P.length := by rw [hpl, List.length_append, HL0l.out]; unfold nbytes; omega
      clear hpl
      go_wp2_with fail
      refine (hdn wr _ H1).mono ?_
      rintro e w3 ⟨A3, c3, rfl, H3, hc3, Q3⟩
      have Q5 := Q1.trans Q3
      clear H1 Q1 Q3
      have H4 := H3.litNil .u8 5
      have HC4 : (Kd.int .u8).C (w3.alloc (.cells #[] 5)) A3 P.length P := H4.drop.row'.2.2
      go_wp2_with (at_builtin; go_must (refine H_append_ints .u8 rfl (.tmp 30) (.tmp 31) 29 5 1 rfl Try.underlying29 info_u8 (by decide) (.slice (some ⟨w3.heap.size, 0, none⟩) 0 0) [] P A3 P.length c3 rfl rfl H4 HC4 (by simp; omega) ?_; intro B1 A4 c4 w4 hB1 K4 k4 Q4))
      rw [List.nil_append] at hB1
      have hB2 := hB1.out
      subst hB2
      have Q6 := (Q5.alloc (.cells #[] 5)).trans Q4
      have H6 := K4.f2
      clear hB1 H3 H4 HC4 K4 Q4 Q5
      obtain ⟨g3, rfl, -⟩ := H6.rowAddr (by omega)
      generalize B1 = P at *
      go_loopw [10] (fun iv wr => ∃ (i : Nat) (X : List Int), i ≤ P.length ∧ iv = .int .i64 (i : Int) ∧ Hid (X.length = P.length) ∧ Holds wr (rowH (Kd.int .u8) 5 (.slice (some ⟨g3, 0, none⟩) P.length c3) X :: rowH (Kd.int .u8) 5 (.slice A4 P.length c4) P :: bwH p (L0 ++ T) :: rowH opK 27 (.slice A ops.length c) ops :: [oldH w]) ∧ Calm w wr) (fun iv _ => P.length - (intOf iv).toNat)
      case atStart => exact ⟨0, P, by omega, rfl, rfl, H6, Q6⟩
      case round =>
        clear H6 Q6
        obtain ⟨i, X0, hi, rfl, hX, H1, Q1⟩ := hrel
        by_cases hlt : i < P.length
        · have hii : (i : Int) < (P.length : Int) := by omega
          obtain ⟨d1, d2⟩ := H1.rowCell i (by rw [hX.out]; exact hlt)
          have hg3 := H1.rowAddr (by rw [hX.out]; omega)
          obtain ⟨g', hg', hg3l⟩ := hg3
          cases hg'
          go_wp2
          go_roundw
          case rel => exact ⟨i + 1, X0.set i 9, by omega, by go_num, by show _ = _; rw [List.length_set, hX.out], H1.rowPut i 9, Q1.setCell _ _⟩
          case measure => simp [intOf]; omega
        · obtain rfl : i = P.length := by omega
          go_wp2_with fail
          refine (hdn wr _ H1.f3).mono ?_
          rintro e w5 ⟨A5, c5, rfl, H5, hc5, Q5⟩
          go_wp2_with fail
          refine (SameBytes_H A5 c5 P.length P A4 c4 P.length P true (decide_eq_true rfl) w5 rfl rfl H5.row'.2.2 (H5.drop.drop.drop.row'.2.2) (by omega) H5).mono ?_
          rintro e w6 ⟨rfl, H6, Q6⟩
          have H7 := (H6.f4).litNil .u8 5
          have HC7 : (Kd.int .u8).C (w6.alloc (.cells #[] 5)) A4 P.length P := H7.drop.row'.2.2
          have Q7 := (Q1.trans Q5).trans Q6
          clear H1 H5 H6 Q1 Q5 Q6 hdn
          go_wp2_with (at_builtin; go_must (refine H_append_ints .u8 rfl (.tmp 46) (.tmp 47) 29 5 1 rfl Try.underlying29 info_u8 (by decide) (.slice (some ⟨w6.heap.size, 0, none⟩) 0 0) [] P A4 P.length c4 rfl rfl H7 HC7 (by simp; omega) ?_; intro B8 A8 c8 w8 hB8 K8 k8 Q8))
          rw [List.nil_append] at hB8
          have hB9 := hB8.out
          subst hB9
          have Q9 := (Q7.alloc (.cells #[] 5)).trans Q8
          clear hB8 H7 HC7 Q7 Q8
          generalize B8 = P at *
          refine (bRead A8 c8 P (by omega) w8 K8 K8.row'.2.2).mono ?_
          rintro e w9 ⟨r, rfl, H9, Q10⟩
          have H10 := H9.f2
          have Q11 := Q9.trans Q10
          clear Q9 Q10 H9 K8
          obtain ⟨g8, rfl, -⟩ := H10.rowAddr (by omega)
          go_wp2
          go_loopw [13] (fun iv wr => ∃ (i : Nat) (X : List Int), i ≤ P.length ∧ iv = .int .i64 (i : Int) ∧ Hid (X.length = P.length) ∧ Holds wr (rowH (Kd.int .u8) 5 (.slice (some ⟨g8, 0, none⟩) P.length c8) X :: rdH r P 0 0 :: rowH (Kd.int .u8) 5 (.slice A4 P.length c4) P :: rowH (Kd.int .u8) 5 (.slice A5 P.length c5) P :: bwH p (L0 ++ T) :: rowH (Kd.int .u8) 5 (.slice (some ⟨g3, 0, none⟩) P.length c3) X0 :: rowH opK 27 (.slice A ops.length c) ops :: [oldH w]) ∧ Calm w wr) (fun iv _ => P.length - (intOf iv).toNat)
          case atStart => exact ⟨0, P, by omega, rfl, rfl, H10, Q11⟩
          case round =>
            clear H10 Q11
            obtain ⟨i, X, hi, rfl, hX, H1, Q1⟩ := hrel
            by_cases hlt : i < P.length
            · have hii : (i : Int) < (P.length : Int) := by omega
              obtain ⟨d1, d2⟩ := H1.rowCell i (by rw [hX.out]; exact hlt)
              have hg8 := H1.rowAddr (by rw [hX.out]; omega)
              obtain ⟨g', hg', hg8l⟩ := hg8
              cases hg'
              go_wp2
              go_roundw
              case rel => exact ⟨i + 1, _, by omega, by go_num, by show _ = _; rw [List.length_set, hX.out], H1.rowPut i _, Q1.setCell _ _⟩
              case measure => simp [intOf]; omega
            · obtain rfl : i = P.length := by omega
              have hlen : 64 ≤ 8 * P.length := by omega
              have hu : unpack P = [] ++ (bitsN n 64 ++ (T ++ List.replicate (8 * nbytes (L0 ++ T).length - (L0 ++ T).length) false)) := by
                rw [← hP.out, unpack_pack, hL0.out, List.nil_append, List.append_assoc]
              have hrd := bitsR_at [] (T ++ List.replicate (8 * nbytes (L0 ++ T).length - (L0 ++ T).length) false) n 64
              rw [← hu, List.length_nil, Nat.mod_eq_of_lt (show n < 2 ^ 64 by simpa using hn64)] at hrd
              have hrb := rBits r P hU8.out 0 0 64 (by omega) (by omega) wr H1.f2
              rw [show clampN 64 64 = 64 from rfl, hrd] at hrb
              clear hu hrd
              go_wp2_with fail
              refine hrb.mono ?_
              rintro e w10 ⟨rfl, H11, Q11⟩
              go_wp2_with fail
              refine (rAt r P (0 + 64) 0 w10 H11).mono ?_
              rintro e _ ⟨rfl, rfl⟩
              rw [show ((0 + 64 : Nat) : Int) = 64 from rfl]
              go_wp2_with fail
              refine (lives_calls w10 H11).mono ?_
              rintro e w11 ⟨rfl, H12, Q12⟩
              have HB := Lib.hid (H12.drop.drop.drop.drop.drop.drop.drop.old ((Q1.trans Q11).trans Q12))
              go_wp2
              go_ret
              exact ⟨rfl, HB.out⟩
end Go.Proofs.Ytkkhpdbognaioaa
