/- The law WireOwn: later changes of arguments and results affect neither a Writer nor a Reader. -/
import Derived.Test.YthkmfmcofkcjeaaWireRound
import Derived.Test.YthkmfmcofkcjeaaSep6
namespace Go.Proofs.Ythkmfmcofkcjeaa
set_option linter.unusedVariables false
set_option linter.unusedSimpArgs false
open Go.RowKit Go.Shelf Go.Proofs.YthkmfmcofkcjeaaW.PrintWords Go.Proofs.YthkmfmcofkcjeaaW.PrintLast Go.Proofs.YthkmfmcofkcjeaaW.PrintMore

set_option maxRecDepth 100000 in
set_option maxHeartbeats 16000000 in
theorem WireOwn_walk (a0 : Option Addr) (len0 cap0 : Nat) (z0 : List Int) (a1 : Option Addr) (len1 cap1 : Nat) (z1 : List Int) (w : World)
    (w0 : IsRow .u8 w a0 len0 cap0 z0) (y0 : len0 * 1 ≤ 140737488351232) (w1 : IsRow .i64 w a1 len1 cap1 z1) (y1 : len1 * 8 ≤ 140737488351232) :
    Calls Try.prog 5 #[.slice a0 len0 cap0, .slice a1 len1 cap1] w fun e w' => e = .returned (.bool true) ∧ Below w.heap.size w w' := by
  obtain ⟨b, rfl, hbc, hCb, hwb⟩ := row_in w0
  obtain ⟨m, rfl, hmc, hCm, hwm⟩ := row_in w1
  have hm64 : ∀ x ∈ m, I64 x := fun x hx => wf_range (hwm x hx)
  have hb8 : U8s b := u8_of_wf hwb
  clear w0 w1 hwb hwm
  have HM := Lib.hid hm64
  have HB := Lib.hid hb8
  clear hm64 hb8
  have H0 := Holds.start w
  go_enter Try.func5, Try.ntmps5
  go_wp2_with fail
  refine (Few_H a0 cap0 b 30 (by omega) (by omega) w hCb hbc H0).mono ?_
  rintro e w1 ⟨AB, cB, rfl, H1, Q1⟩
  obtain ⟨B, hB⟩ : ∃ B : List Int, Hid (b.take (30 : Int).toNat = B) := ⟨_, Lib.hid rfl⟩
  rw [hB.out] at H1 ⊢
  have hBl : B.length ≤ 30 := by rw [← hB.out, List.length_take]; omega
  have hB8 : Hid (U8s B) := by rw [← hB.out]; exact u8s_take HB.out _
  go_wp2_with fail
  refine (Ints_H a1 cap1 m 10 (by omega) (by omega) w1 (Rd.old_int hCm [] w1 H1.drop) hmc H1).mono ?_
  rintro e w2 ⟨AM, cM, rfl, H2, Q2⟩
  obtain ⟨M, hM⟩ : ∃ M : List Int, Hid (m.take (10 : Int).toNat = M) := ⟨_, Lib.hid rfl⟩
  rw [hM.out] at H2 ⊢
  have hMl : M.length ≤ 10 := by rw [← hM.out, List.length_take]; omega
  have hM64 : Hid (∀ x ∈ M, I64 x) := fun x hx => HM.out x (by rw [← hM.out] at hx; exact List.mem_of_mem_take hx)
  have H3 := H2.wrNew
  have Q3 := (Q1.trans Q2).alloc (.cells #[.slice none 0 0] 26)
  clear H1 H2 Q1 Q2 H0
  go_wp2_with fail
  generalize w2.heap.size = p at *
  refine (wRaw p [] AB cB B hB8.out (by omega) (by simp) _ H3 ((Rd.row _).cons _)).mono ?_
  rintro e w4 ⟨rfl, H4, Q4⟩
  obtain ⟨E1, hE1⟩ : ∃ E : List Int, Hid ([] ++ (encN B.length ++ B) = E) := ⟨_, Lib.hid rfl⟩
  rw [hE1.out] at H4
  have hE1l : E1.length ≤ 40 := by
    have := encN_len 9 B.length (by simp only [Nat.reducePow, Nat.reduceAdd]; omega)
    rw [← hE1.out, List.nil_append, List.length_append]; omega
  go_wp2_with fail
  refine (wInts p E1 AM cM M hM64.out (by omega) (by omega) _ H4 (Rd.row _)).mono ?_
  rintro e w5 ⟨rfl, H5, Q5⟩
  obtain ⟨E, hE⟩ : ∃ E : List Int, Hid (E1 ++ (encN M.length ++ encInts M) = E) := ⟨_, Lib.hid rfl⟩
  rw [hE.out] at H5
  have hEl : E.length ≤ 1000 := by
    have h1 := encN_len 9 M.length (by simp only [Nat.reducePow, Nat.reduceAdd]; omega)
    have hi : ∀ l : List Int, (∀ y ∈ l, I64 y) → (encInts l).length ≤ 10 * l.length := by
      intro l
      induction l with
      | nil => intro _; simp [encInts]
      | cons y l ih =>
        intro h
        have h1 := ih (fun z hz => h z (by simp [hz]))
        have h2 := encN_len 9 (zz y) (by have := zz_lt y (h y (by simp)).1 (h y (by simp)).2; simp only [Nat.reducePow, Nat.reduceAdd]; omega)
        simp only [encInts, List.length_append, List.length_cons]
        omega
    have h2 := hi M hM64.out
    rw [← hE.out, List.length_append, List.length_append]
    omega
  have hE8 : Hid (U8s E) := by
    intro x hx
    rw [← hE.out, ← hE1.out, List.nil_append] at hx
    rcases List.mem_append.1 hx with hx | hx
    · rcases List.mem_append.1 hx with hx | hx
      · exact encN_u8 _ x hx
      · exact hB8.out x hx
    · rcases List.mem_append.1 hx with hx | hx
      · exact encN_u8 _ x hx
      · exact encInts_u8 _ x hx
  go_wp2_with fail
  refine (wDone p E (by omega) w5 H5).mono ?_
  rintro e w6 ⟨AF, cF, rfl, H6, hcF, Q6⟩
  have Q7 := ((Q3.trans Q4).trans Q5).trans Q6
  have H7 := H6.litNil .u8 5
  have Q8 := Q7.alloc (.cells #[] 5)
  have hCF := H7.drop.row'.2.2
  have hl1 : ([] : List Int).length + E.length ≤ 140737488355328 := by simp; omega
  clear Q3 Q4 Q5 Q6 H3 H4 H5 Q7
  go_wp2_with (at_builtin; go_must (refine H_append_ints .u8 rfl (.tmp 27) (.tmp 28) 24 5 1 rfl Try.underlying24 info_u8 (by decide) (.slice (some ⟨w6.heap.size, 0, none⟩) 0 0) [] E AF E.length cF rfl rfl H7 hCF (by omega) ?_; intro E2 AA cA w8 hE2 K8 k8 Q9))
  rw [List.nil_append] at hE2
  have hE2' := hE2.out.symm
  subst hE2'
  have Q10 := Q8.trans Q9
  have HA := (K8.f5)
  clear K8 Q8 Q9 H6 H7 hCF hE2
  go_wp2
  go_loopw [10] (fun iv wr => ∃ (i : Nat) (xs : List Int), i ≤ B.length ∧ iv = .int .i64 (i : Int) ∧ Hid (xs.length = B.length) ∧ Holds wr (rowH (Kd.int .u8) 5 (.slice AB B.length cB) xs :: rowH (Kd.int .u8) 5 (.slice AA E.length cA) E :: rowH (Kd.int .u8) 5 (.slice AF E.length cF) E :: wrH p E :: rowH (Kd.int .i64) 3 (.slice AM M.length cM) M :: [oldH w]) ∧ Calm w wr) (fun iv _ => B.length - (intOf iv).toNat)
  case atStart => exact ⟨0, B, Nat.zero_le _, rfl, rfl, HA, Q10⟩
  case round =>
  clear HA Q10
  obtain ⟨i, xs, hi, rfl, hxs, HA, Q10⟩ := hrel
  by_cases hlt : i < B.length
  · have hii : (i : Int) < (B.length : Int) := by omega
    obtain ⟨g, rfl, hgl⟩ := HA.rowAddr (by rw [hxs.out]; omega)
    obtain ⟨d1, d2⟩ := HA.rowCell i (by rw [hxs.out]; exact hlt)
    have K := HA.rowPut i 7
    go_wp2
    go_roundw
    case rel => exact ⟨i + 1, xs.set i 7, by omega, by go_num, by show _ = _; rw [List.length_set]; exact hxs.out, K, Q10.setCell _ _⟩
    case measure => simp [intOf]; omega
  obtain rfl : i = B.length := by omega
  clear hlt hi
  have HM2 := HA.f5
  clear HA
  obtain ⟨xB, hxB⟩ : ∃ x, x = xs := ⟨_, rfl⟩
  rw [← hxB] at HM2
  clear hxB hxs
  go_wp2
  go_loopw [11] (fun iv wr => ∃ (i : Nat) (xs : List Int), i ≤ M.length ∧ iv = .int .i64 (i : Int) ∧ Hid (xs.length = M.length) ∧ Holds wr (rowH (Kd.int .i64) 3 (.slice AM M.length cM) xs :: rowH (Kd.int .u8) 5 (.slice AB B.length cB) xB :: rowH (Kd.int .u8) 5 (.slice AA E.length cA) E :: rowH (Kd.int .u8) 5 (.slice AF E.length cF) E :: wrH p E :: [oldH w]) ∧ Calm w wr) (fun iv _ => M.length - (intOf iv).toNat)
  case atStart => exact ⟨0, M, Nat.zero_le _, rfl, rfl, HM2, Q10⟩
  case round =>
  clear HM2 Q10
  obtain ⟨i, xs, hi, rfl, hxs, HM2, Q10⟩ := hrel
  by_cases hlt : i < M.length
  · have hii : (i : Int) < (M.length : Int) := by omega
    obtain ⟨g, rfl, hgl⟩ := HM2.rowAddr (by rw [hxs.out]; omega)
    obtain ⟨d1, d2⟩ := HM2.rowCell i (by rw [hxs.out]; exact hlt)
    have K := HM2.rowPut i 7
    go_wp2
    go_roundw
    case rel => exact ⟨i + 1, xs.set i 7, by omega, by go_num, by show _ = _; rw [List.length_set]; exact hxs.out, K, Q10.setCell _ _⟩
    case measure => simp [intOf]; omega
  obtain rfl : i = M.length := by omega
  clear hlt hi
  have HF2 := HM2.f4
  clear HM2
  obtain ⟨xM, hxM⟩ : ∃ x, x = xs := ⟨_, rfl⟩
  rw [← hxM] at HF2
  clear hxM hxs
  go_wp2
  go_loopw [12] (fun iv wr => ∃ (i : Nat) (xs : List Int), i ≤ E.length ∧ iv = .int .i64 (i : Int) ∧ Hid (xs.length = E.length) ∧ Holds wr (rowH (Kd.int .u8) 5 (.slice AF E.length cF) xs :: rowH (Kd.int .i64) 3 (.slice AM M.length cM) xM :: rowH (Kd.int .u8) 5 (.slice AB B.length cB) xB :: rowH (Kd.int .u8) 5 (.slice AA E.length cA) E :: wrH p E :: [oldH w]) ∧ Calm w wr) (fun iv _ => E.length - (intOf iv).toNat)
  case atStart => exact ⟨0, E, Nat.zero_le _, rfl, rfl, HF2, Q10⟩
  case round =>
  clear HF2 Q10
  obtain ⟨i, xs, hi, rfl, hxs, HF2, Q10⟩ := hrel
  by_cases hlt : i < E.length
  · have hii : (i : Int) < (E.length : Int) := by omega
    obtain ⟨g, rfl, hgl⟩ := HF2.rowAddr (by rw [hxs.out]; omega)
    obtain ⟨d1, d2⟩ := HF2.rowCell i (by rw [hxs.out]; exact hlt)
    have K := HF2.rowPut i 9
    go_wp2
    go_roundw
    case rel => exact ⟨i + 1, xs.set i 9, by omega, by go_num, by show _ = _; rw [List.length_set]; exact hxs.out, K, Q10.setCell _ _⟩
    case measure => simp [intOf]; omega
  obtain rfl : i = E.length := by omega
  clear hlt hi
  have HW := HF2.f5
  clear HF2 hxs
  go_wp2_with fail
  refine (wDone p E (by omega) wr HW).mono ?_
  rintro e w9 ⟨AD, cD, rfl, H9, -, Q12⟩
  go_wp2_with fail
  have HA9 := (H9.f6)
  refine (SameBytes_H AD cD E.length E AA cA E.length E true (decide_eq_true rfl) w9 rfl rfl H9.row'.2.2 HA9.row'.2.2 (by omega) HA9).mono ?_
  rintro e w10 ⟨rfl, H10, Q13⟩
  have Q14 := (Q10.trans Q12).trans Q13
  have H11 := H10.litNil .u8 5
  have Q15 := Q14.alloc (.cells #[] 5)
  have hCA := H11.drop.row'.2.2
  clear Q10 Q12 Q13 Q14 H9 HA9 HW
  go_wp2_with (at_builtin; go_must (refine H_append_ints .u8 rfl (.tmp 61) (.tmp 62) 24 5 1 rfl Try.underlying24 info_u8 (by decide) (.slice (some ⟨w10.heap.size, 0, none⟩) 0 0) [] E AA E.length cA rfl rfl H11 hCA (by omega) ?_; intro E3 AT cT w11 hE3 K11 k11 Q16))
  rw [List.nil_append] at hE3
  have hE3' := hE3.out.symm
  subst hE3'
  have Q17 := Q15.trans Q16
  clear Q15 Q16 hCA H11 H10 hE3
  refine (read_calls AT cT E (by omega) w11 K11 K11.row'.2.2).mono ?_
  rintro e w12 ⟨r, AL, rfl, R12, Q18⟩
  have Q19 := Q17.trans Q18
  obtain ⟨F, hSub, HT⟩ : ∃ F : List Hp, Sub F [oldH w] ∧ Holds w12 (rowH (Kd.int .u8) 5 (.slice AT E.length cT) E :: rdrH 79 [viewH .u8 AL E] r E 0 :: viewH .u8 AL E :: F) := ⟨_, fun W h => h.drop.drop.drop.drop.drop.drop, R12.holds.f3⟩
  clear Q17 Q18 K11 R12
  have hraw : Hid (rawS E 0 = (B, encN M.length ++ encInts M, 0)) := by
    show _ = _
    unfold rawS
    rw [if_pos rfl, rawRd, ← hE.out, ← hE1.out, List.nil_append, List.append_assoc, uRd_full _ (by omega)]
    simp only [if_true]
    rw [if_neg (by simp), List.take_left, List.drop_left]
  have hints : Hid (intsS (encN M.length ++ encInts M) 0 = (M, [], 0)) := by
    show _ = _
    unfold intsS
    rw [if_pos rfl, intsRd, uRd_full _ (by omega)]
    simp only [if_true]
    rw [if_neg (by have := encInts_len M; omega)]
    have := iRd_enc M [] hM64.out
    rw [List.append_nil] at this
    exact this
  obtain ⟨Y, hY⟩ : ∃ Y : List Int, Hid (encN M.length ++ encInts M = Y) := ⟨_, Lib.hid rfl⟩
  rw [hY.out] at hraw hints
  have hY8 : Hid (U8s Y) := by
    intro x hx
    rw [← hY.out] at hx
    rcases List.mem_append.1 hx with hx | hx
    · exact encN_u8 _ x hx
    · exact encInts_u8 _ x hx
  have hYl : Y.length ≤ 1000 := by rw [← hE.out, List.length_append, hY.out] at hEl; omega
  go_wp2
  go_loopw [15] (fun iv wr => ∃ (i : Nat) (xs : List Int), i ≤ E.length ∧ iv = .int .i64 (i : Int) ∧ Hid (xs.length = E.length) ∧ Holds wr (rowH (Kd.int .u8) 5 (.slice AT E.length cT) xs :: rdrH 79 [viewH .u8 AL E] r E 0 :: viewH .u8 AL E :: F) ∧ Calm w wr) (fun iv _ => E.length - (intOf iv).toNat)
  case atStart => exact ⟨0, E, Nat.zero_le _, rfl, rfl, HT, Q19⟩
  case round =>
  clear HT Q19
  obtain ⟨i, xs, hi, rfl, hxs, HT, Q19⟩ := hrel
  by_cases hlt : i < E.length
  · have hii : (i : Int) < (E.length : Int) := by omega
    obtain ⟨g, rfl, hgl⟩ := HT.rowAddr (by rw [hxs.out]; omega)
    obtain ⟨d1, d2⟩ := HT.rowCell i (by rw [hxs.out]; exact hlt)
    have K := HT.rowPut i 255
    go_wp2
    go_roundw
    case rel => exact ⟨i + 1, xs.set i 255, by omega, by go_num, by show _ = _; rw [List.length_set]; exact hxs.out, K, Q19.setCell _ _⟩
    case measure => simp [intOf]; omega
  obtain rfl : i = E.length := by omega
  clear hlt hi
  have hr := rRaw r E 0 hE8.out (by omega) wr (G := [viewH .u8 AL E]) ((Sub.head _ _).cons _) (RdS.of HT.f2)
  rw [hraw.out] at hr
  go_wp2_with fail
  refine hr.mono ?_
  rintro e w13 ⟨AX, cX, rfl, hcX, R13, Q20⟩
  dsimp only at R13 hcX ⊢
  have HX := R13.holds.f2
  have Q21 := Q19.trans Q20
  obtain ⟨xT, hxT⟩ : ∃ x, x = xs := ⟨_, rfl⟩
  rw [← hxT] at HX
  clear hxT hxs hr R13 HT Q19 Q20
  go_wp2
  go_loopw [17] (fun iv wr => ∃ (i : Nat) (xs : List Int), i ≤ B.length ∧ iv = .int .i64 (i : Int) ∧ Hid (xs.length = B.length) ∧ Holds wr (rowH (Kd.int .u8) 5 (.slice AX B.length cX) xs :: rdrH 79 [viewH .u8 AL E] r Y 0 :: rowH (Kd.int .u8) 5 (.slice AT E.length cT) xT :: viewH .u8 AL E :: F) ∧ Calm w wr) (fun iv _ => B.length - (intOf iv).toNat)
  case atStart => exact ⟨0, B, Nat.zero_le _, rfl, rfl, HX, Q21⟩
  case round =>
  clear HX Q21
  obtain ⟨i, xs, hi, rfl, hxs, HX, Q21⟩ := hrel
  by_cases hlt : i < B.length
  · have hii : (i : Int) < (B.length : Int) := by omega
    obtain ⟨g, rfl, hgl⟩ := HX.rowAddr (by rw [hxs.out]; omega)
    obtain ⟨d1, d2⟩ := HX.rowCell i (by rw [hxs.out]; exact hlt)
    have K := HX.rowPut i 1
    go_wp2
    go_roundw
    case rel => exact ⟨i + 1, xs.set i 1, by omega, by go_num, by show _ = _; rw [List.length_set]; exact hxs.out, K, Q21.setCell _ _⟩
    case measure => simp [intOf]; omega
  obtain rfl : i = B.length := by omega
  clear hlt hi
  have hr := rInts r Y 0 hY8.out (by omega) wr (G := [viewH .u8 AL E]) (((Sub.head _ _).cons _).cons _) (RdS.of HX.f2)
  rw [hints.out] at hr
  go_wp2_with fail
  refine hr.mono ?_
  rintro e w14 ⟨AI, cI, rfl, hcI, R14, Q22⟩
  dsimp only at R14 hcI ⊢
  have H14 := R14.holds
  clear R14 hr
  go_wp2_with fail
  refine (Ints_H a1 cap1 m 10 (by omega) (by omega) w14 (Rd.old_int hCm [] w14 (hSub w14 H14.drop.drop.drop.drop.drop)) hmc H14).mono ?_
  rintro e w15 ⟨AJ, cJ, rfl, H15, Q23⟩
  rw [hM.out] at H15 ⊢
  go_wp2_with fail
  refine (SameInts_H AI cI M.length M AJ cJ M.length M true (decide_eq_true rfl) w15 rfl rfl H15.drop.drop.row'.2.2 H15.row'.2.2 (by omega) H15).mono ?_
  rintro e w16 ⟨rfl, H16, Q24⟩
  have hE3 := rEnd r [] 0 w16 (G := [viewH .u8 AL E]) (RdS.of H16.drop)
  rw [show endE [] 0 = 0 from rfl] at hE3
  go_wp2_with fail
  refine hE3.mono ?_
  rintro e _ ⟨rfl, rfl⟩
  go_wp2_with fail
  refine (lives_calls w16 H16).mono ?_
  rintro e w17 ⟨rfl, H17, Q25⟩
  have HB := Lib.hid ((hSub w17 H17.drop.drop.drop.drop.drop.drop).old ((((Q21.trans Q22).trans Q23).trans Q24).trans Q25))
  go_wp2
  go_ret
  exact ⟨rfl, HB.out⟩
end Go.Proofs.Ythkmfmcofkcjeaa
