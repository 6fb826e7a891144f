/- The law WireReads: reads return what the reference's reads return. -/
import Derived.Test.YthkmfmcofkcjeaaWireXRead
namespace Go.Proofs.Ythkmfmcofkcjeaa
set_option linter.unusedVariables false
set_option linter.unusedSimpArgs false
open Go.RowKit Go.Shelf Go.Proofs.YthkmfmcofkcjeaaW.PrintWords Go.Proofs.YthkmfmcofkcjeaaW.PrintLast Go.Proofs.YthkmfmcofkcjeaaW.PrintMore

theorem iRd_len : ∀ (j : Nat) (bs : List Int), (iRd j bs).1.length ≤ j
  | 0, bs => by simp [iRd]
  | j + 1, bs => by
    rw [iRd]
    obtain ⟨v, bs1, e, h1⟩ : ∃ v bs1 e, uRd 0 0 bs = (v, bs1, e) := ⟨_, _, _, rfl⟩
    rw [h1]
    dsimp only
    split
    · have := iRd_len j bs1
      generalize iRd j bs1 = t at *
      obtain ⟨l, r, e2⟩ := t
      dsimp only at *
      split
      · simp only [List.length_cons]; omega
      · simp
    · simp
theorem intsS_len (bs : List Int) (e : Int) : (intsS bs e).1.length ≤ bs.length := by
  rw [intsS_lenS]
  have h1 := lenS_room bs e
  have h2 := lenS_rest bs e
  obtain ⟨m, hm, _⟩ := uS_rest bs e
  split
  · rename_i h
    have h3 := iRd_len (lenS bs e).1 (lenS bs e).2.1
    have h4 := h1 h
    rw [h2, hm, List.length_drop] at h4
    rw [h2, hm] at h3
    rw [h2, hm]
    omega
  · simp
theorem vS_lens (k : Int) (bs : List Int) (e : Int) : (vS k bs e).1.b.length ≤ bs.length ∧ (vS k bs e).1.l.length ≤ bs.length := by
  have h1 := rawS_len bs e
  have h2 := intsS_len bs e
  unfold vS
  split
  · simp
  split
  · simp
  split
  · simp
  split
  · exact ⟨h1, by simp⟩
  · exact ⟨by simp, h2⟩

set_option maxRecDepth 100000 in
set_option maxHeartbeats 16000000 in
theorem WireReads_walk (a0 : Option Addr) (len0 cap0 : Nat) (z0 : List Int) (a1 : Option Addr) (len1 cap1 : Nat) (z1 : List Int) (a2 a3 : Int) (a4 : Option Addr) (len4 cap4 : Nat) (z4 : List Int) (w : World)
    (w0 : IsRow .u8 w a0 len0 cap0 z0) (y0 : len0 * 1 ≤ 140737488351232) (w1 : IsRow .i64 w a1 len1 cap1 z1) (y1 : len1 * 8 ≤ 140737488351232) (wf2 : (Lit.int .i64 a2).wf = true) (wf3 : (Lit.int .u8 a3).wf = true) (w4 : IsRow .i64 w a4 len4 cap4 z4) (y4 : len4 * 8 ≤ 140737488351232) :
    Calls Try.prog 4 #[.slice a0 len0 cap0, .slice a1 len1 cap1, .int .i64 a2, .int .u8 a3, .slice a4 len4 cap4] w fun e w' => e = .returned (.bool true) ∧ Below w.heap.size w w' := by
  obtain ⟨b, rfl, hbc, hCb, hwb⟩ := row_in w0
  obtain ⟨l, rfl, hlc, hCl, hwl⟩ := row_in w1
  obtain ⟨m, rfl, hmc, hCm, hwm⟩ := row_in w4
  have hl64 : ∀ x ∈ l, I64 x := fun x hx => wf_range (hwl x hx)
  have hb8 : U8s b := u8_of_wf hwb
  have hby := byte_range wf3
  have HBY := Lib.hid hby
  have HWM := Lib.hid hwm
  clear w0 w1 w4 hwb hwl hwm hby wf3
  have HL := Lib.hid hl64
  have HB := Lib.hid hb8
  clear hl64 hb8
  have H0 := Holds.start w
  go_enter Try.func4, Try.ntmps4
  go_wp2_with fail
  refine (Vals_calls a1 cap1 l HL.out (by omega) w H0 (Rd.old_int hCl [])).mono ?_
  rintro e w1 ⟨A4, c4, all, rfl, hal, hvs, H1, hc1, Q1⟩
  have hVS : Hid (∀ v ∈ all, VS v) := hvs
  clear hvs
  have hOk : Hid (∀ v ∈ all, VOk v) := fun v hv => (hVS.out v hv).1
  have hTk : Hid (∀ m, (encVs (all.take m)).length ≤ 50000000000000) := VS.takes hVS.out (by omega)
  have hEl : (encVs all).length ≤ 10000 := by have := VS.lens all hVS.out; omega
  have hE8 : Hid (U8s (encVs all)) := encVs_u8 all hOk.out
  obtain ⟨inner, K2⟩ := H1.pin
  have henc := xEncode A4 all.length c4 c4 all.length all inner hOk.out (Nat.le_refl _) (by omega) hTk.out w1 K2
  rw [List.take_length] at henc
  obtain ⟨E, hE⟩ : ∃ E : List Int, Hid (encVs all = E) := ⟨_, Lib.hid rfl⟩
  rw [hE.out] at henc hEl hE8
  go_wp2_with fail
  refine henc.mono ?_
  rintro e w5 ⟨A5, k5, rfl, H5', hk5, Q8⟩
  have H5 : Holds w5 (rowH (Kd.int .u8) 5 (.slice A5 E.length k5) E :: [oldH w]) := H5'.f2.drop
  clear H5'
  have Q9 := Q1.trans Q8
  clear henc K2 H1 Q1 Q8 H0
  -- the turned bytes: the row after the store, if there is one
  have hAr : 0 < E.length → ∃ k : Nat, k < E.length ∧ ∀ W, Calls Try.prog 11 #[.int .i64 a2, .int .i64 (E.length : Int)] W fun e w' => e = .returned (.int .i64 (k : Int)) ∧ W = w' := fun h => by
    obtain ⟨k, hk, hkl⟩ := around_name a2 E.length h
    exact ⟨k, hkl, fun W => Around_at a2 (E.length : Int) k hk wf2 (by omega) (by omega) W⟩
  have HAr := Lib.hid hAr
  clear hAr
  by_cases hE0 : 0 < E.length
  focus
    have hE0i : (0 : Int) < (E.length : Int) := by omega
    obtain ⟨k, hkl, hA⟩ := HAr.out hE0
    obtain ⟨g, rfl, hgl⟩ := H5.rowAddr hE0
    obtain ⟨d1, d2⟩ := H5.rowCell k hkl
    have HT := H5.rowPut k a3
    have hk0 : (0 : Int) ≤ (k : Int) := by omega
    have hk1 : (k : Int) < (E.length : Int) := by omega
    obtain ⟨T, hT⟩ : ∃ T : List Int, Hid (E.set k a3 = T) := ⟨_, Lib.hid rfl⟩
    have hT8 : Hid (U8s T) := by
      intro y hy
      rw [← hT.out] at hy
      rcases List.mem_or_eq_of_mem_set hy with h | h
      · exact hE8.out y h
      · rw [h]; exact HBY.out
    have hTl : Hid (T.length = E.length) := by show _ = _; rw [← hT.out, List.length_set]
    rw [hT.out] at HT
    have QT := Q9.setCell ⟨g, k, none⟩ (.int .u8 a3)
    go_wp2_with fail
    refine (hA w5).mono ?_
    rintro e _ ⟨rfl, rfl⟩
    clear hA
    go_wp2_with fail
    clear d1 d2 hk0 hk1 hgl H5
    generalize w5.setCell ⟨g, k, none⟩ (.int .u8 a3) = W at *
    generalize hAA : (some ⟨g, 0, none⟩ : Option Addr) = A5 at *
    have HAA := Lib.hid hAA
    clear hAA
  rotate_left
  focus
    have hE0i : ¬ (0 : Int) < (E.length : Int) := by omega
    obtain ⟨T, hT⟩ : ∃ T : List Int, Hid (E = T) := ⟨_, Lib.hid rfl⟩
    have hT8 : Hid (U8s T) := by rw [← hT.out]; exact hE8.out
    have hTl : Hid (T.length = E.length) := by show _ = _; rw [← hT.out]
    have HT : Holds w5 (rowH (Kd.int .u8) 5 (.slice A5 E.length k5) T :: [oldH w]) := by rw [← hT.out]; exact H5
    have QT := Q9
    go_wp2_with fail
    clear H5
    generalize w5 = W at *
  rotate_left
  all_goals
    have hTl' : T.length ≤ 10000 := by rw [hTl.out]; omega
    refine (Few_H a0 cap0 b 60 (by omega) (by omega) W (Rd.old_int hCb [] W HT.drop) hbc HT).mono ?_
    rintro e w10 ⟨A10, c10, rfl, H10, Q10⟩
    rw [show (60 : Int).toNat = 60 from rfl] at H10 ⊢
    obtain ⟨U, hU⟩ : ∃ U : List Int, Hid (b.take 60 = U) := ⟨_, Lib.hid rfl⟩
    rw [hU.out] at H10 ⊢
    have hU8 : Hid (U8s U) := by rw [← hU.out]; exact u8s_take HB.out _
    have hUl : U.length ≤ 60 := by rw [← hU.out, List.length_take]; omega
    have Q12 := QT.trans Q10
    have H11 := H10.box 24 #[.slice A10 U.length c10, .slice A5 E.length k5]
    have Q13 := Q12.alloc (.cells #[.slice A10 U.length c10, .slice A5 E.length k5] 24)
    clear QT Q10 Q12 H10 HT hE0 Q9
    generalize hgg : w10.heap.size = gg at *
    generalize hww : w10.alloc (.cells #[.slice A10 U.length c10, .slice A5 E.length k5] 24) = ww at *
    rw [← hTl.out] at H11
    go_wp2
    rw [← hTl.out]
    clear hgg hww
    go_loopw [13] (fun iv wr => ∃ i : Nat, i ≤ 2 ∧ iv = .int .i64 (i : Int) ∧ Holds wr [blkH gg 24 #[.slice A10 U.length c10, .slice A5 T.length k5], rowH (Kd.int .u8) 5 (.slice A10 U.length c10) U, rowH (Kd.int .u8) 5 (.slice A5 T.length k5) T, oldH w] ∧ Calm w wr) (fun iv _ => 2 - (intOf iv).toNat)
    case atStart => exact ⟨0, by omega, rfl, H11, Q13⟩
    case round =>
      clear H11 Q13
      obtain ⟨i, hi, rfl, H1, Q1⟩ := hrel
      by_cases hlt : i < 2
      · obtain ⟨A, c, X, O, hX8, hXl, hcell, HX, hback⟩ : ∃ (A : Option Addr) (c : Nat) (X : List Int) (O : Hp), Hid (U8s X) ∧ X.length ≤ 10000 ∧ Hid (∀ (W : World) (F : List Hp), Holds W (blkH gg 24 #[.slice A10 U.length c10, .slice A5 T.length k5] :: F) → W.cell? ⟨gg, i, none⟩ = some (.slice A X.length c)) ∧ Holds wr (rowH (Kd.int .u8) 5 (.slice A X.length c) X :: blkH gg 24 #[.slice A10 U.length c10, .slice A5 T.length k5] :: O :: [oldH w]) ∧ Hid (∀ W, Holds W (rowH (Kd.int .u8) 5 (.slice A X.length c) X :: blkH gg 24 #[.slice A10 U.length c10, .slice A5 T.length k5] :: O :: [oldH w]) → Holds W [blkH gg 24 #[.slice A10 U.length c10, .slice A5 T.length k5], rowH (Kd.int .u8) 5 (.slice A10 U.length c10) U, rowH (Kd.int .u8) 5 (.slice A5 T.length k5) T, oldH w]) := by
          rcases (show i = 0 ∨ i = 1 by omega) with rfl | rfl
          · exact ⟨A10, c10, U, rowH (Kd.int .u8) 5 (.slice A5 T.length k5) T, hU8, by omega, fun W F h => h.c 0 _ rfl, H1.f2, fun W h => h.f2⟩
          · exact ⟨A5, k5, T, rowH (Kd.int .u8) 5 (.slice A10 U.length c10) U, hT8, hTl', fun W F h => h.c 1 _ rfl, H1.f3, fun W h => h.b3⟩
        clear H1
        have hi2 : (i : Int) < 2 := by omega
        have hc1 := hcell.out wr _ HX.drop
        have hXc := HX.row'.2.1
        have hrd := read_calls A c X (by omega) wr HX HX.row'.2.2
        obtain ⟨xl, hxl⟩ : ∃ xl : Nat, Hid (X.length = xl) := ⟨_, Lib.hid rfl⟩
        go_wp2_with fail
        refine hrd.mono ?_
        rintro e w1 ⟨r, AL, rfl, R1, Q2⟩
        have hc2 := hcell.out w1 _ R1.frame.drop.drop
        have B := R1.holds.box 44 #[.slice A X.length c, .int .i64 0]
        have Q3 := (Q1.trans Q2).alloc (.cells #[.slice A X.length c, .int .i64 0] 44)
        have RB : RdS 44 [rowH (Kd.int .u8) 5 (.slice A X.length c) X] (rdrH 79 [viewH .u8 AL X] r X 0 :: viewH .u8 AL X :: rowH (Kd.int .u8) 5 (.slice A X.length c) X :: blkH gg 24 #[.slice A10 U.length c10, .slice A5 T.length k5] :: O :: [oldH w]) w1.heap.size (w1.alloc (.cells #[.slice A X.length c, .int .i64 0] 44)) X 0 := ⟨A, X.length, c, B, fun _ => ⟨rfl, hXc, Rd.row _⟩⟩
        have HH := RB.holds.b3
        clear hrd R1 B RB HX hc1 Q1 Q2
        go_wp2
        clear hc2
        generalize w1.alloc (.cells #[.slice A X.length c, .int .i64 0] 44) = w2 at *
        generalize w1.heap.size = q at *
        go_loopw [16] (fun kv wr => ∃ (k : Nat) (cur : List Int) (e : Int), k ≤ 10 ∧ kv = .int .i64 (k : Int) ∧ U8s cur ∧ cur.length ≤ 10000 ∧ Holds wr [rdrH 79 [viewH .u8 AL X] r cur e, viewH .u8 AL X, rdrH 44 [rowH (Kd.int .u8) 5 (.slice A X.length c) X] q cur e, rowH (Kd.int .u8) 5 (.slice A X.length c) X, blkH gg 24 #[.slice A10 U.length c10, .slice A5 T.length k5], O, oldH w] ∧ Calm w wr) (fun kv _ => 10 - (intOf kv).toNat)
        case atStart => exact ⟨0, X, 0, by omega, rfl, hX8.out, hXl, HH, Q3⟩
        case round =>
          clear HH Q3
          obtain ⟨k, cur, e, hk, rfl, h8c, hlc1, H1, Q1⟩ := hrel
          by_cases hgo : k < m.length ∧ k < 10
          · obtain ⟨hm1, h10⟩ := hgo
            have him : (k : Int) < (m.length : Int) := by omega
            have hi10 : (k : Int) < 10 := by omega
            obtain ⟨ad, had, hcell4⟩ := at_nat (Rd.old_int hCm [] wr H1.drop.drop.drop.drop.drop.drop) hm1
            obtain ⟨kx, hkx⟩ : ∃ kx : Int, Hid (m[k]?.getD 0 = kx) := ⟨_, Lib.hid rfl⟩
            have hkw : (Lit.int .i64 kx).wf = true := by
              rw [← hkx.out, List.getElem?_eq_getElem hm1]
              exact HWM.out _ (List.getElem_mem hm1)
            rw [hkx.out] at hcell4
            subst had
            obtain ⟨kk, hkk, hk6⟩ := around_name kx 6 (by omega)
            have hA := Around_at kx 6 kk hkk hkw (by omega) (by omega) wr
            clear hkk hkw
            go_wp2_with fail
            refine hA.mono ?_
            rintro e _ ⟨rfl, rfl⟩
            clear hA hcell4
            have n1 := vS_next (k := (kk : Int)) (e := e) h8c hlc1
            have hr1 := lread r (kk : Int) (by omega) (by omega) cur e h8c (by omega) wr (G := [viewH .u8 AL X]) (Sub.head _ _) (RdS.of H1)
            have hr2 := fun B1 B2 w2 (R2 : RdS 79 [viewH .u8 AL X] (viewH .u8 B1 (vS (kk : Int) cur e).1.b :: viewH .i64 B2 (vS (kk : Int) cur e).1.l :: viewH .u8 AL X :: rdrH 44 [rowH (Kd.int .u8) 5 (.slice A X.length c) X] q cur e :: rowH (Kd.int .u8) 5 (.slice A X.length c) X :: blkH gg 24 #[.slice A10 U.length c10, .slice A5 T.length k5] :: O :: [oldH w]) r w2 (vS (kk : Int) cur e).2.1 (vS (kk : Int) cur e).2.2) => xRead q (kk : Int) (by omega) (by omega) cur e h8c (by omega) w2 (G := [rowH (Kd.int .u8) 5 (.slice A X.length c) X]) ((((((Sub.head _ _).cons _).cons _).cons _).cons _)) (RdS.of R2.holds.f5)
            have hlv := vS_lens (kk : Int) cur e
            have hlb : (vS (kk : Int) cur e).1.b.length ≤ 1099511627776 := by omega
            have hll : (vS (kk : Int) cur e).1.l.length ≤ 1099511627776 := by omega
            clear hlv
            generalize vS (kk : Int) cur e = t at *
            go_wp2_with fail
            refine hr1.mono ?_
            rintro e w2 ⟨B1, k1, B2, k2, rfl, -, -, R2, Q2⟩
            have hr2' := hr2 B1 B2 w2 R2
            clear hr1 hr2 R2
            go_wp2_with fail
            refine hr2'.mono ?_
            rintro e w3 ⟨C1, k3, C2, k4, rfl, -, -, hRd, R3, Q3⟩
            have H3 := R3.holds
            have hs := Same_eq t.1 B1 k1 B2 k2 C1 k3 C2 k4 hlb hll w3 H3 (H3.drop.drop.drop.viewC) (H3.drop.drop.drop.drop.viewC) (hRd w3 (H3.drop.drop.drop.drop.drop.drop.sub (l := [_]))) (H3.drop.viewC)
            have HRd := Lib.hid hRd
            clear hr2' R3 hRd
            go_wp2_with fail
            refine hs.mono ?_
            rintro e w4 ⟨rfl, H4, Q4⟩
            have H5 := ((H4.f2.drop).f3.drop).f3.drop
            have hE1 := rEnd r t.2.1 t.2.2 w4 (RdS.of H5.f2)
            have hE2 := xrEnd q t.2.1 t.2.2 w4 (RdS.of H5)
            obtain ⟨ee, hee⟩ : ∃ ee, Hid (endE t.2.1 t.2.2 = ee) := ⟨_, Lib.hid rfl⟩
            rw [hee.out] at hE1 hE2
            clear hs H4 H3
            go_wp2_with fail
            refine hE1.mono ?_
            rintro e _ ⟨rfl, rfl⟩
            go_wp2_with fail
            refine hE2.mono ?_
            rintro e _ ⟨rfl, rfl⟩
            go_wp2
            go_roundw
            case rel => exact ⟨k + 1, t.2.1, t.2.2, by omega, by go_num, n1.1, n1.2, H5.b3, ((Q1.trans Q2).trans Q3).trans Q4⟩
            case measure => simp [intOf]; omega
          · have HF := hback.out wr H1.drop.drop.drop
            by_cases hlt : k < m.length
            focus
              have him : (k : Int) < (m.length : Int) := by omega
              have hi10 : ¬ (k : Int) < 10 := by omega
              go_wp2
            rotate_left
            focus
              have him : ¬ (k : Int) < (m.length : Int) := by omega
              go_wp2
            all_goals
              go_roundw
              case rel => exact ⟨i + 1, by omega, by go_num, HF, Q1⟩
              case measure => simp [intOf]; omega
      · obtain rfl : i = 2 := by omega
        go_wp2_with fail
        refine (lives_calls wr H1).mono ?_
        rintro e w9 ⟨rfl, H9, Q9⟩
        have HB := Lib.hid (H9.drop.drop.drop.old (Q1.trans Q9))
        go_wp2
        go_ret
        exact ⟨rfl, HB.out⟩
end Go.Proofs.Ythkmfmcofkcjeaa
