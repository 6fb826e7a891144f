/- The law WirePrefix: reading a part of an encoding records ErrMore; with a further byte End returns ErrForm. -/
import Derived.Test.YthkmfmcofkcjeaaWireRound
namespace Go.Proofs.Ythkmfmcofkcjeaa
set_option linter.unusedVariables false
set_option linter.unusedSimpArgs false
open Go.RowKit Go.Shelf Go.Proofs.YthkmfmcofkcjeaaW.PrintWords Go.Proofs.YthkmfmcofkcjeaaW.PrintLast Go.Proofs.YthkmfmcofkcjeaaW.PrintMore

/-- What is left after reading values of the same kinds. -/
def runS : List Val → List Int → Int → List Int × Int
  | [], bs, e => (bs, e)
  | v :: vs, bs, e => runS vs (vS v.kind bs e).2.1 (vS v.kind bs e).2.2
theorem runS_err : ∀ (vs : List Val) (bs : List Int) {e : Int}, e ≠ 0 → runS vs bs e = (bs, e)
  | [], bs, e, h => rfl
  | v :: vs, bs, e, h => by rw [runS, vS_err v.kind bs h]; exact runS_err vs bs h
theorem runS_vsRd : ∀ (vs : List Val) (bs : List Int), runS vs bs 0 = ((vsRd vs bs).2.1, (vsRd vs bs).2.2)
  | [], bs => rfl
  | v :: vs, bs => by
    rw [runS, vS_ok, vsRd]
    generalize vRd v.kind bs = t
    obtain ⟨x, r, e⟩ := t
    dsimp only
    by_cases h : e = 0
    · subst h
      rw [if_pos rfl, runS_vsRd vs r]
    · rw [if_neg h, runS_err vs r h]
theorem runS_drop (vs : List Val) (i : Nat) (h : i < vs.length) (bs : List Int) (e : Int) : runS (vs.drop i) bs e = runS (vs.drop (i + 1)) (vS vs[i].kind bs e).2.1 (vS vs[i].kind bs e).2.2 := by
  rw [List.drop_eq_getElem_cons h, runS]
theorem byte_range {b : Int} (h : (Lit.int .u8 b).wf = true) : 0 ≤ b ∧ b < 256 := by
  simp [Lit.wf, IntKind.min, IntKind.max, IntKind.bits, IntKind.signed] at h
  omega
theorem vS_next {k : Int} {bs : List Int} {e : Int} (h8 : U8s bs) {m : Nat} (hl : bs.length ≤ m) : U8s (vS k bs e).2.1 ∧ (vS k bs e).2.1.length ≤ m := by
  obtain ⟨j, hj⟩ := vS_rest k bs e
  rw [hj]
  exact ⟨u8s_drop h8 j, by rw [List.length_drop]; omega⟩

set_option maxRecDepth 100000 in
set_option maxHeartbeats 8000000 in
theorem WirePrefix_walk (a0 : Option Addr) (len0 cap0 : Nat) (z0 : List Int) (a1 a2 : Int) (w : World)
    (w0 : IsRow .i64 w a0 len0 cap0 z0) (y0 : len0 * 8 ≤ 140737488351232) (wf1 : (Lit.int .i64 a1).wf = true) (wf2 : (Lit.int .u8 a2).wf = true) :
    Calls Try.prog 9 #[.slice a0 len0 cap0, .int .i64 a1, .int .u8 a2] w fun e w' => e = .returned (.bool true) ∧ Below w.heap.size w w' := by
  obtain ⟨l, rfl, hlc, hCl, hwl⟩ := row_in w0
  have hl64 : ∀ x ∈ l, I64 x := fun x hx => wf_range (hwl x hx)
  have hby := byte_range wf2
  have HBY := Lib.hid hby
  clear w0 hwl hby
  have HL := Lib.hid hl64
  clear hl64
  have H0 := Holds.start w
  go_enter Try.func9, Try.ntmps9
  go_wp2_with fail
  refine (Vals_calls a0 cap0 l HL.out (by omega) w H0 (Rd.old_int hCl [])).mono ?_
  rintro e w1 ⟨A4, c4, all, rfl, hal, hvs, H1, hc1, Q1⟩
  have hVS : Hid (∀ v ∈ all, VS v) := hvs
  clear hvs
  have hOk : Hid (∀ v ∈ all, VOk v) := fun v hv => (hVS.out v hv).1
  have hTk : Hid (∀ m, (encVs (all.take m)).length ≤ 50000000000000) := VS.takes hVS.out (by omega)
  have hEl : (encVs all).length ≤ 10000 := by have := VS.lens all hVS.out; omega
  have hE8 : Hid (U8s (encVs all)) := encVs_u8 all hOk.out
  obtain ⟨inner, K2⟩ := H1.pin
  have henc := encode_calls A4 all.length c4 c4 all.length all inner hOk.out (Nat.le_refl _) (by omega) hTk.out w1 K2
  rw [List.take_length] at henc
  obtain ⟨E, hE⟩ : ∃ E : List Int, Hid (encVs all = E) := ⟨_, Lib.hid rfl⟩
  rw [hE.out] at henc hEl hE8
  go_wp2_with fail
  refine henc.mono ?_
  rintro e w5 ⟨A5, k5, rfl, H5, hk5, Q8⟩
  have hVV := Lib.hid (H5.f2.valsAt)
  have Q9 := Q1.trans Q8
  clear henc K2 H1 Q1 Q8 H0
  by_cases hE0 : E = []
  · subst hE0
    go_wp2_with fail
    refine (read_calls none 0 [] (by simp) w5 H5 (Kd.C_nil _ _)).mono ?_
    rintro e w6 ⟨r, AL, rfl, R6, Q10⟩
    go_wp2_with fail
    refine (rEnd r [] 0 w6 R6).mono ?_
    rintro e _ ⟨rfl, rfl⟩
    rw [show endE [] 0 = 0 from rfl]
    go_wp2_with fail
    refine (lives_calls w6 R6.frame).mono ?_
    rintro e w8 ⟨rfl, H8, Q11⟩
    have HB := Lib.hid (H8.drop.drop.drop.old ((Q9.trans Q10).trans Q11))
    go_wp2
    go_ret
    exact ⟨rfl, HB.out⟩
  · have hEn : ((E.length : Int) == 0) = false := by simp [hE0]
    have hEpos : 0 < E.length := List.length_pos_iff.2 hE0
    clear hE0
    obtain ⟨k, hk, hkl⟩ := around_name a1 E.length hEpos
    have hC5 := H5.row'.2.2
    have hCk := kd_take hC5 (show k ≤ E.length by omega)
    obtain ⟨P, hP⟩ : ∃ P : List Int, Hid (E.take k = P) := ⟨_, Lib.hid rfl⟩
    have hPl : Hid (P.length = k) := by show _ = _; rw [← hP.out, List.length_take]; omega
    rw [hP.out] at hCk
    have hP8 : Hid (U8s P) := by rw [← hP.out]; exact u8s_take hE8.out _
    have hk0 : (0 : Int) ≤ (k : Int) := by omega
    have hk1 : (k : Int) ≤ (E.length : Int) := by omega
    have hcut := cut_to (P := Try.prog) 24 5 .i64 Try.underlying24 (info_parts info_u8).choose_spec.1 A5 E.length k5 (k : Int) hk0 hk1 hk5
    rw [Int.toNat_natCast] at hcut
    have hAr := Around_at a1 (E.length : Int) k hk wf1 (by omega) (by omega)
    clear hk
    go_wp2_with fail
    refine (hAr w5).mono ?_
    rintro e _ ⟨rfl, rfl⟩
    go_wp2_with fail
    have hrd := fun W (H : Holds W (rowH (Kd.int .u8) 5 (.slice A5 E.length k5) E :: pinH valK 47 (.slice A4 all.length c4) all inner :: [oldH w])) (hC : (Kd.int .u8).C W A5 P.length P) => read_calls A5 k5 P (by rw [hPl.out]; omega) W H hC
    rw [hPl.out] at hrd
    refine (hrd w5 H5 hCk).mono ?_
    rintro e w6 ⟨r, AR, rfl, R6, Q10⟩
    have H6 := R6.holds
    clear hrd hcut hAr hCk hC5
    -- the long one
    go_wp2_with fail
    refine (Few_H A5 k5 E (E.length : Int) (by omega) (by omega) w6 (H6.drop.drop.row'.2.2) hk5 H6).mono ?_
    rintro e w7 ⟨A7, c7, rfl, H7, Q11⟩
    rw [Int.toNat_natCast, List.take_length] at H7 ⊢
    have hl1 : (E.length + 1) * 1 ≤ 140737488355328 := by omega
    go_wp2_with (at_builtin; go_must (refine H_append_int .u8 rfl (.tmp 42) (.tmp 44) 24 5 1 rfl Try.underlying24 info_u8 (by decide) (.slice A7 E.length c7) E a2 rfl rfl H7 hl1 ?_; intro L A8 c8 w8 hL K8 k8 Q12))
    have hLl : L.length ≤ 10001 := by rw [hL.out, List.length_append]; simp; omega
    have hL8 : Hid (U8s L) := by
      intro y hy
      rw [hL.out] at hy
      rcases List.mem_append.1 hy with hy | hy
      · exact hE8.out y hy
      · rw [List.mem_singleton.1 hy]; exact HBY.out
    refine (read_calls A8 c8 L (by omega) w8 K8.drop K8.row'.2.2).mono ?_
    rintro e w9 ⟨lg, AG, rfl, R9, Q13⟩
    have H9 := R9.holds.f4.f4
    have Q14 := (((Q9.trans Q10).trans Q11).trans Q12).trans Q13
    have hPl' : P.length ≤ 10001 := by rw [hPl.out]; omega
    clear R9 R6 H6 H7 K8 H5 Q9 Q10 Q11 Q12 Q13 hk0 hk1 hEn
    -- H9 : r's Reader, its bytes, the long one's, its bytes, ..
    have hfin1 : Hid ((runS all P 0).2 = 3) := by
      show _ = _
      rw [runS_vsRd]
      exact vsRd_part all P (E.drop k) hOk.out (by rw [hE.out, ← hP.out, List.take_append_drop]) (by intro h; have := congrArg List.length h; simp at this; omega)
    have hfin2 : Hid (runS all L 0 = ([a2], 0)) := by
      show _ = _
      rw [runS_vsRd, hL.out, ← hE.out, vsRd_enc all [a2] hOk.out]
    go_wp2
    go_loopw [12] (fun iv wr => ∃ (i : Nat) (cur1 cur2 : List Int) (e1 e2 : Int), i ≤ all.length ∧ iv = .int .i64 (i : Int) ∧ U8s cur1 ∧ U8s cur2 ∧ cur1.length ≤ 10001 ∧ cur2.length ≤ 10001 ∧ Hid (runS (all.drop i) cur1 e1 = runS all P 0) ∧ Hid (runS (all.drop i) cur2 e2 = runS all L 0) ∧ Holds wr [rdrH 79 [viewH .u8 AR P] r cur1 e1, viewH .u8 AR P, rdrH 79 [viewH .u8 AG L] lg cur2 e2, viewH .u8 AG L, rowH (Kd.int .u8) 5 (.slice A5 E.length k5) E, pinH valK 47 (.slice A4 all.length c4) all inner, oldH w] ∧ Calm w wr) (fun iv _ => all.length - (intOf iv).toNat)
    case atStart => exact ⟨0, P, L, 0, 0, Nat.zero_le _, rfl, hP8.out, hL8.out, hPl', hLl, rfl, rfl, H9, Q14⟩
    case round =>
      clear H9 Q14
      obtain ⟨i, cur1, cur2, e1, e2, hi, rfl, u1, u2, l1, l2, r1, r2, H1, Q1⟩ := hrel
      by_cases hlt : i < all.length
      · obtain ⟨g, A1, c1, A2, c2, rfl, hd, -, -, -, -⟩ := hVV.out i hlt
        have hx := hOk.out all[i] (List.getElem_mem hlt)
        have hii : (i : Int) < (all.length : Int) := by omega
        have s1 := runS_drop all i hlt cur1 e1
        have s2 := runS_drop all i hlt cur2 e2
        rw [r1.out] at s1
        rw [r2.out] at s2
        have S1 := Lib.hid s1
        have S2 := Lib.hid s2
        have Hd := Lib.hid hd
        obtain ⟨d0, -, -, -, -⟩ := hd wr (H1.drop.drop.drop.drop.drop.sub (l := [_]))
        have hkk := hx.k0
        have hkk5 := hx.k5
        clear hx hd s1 s2
        generalize all[i] = x at *
        have n1 := vS_next (k := x.kind) (e := e1) u1 l1
        have n2 := vS_next (k := x.kind) (e := e2) u2 l2
        have hr1 := lread r x.kind hkk hkk5 cur1 e1 u1 (by omega) wr (G := [viewH .u8 AR P]) (Sub.head _ _) (RdS.of H1)
        generalize vS x.kind cur1 e1 = t1 at *
        go_wp2_with fail
        refine hr1.mono ?_
        rintro e w2 ⟨B1, k1, B2, k2, rfl, -, -, R2, Q2⟩
        have H2 := (R2.holds.f2.drop.f2.drop).f3
        obtain ⟨d0', -, -, -, -⟩ := Hd.out w2 (H2.drop.drop.drop.drop.drop.sub (l := [_]))
        have hr2 := lread lg x.kind hkk hkk5 cur2 e2 u2 (by omega) w2 (G := [viewH .u8 AG L]) (((Sub.head _ _).cons _).cons _) (RdS.of H2)
        generalize vS x.kind cur2 e2 = t2 at *
        clear hr1 R2 d0
        go_wp2_with fail
        refine hr2.mono ?_
        rintro e w3 ⟨B3, k3, B4, k4, rfl, -, -, R3, Q3⟩
        have H3 := (R3.holds.f2.drop.f2.drop).b3
        clear hr2 R3 d0' H2
        go_wp2
        go_roundw
        case rel => exact ⟨i + 1, t1.2.1, t2.2.1, t1.2.2, t2.2.2, by omega, by go_num, n1.1, n2.1, n1.2, n2.2, S1.out.symm, S2.out.symm, H3, (Q1.trans Q2).trans Q3⟩
        case measure => simp [intOf]; omega
      · obtain rfl : i = all.length := by omega
        have r1' := r1.out
        have r2' := r2.out
        rw [List.drop_length] at r1' r2'
        have h3 : Hid (e1 = 3) := by have := hfin1.out; rw [← r1'] at this; exact this
        have h0 : Hid (cur2 = [a2] ∧ e2 = 0) := by have := hfin2.out; rw [← r2'] at this; simp only [runS, Prod.mk.injEq] at this; exact this
        obtain rfl := h3.out
        obtain ⟨rfl, rfl⟩ := h0.out
        clear r1 r2 r1' r2' h3 h0
        obtain ⟨kk, hkk, hk6⟩ := around_name a1 6 (by omega)
        have hA := Around_at a1 6 kk hkk wf1 (by omega) (by omega)
        clear hkk
        go_wp2_with fail
        refine (rEnd r cur1 3 wr (G := [viewH .u8 AR P]) (RdS.of H1)).mono ?_
        rintro e _ ⟨rfl, rfl⟩
        rw [show endE cur1 3 = 3 from rfl]
        go_wp2_with fail
        refine (rEnd lg [a2] 0 wr (G := [viewH .u8 AG L]) (RdS.of H1.f3)).mono ?_
        rintro e _ ⟨rfl, rfl⟩
        rw [show endE [a2] 0 = 2 from rfl]
        go_wp2_with fail
        refine (hA wr).mono ?_
        rintro e _ ⟨rfl, rfl⟩
        have hr1 := lread r (kk : Int) (by omega) (by omega) cur1 3 u1 (by omega) wr (G := [viewH .u8 AR P]) (Sub.head _ _) (RdS.of H1)
        rw [vS_err _ _ (by decide)] at hr1
        go_wp2_with fail
        refine hr1.mono ?_
        rintro e w2 ⟨B1, k1, B2, k2, rfl, -, -, R2, Q2⟩
        dsimp only [List.length_nil] at R2 ⊢
        have H2 := R2.holds.box 47 #[.int .i64 (kk : Int), .int .u64 0, .int .i64 0, .slice B1 0 k1, .slice B2 0 k2]
        have Q2' := (Q1.trans Q2).alloc (.cells #[.int .i64 (kk : Int), .int .u64 0, .int .i64 0, .slice B1 0 k1, .slice B2 0 k2] 47)
        have hs := Same_eq ⟨(kk : Int), 0, 0, [], []⟩ B1 k1 B2 k2 none 0 none 0 (by simp) (by simp) _ H2 H2.drop.drop.viewC H2.drop.drop.drop.viewC (Kd.C_nil _ _) (Kd.C_nil _ _)
        clear hr1 R2
        go_wp2_with fail
        refine hs.mono ?_
        rintro e w3 ⟨rfl, H3, Q3⟩
        clear hs H2
        have hE3 := rEnd r cur1 3 w3 (G := [viewH .u8 AR P]) (RdS.of H3.drop)
        rw [show endE cur1 3 = 3 from rfl] at hE3
        go_wp2_with fail
        refine hE3.mono ?_
        rintro e _ ⟨rfl, rfl⟩
        go_wp2_with fail
        refine (lives_calls w3 H3).mono ?_
        rintro e w4 ⟨rfl, H4, Q4⟩
        have HB := Lib.hid (H4.drop.drop.drop.drop.drop.drop.drop.drop.drop.old ((Q2'.trans Q3).trans Q4))
        go_wp2
        go_ret
        exact ⟨rfl, HB.out⟩
end Go.Proofs.Ythkmfmcofkcjeaa
