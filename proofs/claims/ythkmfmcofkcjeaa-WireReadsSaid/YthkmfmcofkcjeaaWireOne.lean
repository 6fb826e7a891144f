/- The law WireOne: if a sequence of reads succeeds up to the end, writing the values gives the same bytes. -/
import Derived.Test.YthkmfmcofkcjeaaWireGot
namespace Go.Proofs.Ythkmfmcofkcjeaa
set_option linter.unusedVariables false
set_option linter.unusedSimpArgs false
open Go.RowKit Go.Shelf Go.Proofs.YthkmfmcofkcjeaaW.PrintWords Go.Proofs.YthkmfmcofkcjeaaW.PrintLast Go.Proofs.YthkmfmcofkcjeaaW.PrintMore

/-- What was read so far is what was written so. -/
def GotOk (T : List Int) (gs : List GV) (cur : List Int) (e : Int) : Prop := (∀ g ∈ gs, g.v.b.length ≤ g.c1 ∧ g.v.l.length ≤ g.c2) ∧ (e = 0 → T = encVs (gs.map GV.v) ++ cur ∧ ∀ g ∈ gs, VOk g.v)
theorem GotOk.step {T : List Int} {gs : List GV} {cur : List Int} {e k : Int} (h : GotOk T gs cur e) (hk0 : 0 ≤ k) (hk5 : k ≤ 5) (h8 : U8s cur) (hl : cur.length ≤ 1099511627776) {A1 A2 : Option Addr} {c1 c2 : Nat} (h1 : (vS k cur e).1.b.length ≤ c1) (h2 : (vS k cur e).1.l.length ≤ c2) :
    GotOk T (gs ++ [⟨(vS k cur e).1, A1, c1, A2, c2⟩]) (vS k cur e).2.1 (vS k cur e).2.2 := by
  refine ⟨fun g hg => ?_, fun he => ?_⟩
  · rcases List.mem_append.1 hg with hg | hg
    · exact h.1 g hg
    · obtain rfl := List.mem_singleton.1 hg
      exact ⟨h1, h2⟩
  · by_cases h0 : e = 0
    · subst h0
      obtain ⟨hT, hV⟩ := h.2 rfl
      rw [vS_ok] at he ⊢
      obtain ⟨v, r, e2, hv⟩ : ∃ v r e2, vRd k cur = (v, r, e2) := ⟨_, _, _, rfl⟩
      rw [hv] at he ⊢
      dsimp only at he ⊢
      subst he
      obtain ⟨_, hb, ho⟩ := vRd_back hk0 hk5 h8 hl hv
      refine ⟨?_, fun g hg => ?_⟩
      · rw [List.map_append, encVs_append, hT, hb]
        simp [encVs]
      · rcases List.mem_append.1 hg with hg | hg
        · exact hV g hg
        · obtain rfl := List.mem_singleton.1 hg
          exact ho
    · rw [vS_err k cur h0] at he
      exact absurd he h0
theorem GotOk.all {T : List Int} {gs : List GV} {cur : List Int} {e : Int} (h : GotOk T gs cur e) (he : endE cur e = 0) : encVs (gs.map GV.v) = T ∧ ∀ v ∈ gs.map GV.v, VOk v := by
  have h0 : e = 0 ∧ cur = [] := by
    unfold endE at he
    split at he
    · rename_i h0
      split at he
      · rename_i h1; exact ⟨h0, h1⟩
      · exact absurd he (by decide)
    · rename_i h0; exact absurd he h0
  obtain ⟨hT, hV⟩ := h.2 h0.1
  refine ⟨by rw [hT, h0.2, List.append_nil], fun v hv => ?_⟩
  obtain ⟨g, hg, rfl⟩ := List.mem_map.1 hv
  exact hV g hg
theorem takes_of {vs : List Val} {T : List Int} (h : encVs vs = T) (hl : T.length ≤ 1000000) (m : Nat) : (encVs (vs.take m)).length ≤ 50000000000000 := by
  have h1 : encVs vs = encVs (vs.take m) ++ encVs (vs.drop m) := by rw [← encVs_append, List.take_append_drop]
  have h2 := congrArg List.length h1
  rw [List.length_append, h] at h2
  omega
theorem info_gv : (Try.prog.info? 47).map (fun i => (i.zero, i.size, i.bytes)) = some (some (.agg #[.int .i64 0, .int .u64 0, .int .i64 0, .slice none 0 0, .slice none 0 0]), gvK.sz, 72) := by kernel_rfl

set_option maxRecDepth 100000 in
set_option maxHeartbeats 16000000 in
theorem WireOne_walk (a0 : Option Addr) (len0 cap0 : Nat) (z0 : List Int) (a1 : Option Addr) (len1 cap1 : Nat) (z1 : List Int) (a2 a3 : Int) (a4 : Option Addr) (len4 cap4 : Nat) (z4 : List Int) (w : World)
    (w0 : IsRow .u8 w a0 len0 cap0 z0) (y0 : len0 * 1 ≤ 140737488351232) (w1 : IsRow .i64 w a1 len1 cap1 z1) (y1 : len1 * 8 ≤ 140737488351232) (wf2 : (Lit.int .i64 a2).wf = true) (wf3 : (Lit.int .u8 a3).wf = true) (w4 : IsRow .i64 w a4 len4 cap4 z4) (y4 : len4 * 8 ≤ 140737488351232) :
    Calls Try.prog 8 #[.slice a0 len0 cap0, .slice a1 len1 cap1, .int .i64 a2, .int .u8 a3, .slice a4 len4 cap4] w fun e w' => e = .returned (.bool true) ∧ Below w.heap.size w w' := by
  obtain ⟨b, rfl, hbc, hCb, hwb⟩ := row_in w0
  obtain ⟨l, rfl, hlc, hCl, hwl⟩ := row_in w1
  obtain ⟨m, rfl, hmc, hCm, hwm⟩ := row_in w4
  have hl64 : ∀ x ∈ l, I64 x := fun x hx => wf_range (hwl x hx)
  have hb8 : U8s b := u8_of_wf hwb
  have hby := byte_range wf3
  have HBY := Lib.hid hby
  have HWM := Lib.hid hwm
  clear w0 w1 w4 hwb hwl hwm hby wf3
  have HL := Lib.hid hl64
  have HB := Lib.hid hb8
  clear hl64 hb8
  have H0 := Holds.start w
  go_enter Try.func8, Try.ntmps8
  go_wp2_with fail
  refine (Vals_calls a1 cap1 l HL.out (by omega) w H0 (Rd.old_int hCl [])).mono ?_
  rintro e w1 ⟨A4, c4, all, rfl, hal, hvs, H1, hc1, Q1⟩
  have hVS : Hid (∀ v ∈ all, VS v) := hvs
  clear hvs
  have hOk : Hid (∀ v ∈ all, VOk v) := fun v hv => (hVS.out v hv).1
  have hTk : Hid (∀ m, (encVs (all.take m)).length ≤ 50000000000000) := VS.takes hVS.out (by omega)
  have hEl : (encVs all).length ≤ 10000 := by have := VS.lens all hVS.out; omega
  have hE8 : Hid (U8s (encVs all)) := encVs_u8 all hOk.out
  obtain ⟨inner, K2⟩ := H1.pin
  have henc := encode_calls A4 all.length c4 c4 all.length all inner hOk.out (Nat.le_refl _) (by omega) hTk.out w1 K2
  rw [List.take_length] at henc
  obtain ⟨E, hE⟩ : ∃ E : List Int, Hid (encVs all = E) := ⟨_, Lib.hid rfl⟩
  rw [hE.out] at henc hEl hE8
  go_wp2_with fail
  refine henc.mono ?_
  rintro e w5 ⟨A5, k5, rfl, H5, hk5, Q8⟩
  have hVV := Lib.hid (H5.f2.valsAt)
  have Q9 := Q1.trans Q8
  clear henc K2 H1 Q1 Q8 H0
  -- the turned bytes: the row after the store, if there is one
  have hAr : 0 < E.length → ∃ k : Nat, k < E.length ∧ ∀ W, Calls Try.prog 11 #[.int .i64 a2, .int .i64 (E.length : Int)] W fun e w' => e = .returned (.int .i64 (k : Int)) ∧ W = w' := fun h => by
    obtain ⟨k, hk, hkl⟩ := around_name a2 E.length h
    exact ⟨k, hkl, fun W => Around_at a2 (E.length : Int) k hk wf2 (by omega) (by omega) W⟩
  have HAr := Lib.hid hAr
  clear hAr
  by_cases hE0 : 0 < E.length
  focus
    have hE0i : (0 : Int) < (E.length : Int) := by omega
    obtain ⟨k, hkl, hA⟩ := HAr.out hE0
    obtain ⟨g, rfl, hgl⟩ := H5.rowAddr hE0
    obtain ⟨d1, d2⟩ := H5.rowCell k hkl
    have HT := H5.rowPut k a3
    have hk0 : (0 : Int) ≤ (k : Int) := by omega
    have hk1 : (k : Int) < (E.length : Int) := by omega
    obtain ⟨T, hT⟩ : ∃ T : List Int, Hid (E.set k a3 = T) := ⟨_, Lib.hid rfl⟩
    have hT8 : Hid (U8s T) := by
      intro y hy
      rw [← hT.out] at hy
      rcases List.mem_or_eq_of_mem_set hy with h | h
      · exact hE8.out y h
      · rw [h]; exact HBY.out
    have hTl : Hid (T.length = E.length) := by show _ = _; rw [← hT.out, List.length_set]
    rw [hT.out] at HT
    have QT := Q9.setCell ⟨g, k, none⟩ (.int .u8 a3)
    go_wp2_with fail
    refine (hA w5).mono ?_
    rintro e _ ⟨rfl, rfl⟩
    clear hA
    go_wp2_with fail
    clear d1 d2 hk0 hk1 hgl H5
    generalize w5.setCell ⟨g, k, none⟩ (.int .u8 a3) = W at *
    generalize hAA : (some ⟨g, 0, none⟩ : Option Addr) = A5 at *
    have HAA := Lib.hid hAA
    clear hAA
  rotate_left
  focus
    have hE0i : ¬ (0 : Int) < (E.length : Int) := by omega
    obtain ⟨T, hT⟩ : ∃ T : List Int, Hid (E = T) := ⟨_, Lib.hid rfl⟩
    have hT8 : Hid (U8s T) := by rw [← hT.out]; exact hE8.out
    have hTl : Hid (T.length = E.length) := by show _ = _; rw [← hT.out]
    have HT : Holds w5 (rowH (Kd.int .u8) 5 (.slice A5 E.length k5) T :: pinH valK 47 (.slice A4 all.length c4) all inner :: [oldH w]) := by rw [← hT.out]; exact H5
    have QT := Q9
    go_wp2_with fail
    clear H5
    generalize w5 = W at *
  rotate_left
  all_goals
    have hTl' : T.length ≤ 10000 := by rw [hTl.out]; omega
    have hrd := read_calls A5 k5 T (by omega) W HT HT.row'.2.2
    rw [hTl.out] at hrd
    refine hrd.mono ?_
    rintro e w6 ⟨r, AL, rfl, R6, Q10⟩
    have Q11 := QT.trans Q10
    have R7 : RdS 79 [viewH .u8 AL T] (viewH .u8 AL T :: rowH gvK 47 (.slice none ([] : List GV).length 0) [] :: viewsH [] :: rowH (Kd.int .u8) 5 (.slice A5 E.length k5) T :: pinH valK 47 (.slice A4 all.length c4) all inner :: [oldH w]) r w6 T 0 := R6.other (fun B h => ((((h.viewsNil).nilRow gvK 47).f4).f4))
    clear hrd HT R6 QT Q10 Q9 hE0
    go_wp2
    go_loopw [14, 15] (fun gv iv wr => ∃ (i : Nat) (gs : List GV) (A : Option Addr) (c : Nat) (cur : List Int) (e : Int), i ≤ all.length ∧ iv = .int .i64 (i : Int) ∧ gv = .slice A gs.length c ∧ gs.length ≤ i ∧ U8s cur ∧ cur.length ≤ 10000 ∧ Hid (GotOk T gs cur e) ∧ RdS 79 [viewH .u8 AL T] (viewH .u8 AL T :: rowH gvK 47 (.slice A gs.length c) gs :: viewsH gs :: rowH (Kd.int .u8) 5 (.slice A5 E.length k5) T :: pinH valK 47 (.slice A4 all.length c4) all inner :: [oldH w]) r wr cur e ∧ Calm w wr) (fun _ iv _ => all.length - (intOf iv).toNat)
    case atStart => exact ⟨0, [], none, 0, T, 0, Nat.zero_le _, rfl, rfl, by simp, hT8.out, hTl', ⟨fun g hg => by simp at hg, fun _ => ⟨by simp [encVs], fun g hg => by simp at hg⟩⟩, R7, Q11⟩
    case round =>
      clear R7 Q11
      obtain ⟨i, gs, A, c, cur, e, hi, rfl, rfl, hgl, h8c, hlc1, hgot, R1, Q1⟩ := hrel
      by_cases hlt : i < all.length
      · obtain ⟨g, A1, c1, A2, c2, rfl, hd, -, -, -, -⟩ := hVV.out i hlt
        have hx := hOk.out all[i] (List.getElem_mem hlt)
        have hii : (i : Int) < (all.length : Int) := by omega
        obtain ⟨d0, -, -, -, -⟩ := hd wr (R1.frame.drop.drop.drop.drop.sub (l := [_]))
        have hkk := hx.k0
        have hkk5 := hx.k5
        clear hx hd
        generalize all[i] = x at *
        have n1 := vS_next (k := x.kind) (e := e) h8c hlc1
        have hr1 := lread r x.kind hkk hkk5 cur e h8c (by omega) wr (G := [viewH .u8 AL T]) (Sub.head _ _) R1
        have hst := fun B1 B2 k1 k2 h1 h2 => hgot.out.step (A1 := B1) (A2 := B2) (c1 := k1) (c2 := k2) hkk hkk5 h8c (by omega) h1 h2
        have Hst := Lib.hid hst
        clear hst
        generalize vS x.kind cur e = t at *
        have hl1 : (gs.length + 1) * 72 ≤ 140737488355328 := by omega
        go_wp2_with fail
        refine hr1.mono ?_
        rintro e w2 ⟨B1, k1, B2, k2, rfl, hb1, hb2, R2, Q2⟩
        have hst := Hst.out B1 B2 k1 k2 hb1 hb2
        clear Hst hr1
        obtain ⟨gn, hgn⟩ : ∃ gn : GV, gn = ⟨t.1, B1, k1, B2, k2⟩ := ⟨_, rfl⟩
        have HE := (R2.holds.f5).eltGV ⟨t.1, B1, k1, B2, k2⟩
        have Hst := Lib.hid hst
        clear hst hgn gn
        go_wp2_with (at_builtin; go_must (refine H_append_b gvK rfl (.tmp 42) (.tmp 50) 35 47 _ 72 rfl Try.underlying35 info_gv rfl (by decide) (by decide) (.slice A gs.length c) gs ⟨t.1, B1, k1, B2, k2⟩ (GV.cells ⟨t.1, B1, k1, B2, k2⟩) _ rfl rfl (by simp) HE hl1 ?_; intro G2 A9 c9 w3 hG2 K9 k9 Q3))
        have K10 := ((((K9.f6).f5).f5).viewsSnoc (g := ⟨t.1, B1, k1, B2, k2⟩))
        rw [← hG2.out] at K10
        have K11 := ((K10.f2).f4).f4
        have hst : Hid (GotOk T G2 t.2.1 t.2.2) := by rw [hG2.out]; exact Hst.out
        clear K10 K9 HE R2 Hst
        go_roundw
        case rel => exact ⟨i + 1, G2, A9, c9, t.2.1, t.2.2, by omega, by go_num, rfl, by rw [hG2.out]; simp; omega, n1.1, n1.2, hst, RdS.of K11, (Q1.trans Q2).trans Q3⟩
        case measure => simp [intOf]; omega
      · obtain rfl : i = all.length := by omega
        have hEr := rEnd r cur e wr R1
        by_cases hEnd : endE cur e = 0
        focus
          rw [hEnd] at hEr
          obtain ⟨hall, hallV⟩ := hgot.out.all hEnd
          have hen := encode_G A c gs.length (gs.map GV.v) hallV (by simp) (by omega) (takes_of hall (by omega)) wr (R1.holds.drop.drop.gotAt hgot.out.1) (G := [rowH gvK 47 (.slice A gs.length c) gs, viewsH gs]) (F := rdrH 79 [viewH .u8 AL T] r cur e :: viewH .u8 AL T :: rowH gvK 47 (.slice A gs.length c) gs :: viewsH gs :: rowH (Kd.int .u8) 5 (.slice A5 E.length k5) T :: pinH valK 47 (.slice A4 all.length c4) all inner :: [oldH w]) (fun W h => h.drop.drop.sub (l := [_, _])) R1.holds
          rw [show (gs.map GV.v).take gs.length = gs.map GV.v from List.take_of_length_le (by simp), hall] at hen
          have hen' := hen
          rw [hTl.out] at hen'
          clear hen hall hallV hEnd
          go_wp2_with fail
          refine hEr.mono ?_
          rintro e _ ⟨rfl, rfl⟩
          go_wp2_with fail
          refine hen'.mono ?_
          rintro e w7 ⟨A7, c7, rfl, H7, -, Q7⟩
          go_wp2_with fail
          refine (SameBytes_H A7 c7 E.length T A5 k5 E.length T true (decide_eq_true rfl) w7 hTl.out.symm hTl.out.symm H7.row'.2.2 (H7.drop.drop.drop.drop.drop.row'.2.2) (by omega) H7).mono ?_
          rintro e w8 ⟨rfl, H8, Q8⟩
          have H9 := H8.drop.drop.drop.drop.drop.drop.drop
          have Q9 := (Q1.trans Q7).trans Q8
          clear H8 H7 hen' hEr
          go_wp2_with fail
          generalize w8 = wz at *
        rotate_left
        focus
          have hEb : (endE cur e == 0) = false := by simpa using hEnd
          have H9 := R1.frame.drop.drop.drop.drop.drop
          have Q9 := Q1
          clear hEnd
          go_wp2_with fail
          refine hEr.mono ?_
          rintro e _ ⟨rfl, rfl⟩
          clear hEr
          go_wp2_with fail
          generalize wr = wz at *
        rotate_left
        all_goals
          clear R1 Q1 hgot hgl hlc1 h8c
          refine (Few_H a0 cap0 b 60 (by omega) (by omega) wz (Rd.old_int hCb [] wz H9) hbc H9).mono ?_
          rintro e w10 ⟨A10, c10, rfl, H10, Q10⟩
          rw [show (60 : Int).toNat = 60 from rfl] at H10 ⊢
          obtain ⟨U, hU⟩ : ∃ U : List Int, Hid (b.take 60 = U) := ⟨_, Lib.hid rfl⟩
          rw [hU.out] at H10 ⊢
          have hU8 : Hid (U8s U) := by rw [← hU.out]; exact u8s_take HB.out _
          have hUl : U.length ≤ 60 := by rw [← hU.out, List.length_take]; omega
          go_wp2_with fail
          have hrd := read_calls A10 c10 U (by omega) w10 H10 H10.row'.2.2
          refine hrd.mono ?_
          rintro e w11 ⟨r', AL', rfl, R11, Q11⟩
          have Q12 := (Q9.trans Q10).trans Q11
          have R12 : RdS 79 [viewH .u8 AL' U] (viewH .u8 AL' U :: rowH gvK 47 (.slice none ([] : List GV).length 0) [] :: viewsH [] :: rowH (Kd.int .u8) 5 (.slice A10 U.length c10) U :: [oldH w]) r' w11 U 0 := R11.other (fun B h => ((((h.viewsNil).nilRow gvK 47).f4).f4))
          clear hrd H10 H9 Q9 Q10 Q11 R11
          go_wp2
          go_loopw [14, 17] (fun gv iv wr => ∃ (i : Nat) (gs : List GV) (A : Option Addr) (c : Nat) (cur : List Int) (e : Int), i ≤ 10 ∧ iv = .int .i64 (i : Int) ∧ gv = .slice A gs.length c ∧ gs.length ≤ i ∧ U8s cur ∧ cur.length ≤ 10000 ∧ Hid (GotOk U gs cur e) ∧ RdS 79 [viewH .u8 AL' U] (viewH .u8 AL' U :: rowH gvK 47 (.slice A gs.length c) gs :: viewsH gs :: rowH (Kd.int .u8) 5 (.slice A10 U.length c10) U :: [oldH w]) r' wr cur e ∧ Calm w wr) (fun _ iv _ => 10 - (intOf iv).toNat)
          case atStart => exact ⟨0, [], none, 0, U, 0, Nat.zero_le _, rfl, rfl, by simp, hU8.out, by omega, ⟨fun g hg => by simp at hg, fun _ => ⟨by simp [encVs], fun g hg => by simp at hg⟩⟩, R12, Q12⟩
          case round =>
            clear R12 Q12
            obtain ⟨i, gs, A, c, cur, e, hi, rfl, rfl, hgl, h8c, hlc1, hgot, R1, Q1⟩ := hrel
            have hEr := rEnd r' cur e wr R1
            by_cases hgo : i < m.length ∧ i < 10 ∧ endE cur e ≠ 0
            · obtain ⟨hm1, h10, hen⟩ := hgo
              have hEb : (endE cur e == 0) = false := by simpa using hen
              have him : (i : Int) < (m.length : Int) := by omega
              have hi10 : (i : Int) < 10 := by omega
              clear hen
              obtain ⟨ad, had, hcell⟩ := at_nat (Rd.old_int hCm [] wr R1.frame.drop.drop.drop.drop) hm1
              obtain ⟨kx, hkx⟩ : ∃ kx : Int, Hid (m[i]?.getD 0 = kx) := ⟨_, Lib.hid rfl⟩
              have hkw : (Lit.int .i64 kx).wf = true := by
                rw [← hkx.out, List.getElem?_eq_getElem hm1]
                exact HWM.out _ (List.getElem_mem hm1)
              rw [hkx.out] at hcell
              subst had
              obtain ⟨kk, hkk, hk6⟩ := around_name kx 6 (by omega)
              have hA := Around_at kx 6 kk hkk hkw (by omega) (by omega) wr
              clear hkk hkw
              go_wp2_with fail
              refine hEr.mono ?_
              rintro e _ ⟨rfl, rfl⟩
              go_wp2_with fail
              refine hA.mono ?_
              rintro e _ ⟨rfl, rfl⟩
              clear hA hEr hcell
              have n1 := vS_next (k := (kk : Int)) (e := e) h8c hlc1
              have hr1 := lread r' (kk : Int) (by omega) (by omega) cur e h8c (by omega) wr (G := [viewH .u8 AL' U]) (Sub.head _ _) R1
              have hst := fun B1 B2 k1 k2 h1 h2 => hgot.out.step (k := (kk : Int)) (A1 := B1) (A2 := B2) (c1 := k1) (c2 := k2) (by omega) (by omega) h8c (by omega) h1 h2
              have Hst := Lib.hid hst
              clear hst
              generalize vS (kk : Int) cur e = t at *
              have hl1 : (gs.length + 1) * 72 ≤ 140737488355328 := by omega
              go_wp2_with fail
              refine hr1.mono ?_
              rintro e w2 ⟨B1, k1, B2, k2, rfl, hb1, hb2, R2, Q2⟩
              have hst := Hst.out B1 B2 k1 k2 hb1 hb2
              clear Hst hr1
              have HE := (R2.holds.f5).eltGV ⟨t.1, B1, k1, B2, k2⟩
              have Hst := Lib.hid hst
              clear hst
              go_wp2_with (at_builtin; go_must (refine H_append_b gvK rfl (.tmp 83) (.tmp 91) 35 47 _ 72 rfl Try.underlying35 info_gv rfl (by decide) (by decide) (.slice A gs.length c) gs ⟨t.1, B1, k1, B2, k2⟩ (GV.cells ⟨t.1, B1, k1, B2, k2⟩) _ rfl rfl (by simp) HE hl1 ?_; intro G2 A9 c9 w3 hG2 K9 k9 Q3))
              have K10 := ((((K9.f6).f5).f5).viewsSnoc (g := ⟨t.1, B1, k1, B2, k2⟩))
              rw [← hG2.out] at K10
              have K11 := ((K10.f2).f4).f4
              have hst : Hid (GotOk U G2 t.2.1 t.2.2) := by rw [hG2.out]; exact Hst.out
              clear K10 K9 HE R2 Hst
              go_roundw
              case rel => exact ⟨i + 1, G2, A9, c9, t.2.1, t.2.2, by omega, by go_num, rfl, by rw [hG2.out]; simp; omega, n1.1, n1.2, hst, RdS.of K11, (Q1.trans Q2).trans Q3⟩
              case measure => simp [intOf]; omega
            · by_cases hEnd : endE cur e = 0
              focus
                rw [hEnd] at hEr
                obtain ⟨hall, hallV⟩ := hgot.out.all hEnd
                have hen := encode_G A c gs.length (gs.map GV.v) hallV (by simp) (by omega) (takes_of hall (by omega)) wr (R1.holds.drop.drop.gotAt hgot.out.1) (G := [rowH gvK 47 (.slice A gs.length c) gs, viewsH gs]) (F := rdrH 79 [viewH .u8 AL' U] r' cur e :: viewH .u8 AL' U :: rowH gvK 47 (.slice A gs.length c) gs :: viewsH gs :: rowH (Kd.int .u8) 5 (.slice A10 U.length c10) U :: [oldH w]) (fun W h => h.drop.drop.sub (l := [_, _])) R1.holds
                rw [show (gs.map GV.v).take gs.length = gs.map GV.v from List.take_of_length_le (by simp), hall] at hen
                clear hall hallV hEnd hgo
                by_cases hlt : i < m.length
                focus
                  have him : (i : Int) < (m.length : Int) := by omega
                  by_cases h10 : i < 10
                  focus
                    have hi10 : (i : Int) < 10 := by omega
                    go_wp2_with fail
                    refine hEr.mono ?_
                    rintro e _ ⟨rfl, rfl⟩
                    go_wp2_with fail
                  rotate_left
                  focus
                    have hi10 : ¬ (i : Int) < 10 := by omega
                    go_wp2_with fail
                rotate_left
                rotate_left
                focus
                  have him : ¬ (i : Int) < (m.length : Int) := by omega
                  go_wp2_with fail
                rotate_left
                all_goals
                  refine hEr.mono ?_
                  rintro e _ ⟨rfl, rfl⟩
                  go_wp2_with fail
                  refine hen.mono ?_
                  rintro e w7 ⟨A7, c7, rfl, H7, -, Q7⟩
                  go_wp2_with fail
                  refine (SameBytes_H A7 c7 U.length U A10 c10 U.length U true (decide_eq_true rfl) w7 rfl rfl H7.row'.2.2 (H7.drop.drop.drop.drop.drop.row'.2.2) (by omega) H7).mono ?_
                  rintro e w8 ⟨rfl, H8, Q8⟩
                  go_wp2_with fail
                  refine (lives_calls w8 H8).mono ?_
                  rintro e w9 ⟨rfl, H9, Q9⟩
                  have HB := Lib.hid (H9.drop.drop.drop.drop.drop.drop.old (((Q1.trans Q7).trans Q8).trans Q9))
                  go_wp2
                  go_ret
                  exact ⟨rfl, HB.out⟩
              rotate_left
              focus
                have hEb : (endE cur e == 0) = false := by simpa using hEnd
                have hor : ¬ i < m.length ∨ ¬ i < 10 := by
                  by_cases h1 : i < m.length
                  · by_cases h2 : i < 10
                    · exact absurd ⟨h1, h2, hEnd⟩ hgo
                    · exact Or.inr h2
                  · exact Or.inl h1
                clear hgo
                by_cases hlt : i < m.length
                focus
                  have him : (i : Int) < (m.length : Int) := by omega
                  have hi10 : ¬ (i : Int) < 10 := by omega
                  go_wp2_with fail
                rotate_left
                focus
                  have him : ¬ (i : Int) < (m.length : Int) := by omega
                  go_wp2_with fail
                rotate_left
                all_goals
                  refine hEr.mono ?_
                  rintro e _ ⟨rfl, rfl⟩
                  go_wp2_with fail
                  refine (lives_calls wr R1.holds).mono ?_
                  rintro e w9 ⟨rfl, H9, Q9⟩
                  have HB := Lib.hid (H9.drop.drop.drop.drop.drop.old (Q1.trans Q9))
                  go_wp2
                  go_ret
                  exact ⟨rfl, HB.out⟩
end Go.Proofs.Ythkmfmcofkcjeaa
