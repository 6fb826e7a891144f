/- The law WireWrites: the bytes of a Writer are the specified ones after every value. -/
import Derived.Test.YthkmfmcofkcjeaaWireVals
namespace Go.Proofs.Ythkmfmcofkcjeaa
set_option linter.unusedVariables false
set_option linter.unusedSimpArgs false
open Go.RowKit Go.Shelf Go.Proofs.YthkmfmcofkcjeaaW.PrintWords Go.Proofs.YthkmfmcofkcjeaaW.PrintLast Go.Proofs.YthkmfmcofkcjeaaW.PrintMore

theorem wf_u64 {n : Int} (h : (Lit.int .u64 n).wf = true) : 0 ≤ n ∧ n < 18446744073709551616 := by
  simp [Lit.wf, IntKind.min, IntKind.max, IntKind.bits, IntKind.signed] at h
  omega
theorem VS.len {v : Val} (h : VS v) : (encV v).length ≤ 1000 := by
  have hz : ∀ n : Nat, n < 18446744073709551616 → (encN n).length ≤ 10 := fun n h => encN_len 9 n (by simp only [Nat.reducePow, Nat.reduceAdd]; omega)
  have hi : ∀ l : List Int, (∀ y ∈ l, I64 y) → (encInts l).length ≤ 10 * l.length := by
    intro l
    induction l with
    | nil => intro _; simp [encInts]
    | cons y l ih =>
      intro h
      have h1 := ih (fun z hz => h z (by simp [hz]))
      have h2 := hz (zz y) (zz_lt y (h y (by simp)).1 (h y (by simp)).2)
      simp only [encInts, List.length_append, List.length_cons]
      omega
  obtain ⟨⟨k0, k5, u0, u1, n0, b8, bl, l64, ll, -, -, -, -, -⟩, hb, hl⟩ := h
  unfold encV
  have h1 := hz v.u.toNat (by omega)
  have h2 := hz (zz v.n) (zz_lt _ n0.1 n0.2)
  have h3 := hz v.b.length (by omega)
  have h4 := hz v.l.length (by omega)
  have h5 := hi v.l l64
  split
  · omega
  split
  · omega
  split
  · simp
  split
  · simp only [List.length_append]; omega
  · simp only [List.length_append]; omega
theorem VS.lens : ∀ vs : List Val, (∀ v ∈ vs, VS v) → (encVs vs).length ≤ 1000 * vs.length
  | [], _ => by simp [encVs]
  | v :: vs, h => by
    have h1 := VS.lens vs (fun x hx => h x (by simp [hx]))
    have h2 := (h v (by simp)).len
    simp only [encVs, List.length_append, List.length_cons]
    omega
theorem VS.takes {vs : List Val} (h : ∀ v ∈ vs, VS v) (hl : vs.length ≤ 100) (m : Nat) : (encVs (vs.take m)).length ≤ 50000000000000 := by
  have h1 := VS.lens (vs.take m) (fun x hx => h x (List.mem_of_mem_take hx))
  have h2 : (vs.take m).length ≤ vs.length := by rw [List.length_take]; omega
  omega
section
variable {w : World} {F : List Hp} {vb vl : Value} {b l : List Int} {ps : List Val} {inner : List Value}
theorem Holds.snocVal (h : Holds w (rowH (Kd.int .u8) 5 vb b :: rowH (Kd.int .i64) 3 vl l :: eltsH valK ps inner :: F)) (k u n : Int) : Holds w (eltsH valK (ps ++ [⟨k, u, n, b, l⟩]) (inner ++ valCells k u n vb vl) :: F) := (h.eltVal k u n).eltsSnoc
theorem Holds.snocVal0 (h : Holds w (eltsH valK ps inner :: F)) (k u n : Int) : Holds w (eltsH valK (ps ++ [⟨k, u, n, [], []⟩]) (inner ++ valCells k u n (.slice none 0 0) (.slice none 0 0)) :: F) := ((h.nilRow (Kd.int .i64) 3).nilRow (Kd.int .u8) 5).snocVal k u n
end

set_option maxRecDepth 100000 in
set_option maxHeartbeats 8000000 in
theorem WireWrites_walk (a0 : Option Addr) (len0 cap0 : Nat) (z0 : List Int) (a1 a2 : Int) (a3 : Option Addr) (len3 cap3 : Nat) (z3 : List Int) (a4 : Option Addr) (len4 cap4 : Nat) (z4 : List Int) (w : World)
    (w0 : IsRow .i64 w a0 len0 cap0 z0) (y0 : len0 * 8 ≤ 140737488351232) (wf1 : (Lit.int .u64 a1).wf = true) (wf2 : (Lit.int .i64 a2).wf = true) (w3 : IsRow .u8 w a3 len3 cap3 z3) (y3 : len3 * 1 ≤ 140737488351232) (w4 : IsRow .i64 w a4 len4 cap4 z4) (y4 : len4 * 8 ≤ 140737488351232) :
    Calls Try.prog 6 #[.slice a0 len0 cap0, .int .u64 a1, .int .i64 a2, .slice a3 len3 cap3, .slice a4 len4 cap4] w fun e w' => e = .returned (.bool true) ∧ Below w.heap.size w w' := by
  obtain ⟨l, rfl, hlc, hCl, hwl⟩ := row_in w0
  obtain ⟨b, rfl, hbc, hCb, hwb⟩ := row_in w3
  obtain ⟨m, rfl, hmc, hCm, hwm⟩ := row_in w4
  have hu := wf_u64 wf1
  have hn := wf_range wf2
  have hl64 : ∀ x ∈ l, I64 x := fun x hx => wf_range (hwl x hx)
  have hm64 : ∀ x ∈ m, I64 x := fun x hx => wf_range (hwm x hx)
  have hb8 : U8s b := u8_of_wf hwb
  clear w0 w3 w4 wf1 wf2 hwl hwb hwm
  have HU := Lib.hid hu
  have HN := Lib.hid hn
  have HL := Lib.hid hl64
  have HM := Lib.hid hm64
  have HB := Lib.hid hb8
  clear hu hn hl64 hm64 hb8
  have H0 := Holds.start w
  go_enter Try.func6, Try.ntmps6
  go_wp2_with fail
  refine (Vals_calls a0 cap0 l HL.out (by omega) w H0 (Rd.old_int hCl [])).mono ?_
  rintro e w1 ⟨A1, c1, vs, rfl, hvl, hvs, H1, hc1, Q1⟩
  go_wp2_with fail
  refine (Few_H a3 cap3 b 200 (by omega) (by omega) w1 (Rd.old_int hCb [] w1 H1.drop) hbc H1).mono ?_
  rintro e w2 ⟨A2, c2, rfl, H2, Q2⟩
  obtain ⟨B, hB⟩ : ∃ B : List Int, Hid (b.take (200 : Int).toNat = B) := ⟨_, Lib.hid rfl⟩
  rw [hB.out] at H2 ⊢
  have hBl : B.length ≤ 200 := by rw [← hB.out, List.length_take]; omega
  have hB8 : Hid (U8s B) := by rw [← hB.out]; exact u8s_take HB.out _
  go_wp2_with fail
  refine (Ints_H a4 cap4 m 20 (by omega) (by omega) w2 (Rd.old_int hCm [] w2 H2.drop.drop) hmc H2).mono ?_
  rintro e w3 ⟨A3, c3, rfl, H3, Q3⟩
  obtain ⟨M, hM⟩ : ∃ M : List Int, Hid (m.take (20 : Int).toNat = M) := ⟨_, Lib.hid rfl⟩
  rw [hM.out] at H3 ⊢
  have hMl : M.length ≤ 20 := by rw [← hM.out, List.length_take]; omega
  have hM64 : Hid (∀ x ∈ M, I64 x) := fun x hx => HM.out x (by rw [← hM.out] at hx; exact List.mem_of_mem_take hx)
  have Q3' := (Q1.trans Q2).trans Q3
  have e2 := ((H3.eltsNil valK).snocVal0 0 a1 0).snocVal0 1 0 a2
  have e3 := ((e2.f3.nilRow (Kd.int .i64) 3).f2).snocVal 4 0 0
  have e4 := (e3.f2.nilRow (Kd.int .u8) 5).snocVal 5 0 0
  have e5 := (e4.snocVal0 2 0 1).litRow 47 (by simp)
  have Q5 := Q3'.alloc (.cells ([] ++ valCells 0 a1 0 (.slice none 0 0) (.slice none 0 0) ++ valCells 1 0 a2 (.slice none 0 0) (.slice none 0 0) ++ valCells 4 0 0 (.slice A2 B.length c2) (.slice none 0 0) ++ valCells 5 0 0 (.slice none 0 0) (.slice A3 M.length c3) ++ valCells 2 0 1 (.slice none 0 0) (.slice none 0 0)).toArray 47)
  clear e2 e3 e4 H1 H2 H3 Q1 Q2 Q3 Q3'
  go_wp2_with (at_builtin; go_must (refine H_append_move valK rfl (.tmp 15) (.tmp 27) 35 47 _ 72 rfl Try.underlying35 info_val rfl (by decide) (by decide) (.slice A1 vs.length c1) (.slice (some ⟨w3.heap.size, 0, none⟩) 5 5) vs _ rfl rfl e5 (by simp; omega) ?_; intro all A4 c4 w4 hall K1 k1 Q6))
  have hVS : Hid (∀ v ∈ all, VS v) := by
    intro v hv
    have hI : I64 0 := by unfold I64; omega
    have hI1 : I64 1 := by unfold I64; omega
    have h8 : U8s [] := fun x hx => by simp at hx
    rw [hall.out] at hv
    rcases List.mem_append.1 hv with hv | hv
    · exact hvs v hv
    · simp only [List.nil_append, List.cons_append, List.mem_cons, List.not_mem_nil, or_false] at hv
      rcases hv with rfl | rfl | rfl | rfl | rfl
      · exact ⟨⟨by simp, by simp, HU.out.1, HU.out.2, hI, h8, by simp, by simp, by simp, by simp, by simp, by simp, by simp, by simp⟩, by simp, by simp⟩
      · exact ⟨⟨by simp, by simp, by simp, by simp, HN.out, h8, by simp, by simp, by simp, by simp, by simp, by simp, by simp, by simp⟩, by simp, by simp⟩
      · exact ⟨⟨by simp, by simp, by simp, by simp, hI, hB8.out, by dsimp only; omega, by simp, by simp, by simp, by simp, by simp, by simp, by simp⟩, by dsimp only; omega, by simp⟩
      · exact ⟨⟨by simp, by simp, by simp, by simp, hI, h8, by simp, hM64.out, by dsimp only; omega, by simp, by simp, by simp, by simp, by simp⟩, by simp, by dsimp only; omega⟩
      · exact ⟨⟨by simp, by simp, by simp, by simp, hI1, h8, by simp, by simp, by simp, by simp, by simp, by simp, by simp, by simp⟩, by simp, by simp⟩
  have hal : all.length ≤ 13 := by rw [hall.out]; simp; omega
  have hOk : Hid (∀ v ∈ all, VOk v) := fun v hv => (hVS.out v hv).1
  have hTk : Hid (∀ m, (encVs (all.take m)).length ≤ 50000000000000) := VS.takes hVS.out (by omega)
  obtain ⟨inner, K2⟩ := K1.pin
  have K3 := K2.wrNew
  have Q7 := (Q5.trans Q6).alloc (.cells #[.slice none 0 0] 26)
  clear K1 K2 e5 Q5 Q6 H0 hvs
  generalize w4.heap.size = p at *
  go_loopw [13] (fun iv wr => ∃ (i : Nat) (E : List Int), i ≤ all.length ∧ iv = .int .i64 (i : Int) ∧ Hid (E = encVs (all.take i)) ∧ Holds wr (wrH p E :: pinH valK 47 (.slice A4 all.length c4) all inner :: [oldH w]) ∧ Calm w wr) (fun iv _ => all.length - (intOf iv).toNat)
  case atStart => exact ⟨0, [], Nat.zero_le _, rfl, rfl, K3, Q7⟩
  case round =>
    clear K3 Q7
    obtain ⟨i, E, hi, rfl, hE, H1, Q1⟩ := hrel
    have hEl : E.length ≤ 50000000000000 := by rw [hE.out]; exact hTk.out i
    by_cases hlt : i < all.length
    · obtain ⟨g, cap, he, hcap⟩ := H1.f2.pinForm (by omega)
      cases he
      obtain ⟨A1, c1, A2, c2, ⟨d0, d1, d2, d3, d4⟩, h1, h2, h34⟩ := H1.f2.valAt i hlt
      have h3 := (h34 [oldH w]).1
      have h4 := (h34 [oldH w]).2
      clear h34
      have hx := hOk.out all[i] (List.getElem_mem hlt)
      have htk := drop_one all i hlt
      have hii : (i : Int) < (all.length : Int) := by omega
      have hii1 : (i : Int) + 1 ≤ (all.length : Int) := by omega
      have hii5 : (0 : Int) ≤ (i : Int) + 1 := by omega
      obtain ⟨i0, hi0, _⟩ := info_parts info_val
      have hcut := cut_to (P := Try.prog) 35 47 .i64 Try.underlying35 hi0 (some ⟨g, 0, none⟩) all.length c4 ((i : Int) + 1) hii5 hii1 (by omega)
      rw [show ((i : Int) + 1).toNat = i + 1 by omega] at hcut
      clear hi0
      have hfin : Hid (encVs (all.take (i + 1)) = E ++ encV all[i]) := by show _ = _; rw [htk.out, encVs_append, hE.out]; simp [encVs]
      have hEl2 := hTk.out (i + 1)
      generalize all[i] = x at *
      rw [hfin.out] at hEl2
      go_wp2_with fail
      refine (write_calls p E x A1 c1 A2 c2 hx (by omega) wr H1 h3 h4).mono ?_
      rintro e w5 ⟨rfl, H2, Q2⟩
      obtain ⟨E2, hE2⟩ : ∃ E2 : List Int, Hid (E ++ encV x = E2) := ⟨_, Lib.hid rfl⟩
      rw [hE2.out] at H2 hEl2
      have hdone := fun W (H : Holds W (wrH p E2 :: pinH valK 47 (.slice (some ⟨g, 0, none⟩) all.length c4) all inner :: [oldH w])) => wDone p E2 (by omega) W H
      have hxE := fun W (F : List Hp) (H : Holds W (pinH valK 47 (.slice (some ⟨g, 0, none⟩) all.length c4) all inner :: F)) => xEncode (some ⟨g, 0, none⟩) all.length c4 c4 (i + 1) all inner hOk.out (by omega) (by omega) hTk.out W H
      rw [hfin.out, hE2.out] at hxE
      have hw1 : IntKind.i64.wrap ((i : Int) + 1) = (i : Int) + 1 := by rw [IntKind.wrap_i64]; omega
      clear h3 h4 d0 d1 d2 d3 d4 hx
      go_wp2
      go_region_with (first | (go_at_call 16; refine (hdone _ H2.drew).mono ?_; rintro e w6 ⟨A6, c6, rfl, H6, k6, Q6⟩) | (go_at_call 18; refine (hxE _ _ H6.f3).mono ?_; rintro e w7 ⟨A7, c7, rfl, H7, k7, Q7⟩) | (go_at_call 30; refine (SameBytes_H A6 c6 E2.length E2 A7 c7 E2.length E2 true (decide_eq_true rfl) _ rfl rfl H7.drop.drop.row'.2.2 H7.row'.2.2 (by omega) H7).mono ?_; rintro e w8 ⟨rfl, H8, Q8⟩))
      all_goals
        clear hw1 hcut
        go_wp2
        go_roundw
        case rel => exact ⟨i + 1, E2, by omega, by go_num, by show _ = _; rw [← hE2.out]; exact hfin.out.symm, (H8.drop.f3).f3.drop, ((((Q1.trans Q2).drew.trans Q6).trans Q7).trans Q8)⟩
        case measure => simp [intOf]; omega
    · obtain rfl : i = all.length := by omega
      go_wp2_with fail
      refine (lives_calls wr H1).mono ?_
      rintro e w8 ⟨rfl, H8, Q8⟩
      have HB := Lib.hid (H8.drop.drop.old (Q1.trans Q8))
      go_wp2
      go_ret
      exact ⟨rfl, HB.out⟩
end Go.Proofs.Ythkmfmcofkcjeaa
