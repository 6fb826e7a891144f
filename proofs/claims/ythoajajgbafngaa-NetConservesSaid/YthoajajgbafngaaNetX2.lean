/- The contracts of the reference's network: Take, Copy, New, Same. -/
import Derived.Test.YthoajajgbafngaaNetX
namespace Go.Proofs.Ythoajajgbafngaa
set_option linter.unusedVariables false
set_option linter.unusedSimpArgs false
open Go.RowKit Go.Shelf Go.Proofs.YthoajajgbafngaaW.PrintWords Go.Proofs.YthoajajgbafngaaW.PrintLast Go.Proofs.YthoajajgbafngaaW.PrintMore

set_option maxRecDepth 100000 in
set_option maxHeartbeats 8000000 in
theorem xCopy (q : Nat) (gs : List Int) (L : List MsgC) (i : Int) (hL : L.length ≤ 1000) (w : World) {F : List Hp} (H : Holds w (xnetH q gs L :: F)) :
    Calls Try.prog 18 #[.pointer (some ⟨q, 0, none⟩), .int .i64 i] w fun e w' => e = .returned (.int .i64 (copyE (L.map MsgC.msg) i)) ∧ Holds w' (xnetH q gs (copyLC L i) :: F) ∧ Calm w w' := by
  obtain ⟨gA, gc, LA, Lc, H1⟩ := H.xnOpen
  have n1 := H1.c 1 (.slice LA L.length Lc) rfl
  unfold copyE copyLC
  rw [inR_map, List.length_map]
  by_cases hs : inR L i = true
  · rw [if_pos hs, if_pos hs]
    obtain ⟨k, rfl, hk, hgt⟩ := inRC_get hs
    rw [Int.toNat_natCast]
    have hki : ¬ (L.length : Int) ≤ (k : Int) := by omega
    have hki2 : (k : Int) < (L.length : Int) := by omega
    by_cases hf : 1000 ≤ L.length
    · rw [if_pos hf, if_pos hf]
      have hfi : (1000 : Int) ≤ (L.length : Int) := by omega
      clear hs hgt
      go_enter Try.func18, Try.ntmps18
      go_wp2
      go_ret
      exact ⟨rfl, H, Calm.refl _⟩
    · rw [if_neg hf, if_neg hf]
      have hfi : ¬ (1000 : Int) ≤ (L.length : Int) := by omega
      obtain ⟨g, rfl, hgl, hc⟩ := H1.f3.flatAt k hk
      have hLk : L[k]? = some L[k] := List.getElem?_eq_getElem hk
      rw [hLk]
      have hone := (L[k]).one
      have c0 : w.cell? ⟨g, k * 3, none⟩ = some (.int .i64 L[k].frm) := hc 0 _ rfl
      have c1 := hc 1 _ rfl
      have c2 := hc 2 _ rfl
      have H3 := H1.f3.drew
      have n1' : w.drew.cell? ⟨q, 1, none⟩ = some (.slice (some ⟨g, 0, none⟩) L.length Lc) := n1
      have lq := H1.lt
      have fq := H1.frozen 1
      have hl1 : (L.length + 1) * 40 ≤ 140737488355328 := by omega
      generalize hm : L[k] = m at *
      clear hc hs hgt hLk hm
      obtain ⟨frm, to_, A, c, b⟩ := m
      go_enter Try.func18, Try.ntmps18
      go_wp2_with fail
      go_region_law (refine H_append_flat_step (f := MsgC.cells) (sz := 3) (W := w.drew) rfl (.tmp 26) (.tmp 34) 43 32 _ 40 rfl Try.underlying43 info_msgC rfl (by decide) (by decide) (.slice (some ⟨g, 0, none⟩) L.length Lc) L ⟨frm, to_, A, c, b⟩ _ rfl rfl hone _ rfl rfl (by simp) H3 hl1 ?_; intro B1 A4 c4 w3 hB1 K1 k1 Q3; have d3 := K1.f2.c 1 (.slice (some ⟨g, 0, none⟩) L.length Lc) rfl; have f3 := K1.f2.frozen 1; have l3 := K1.f2.lt)
      all_goals
        have K2 := K1.f2.set 1 (.slice A4 B1.length c4)
        have K3 := (K2.f3.f2).xnShut
        have Q4 := (((Calm.refl w).drew).trans Q3).setCell ⟨q, 1, none⟩ (.slice A4 B1.length c4)
        clear H1 H3 K1 K2 c0 c1 c2 n1 n1' d3 f3 l3 lq fq
        go_wp2
        go_ret
        rw [Option.toList_some, ← hB1.out]
        exact ⟨rfl, K3, Q4⟩
  · rw [if_neg hs, if_neg hs]
    rw [inR_iff] at hs
    by_cases h0 : i < 0
    · clear hs
      go_enter Try.func18, Try.ntmps18
      go_wp2
      go_ret
      exact ⟨rfl, H, Calm.refl _⟩
    · have h1 : (L.length : Int) ≤ i := by omega
      clear hs
      go_enter Try.func18, Try.ntmps18
      go_wp2
      go_ret
      exact ⟨rfl, H, Calm.refl _⟩

set_option maxRecDepth 100000 in
set_option maxHeartbeats 8000000 in
theorem xTake (q : Nat) (gs : List Int) (L : List MsgC) (i : Int) (hL : L.length ≤ 1000) (hok : NetOk gs (L.map MsgC.msg)) (w : World) {F : List Hp} (H : Holds w (xnetH q gs L :: F)) :
    Calls Try.prog 15 #[.pointer (some ⟨q, 0, none⟩), .int .i64 i] w fun e w' => e = .returned (.tuple #[.agg #[.int .i64 (takeC gs L i).frm, .int .i64 (takeC gs L i).to_, .slice (takeC gs L i).A (takeC gs L i).b.length (takeC gs L i).c], .int .i64 (takeE gs (L.map MsgC.msg) i)]) ∧ Holds w' (xnetH q gs (takeLC gs L i) :: F) ∧ Calm w w' := by
  obtain ⟨gA, gc, LA, Lc, H1⟩ := H.xnOpen
  have HB := H1.box 32 #[.int .i64 0, .int .i64 0, .slice none 0 0]
  have QB := (Calm.refl w).alloc (.cells #[.int .i64 0, .int .i64 0, .slice none 0 0] 32)
  have n1 := HB.f2.c 1 (.slice LA L.length Lc) rfl
  have n0 := HB.f2.c 0 (.slice gA gs.length gc) rfl
  have lq := HB.f2.lt
  have lb := HB.lt
  have b0 := HB.c 0 (.int .i64 0) rfl
  have b1 := HB.c 1 (.int .i64 0) rfl
  have b2 := HB.c 2 (.slice none 0 0) rfl
  have f0 := HB.frozen 0
  have f1 := HB.frozen 1
  have f2 := HB.frozen 2
  unfold takeE takeLC takeC
  rw [inR_map, atC_map]
  by_cases hs : inR L i = true
  · rw [if_pos hs, if_pos hs, if_pos hs]
    obtain ⟨k, rfl, hk, hgt⟩ := inRC_get hs
    rw [Int.toNat_natCast]
    have hki : ¬ (L.length : Int) ≤ (k : Int) := by omega
    have hki2 : (k : Int) < (L.length : Int) := by omega
    obtain ⟨e1, e2, e3, e4, e5⟩ := hok.ends (atC L k).msg (by rw [← atC_map]; exact atM_mem (by rw [inR_map]; exact hs))
    have hLk : L[k] = atC L k := by rw [List.getElem?_eq_getElem hk] at hgt; exact Option.some.inj hgt
    obtain ⟨g, rfl, hgl, hc⟩ := HB.f4.flatAt k hk
    rw [hLk] at hc
    have c0 : (w.alloc (.cells #[.int .i64 0, .int .i64 0, .slice none 0 0] 32)).cell? ⟨g, k * 3, none⟩ = some (.int .i64 (atC L k).frm) := hc 0 _ rfl
    have c1 := hc 1 _ rfl
    have c2 := hc 2 _ rfl
    have hrem := fun W F (K : Holds W (xnetH q gs L :: F)) => xremove q gs L k hk hL W K
    have HM := HB.box 32 (atC L k).cells.toArray
    have QM := QB.alloc (.cells (atC L k).cells.toArray 32)
    rw [World.size_alloc] at HM
    generalize atC L k = m at *
    obtain ⟨frm, to_, A, c, b⟩ := m
    simp only [MsgC.msg, MsgC.cells] at e1 e2 e3 e4 e5 c0 c1 c2 HM QM ⊢
    clear hs hgt hc hLk hok H
    obtain ⟨ka, rfl⟩ : ∃ ka : Nat, frm = (ka : Int) := ⟨frm.toNat, by omega⟩
    obtain ⟨kb, rfl⟩ : ∃ kb : Nat, to_ = (kb : Int) := ⟨to_.toNat, by omega⟩
    have la : ka < gs.length := by omega
    have lb' : kb < gs.length := by omega
    have hone : oneG gs ⟨(ka : Int), (kb : Int), b⟩ = decide (gs[ka] = gs[kb]) := by
      unfold oneG
      simp only [Int.toNat_natCast]
      simp [la, lb']
    obtain ⟨gg, rfl, hggl⟩ := HM.f4.rowAddr (by omega)
    obtain ⟨ga, -⟩ := HM.f4.rowCell ka la
    obtain ⟨gb, -⟩ := HM.f4.rowCell kb lb'
    have m0 := HM.c 0 (.int .i64 (ka : Int)) rfl
    have m1 := HM.c 1 (.int .i64 (kb : Int)) rfl
    have m2 := HM.c 2 (.slice A b.length c) rfl
    have x0 := HM.f3.c 0 (.slice (some ⟨gg, 0, none⟩) gs.length gc) rfl
    have lm := HM.lt
    have y0 := HM.f2.c 0 (.int .i64 0) rfl
    have y1 := HM.f2.c 1 (.int .i64 0) rfl
    have y2 := HM.f2.c 2 (.slice none 0 0) rfl
    have z0 := HM.f2.frozen 0
    have z1 := HM.f2.frozen 1
    have z2 := HM.f2.frozen 2
    have ly := HM.f2.lt
    by_cases heq : gs[ka] = gs[kb]
    · have ho' : oneG gs ⟨(ka : Int), (kb : Int), b⟩ = true := by rw [hone]; exact decide_eq_true heq
      simp only [ho', ↓reduceIte]
      have hneb : (gs[ka] == gs[kb]) = true := by simpa using heq
      have hneb2 : (gs[ka] != gs[kb]) = false := by simpa using heq
      clear hone ho' heq
      go_enter Try.func15, Try.ntmps15
      go_wp2_with fail
      go_quiet (fail)
      go_wp2_with fail
      have H4 := (((((HM.drewN nq).f3).f4).f5).f3).f3.f2
      refine (hrem _ _ H4.xnShut).mono ?_
      rintro e w5 ⟨rfl, H5, Q5⟩
      have K := ((H5.f3.set 0 (.int .i64 (ka : Int))).set 1 (.int .i64 (kb : Int))).set 2 (.slice A b.length c)
      have r0 := K.c 0 (.int .i64 (ka : Int)) rfl
      have r1 := K.c 1 (.int .i64 (kb : Int)) rfl
      have r2 := K.c 2 (.slice A b.length c) rfl
      have Q6 := ((((QM.drewN nq).trans Q5).setCell ⟨w.heap.size, 0, none⟩ (.int .i64 (ka : Int))).setCell ⟨w.heap.size, 1, none⟩ (.int .i64 (kb : Int))).setCell ⟨w.heap.size, 2, none⟩ (.slice A b.length c)
      have t0 := H5.f2.c 0 (.int .i64 (ka : Int)) rfl
      have t1 := H5.f2.c 1 (.int .i64 (kb : Int)) rfl
      have t2 := H5.f2.c 2 (.slice A b.length c) rfl
      have u0 := H5.f3.frozen 0
      have u1 := H5.f3.frozen 1
      have u2 := H5.f3.frozen 2
      have v0 := H5.f3.c 0 (.int .i64 0) rfl
      have v1 := H5.f3.c 1 (.int .i64 0) rfl
      have v2 := H5.f3.c 2 (.slice none 0 0) rfl
      have lv := H5.f3.lt
      have lw := H5.f2.lt
      clear m0 m1 m2 x0 lm y0 y1 y2 z0 z1 z2 ly n0 n1 lq lb b0 b1 b2 f0 f1 f2 c0 c1 c2 ga gb
      go_wp2
      exact bodyPost_ret (v := .tuple #[.agg #[.int .i64 (ka : Int), .int .i64 (kb : Int), .slice A b.length c], .int .i64 0]) (by simp [results, Try.results15, go_sem, r0, r1, r2]) rfl ⟨rfl, K.drop.f2.drop, Q6⟩
    · have ho' : oneG gs ⟨(ka : Int), (kb : Int), b⟩ = false := by rw [hone]; exact decide_eq_false heq
      simp only [ho', Bool.false_eq_true, ↓reduceIte]
      have hneb : (gs[ka] == gs[kb]) = false := by simpa using heq
      have hneb2 : (gs[ka] != gs[kb]) = true := by simpa using heq
      clear hone ho' heq
      dsimp only [zeroC, List.length_nil]
      go_enter Try.func15, Try.ntmps15
      go_wp2_with fail
      go_quiet (fail)
      have K := (((HM.f2.drewN nq).set 0 (.int .i64 0)).set 1 (.int .i64 0)).set 2 (.slice none 0 0)
      have Q6 := (((QM.drewN nq).setCell ⟨w.heap.size, 0, none⟩ (.int .i64 0)).setCell ⟨w.heap.size, 1, none⟩ (.int .i64 0)).setCell ⟨w.heap.size, 2, none⟩ (.slice none 0 0)
      have r0 := K.c 0 (.int .i64 0) rfl
      have r1 := K.c 1 (.int .i64 0) rfl
      have r2 := K.c 2 (.slice none 0 0) rfl
      go_wp2
      exact bodyPost_ret (v := .tuple #[.agg #[.int .i64 0, .int .i64 0, .slice none 0 0], .int .i64 20]) (by simp [results, Try.results15, go_sem, r0, r1, r2]) rfl ⟨rfl, K.drop.drop.xnShut, Q6⟩
  · rw [if_neg hs, if_neg hs, if_neg hs]
    rw [inR_iff] at hs
    dsimp only [zeroC, List.length_nil]
    by_cases h0 : i < 0
    · clear hs
      go_enter Try.func15, Try.ntmps15
      go_wp2
      exact bodyPost_ret (v := .tuple #[.agg #[.int .i64 0, .int .i64 0, .slice none 0 0], .int .i64 9]) (by simp [results, Try.results15, go_sem, b0, b1, b2]) rfl ⟨rfl, HB.drop.xnShut, QB⟩
    · have h1 : (L.length : Int) ≤ i := by omega
      clear hs
      go_enter Try.func15, Try.ntmps15
      go_wp2
      exact bodyPost_ret (v := .tuple #[.agg #[.int .i64 0, .int .i64 0, .slice none 0 0], .int .i64 9]) (by simp [results, Try.results15, go_sem, b0, b1, b2]) rfl ⟨rfl, HB.drop.xnShut, QB⟩
end Go.Proofs.Ythoajajgbafngaa
