/- The contract of the reference model's Encode. -/
import Derived.Test.YthkmfmcofkcjeaaWireRef
namespace Go.Proofs.Ythkmfmcofkcjeaa
set_option linter.unusedVariables false
set_option linter.unusedSimpArgs false
open Go.RowKit Go.Shelf Go.Proofs.YthkmfmcofkcjeaaW.PrintWords Go.Proofs.YthkmfmcofkcjeaaW.PrintLast Go.Proofs.YthkmfmcofkcjeaaW.PrintMore

set_option maxRecDepth 100000 in
set_option maxHeartbeats 8000000 in
theorem xEncode_G (A0 : Option Addr) (c' n : Nat) (vs : List Val) (hv : ∀ v ∈ vs, VOk v) (hn : n ≤ vs.length) (hnn : n ≤ 100000) (hl : ∀ m, (encVs (vs.take m)).length ≤ 50000000000000) (w : World) {G F : List Hp} (hV : ValsAt G A0 vs) (hS : Sub F G) (H : Holds w F) :
    Calls Try.prog 18 #[.slice A0 n c'] w fun e w' => ∃ A k, e = .returned (.slice A (encVs (vs.take n)).length k) ∧ Holds w' (rowH (Kd.int .u8) 5 (.slice A (encVs (vs.take n)).length k) (encVs (vs.take n)) :: F) ∧ (encVs (vs.take n)).length ≤ k ∧ Calm w w' := by
  have HV := Lib.hid hv
  have HL := Lib.hid hl
  have hVV := Lib.hid hV
  clear hv hl hV
  obtain ⟨E, hE⟩ : ∃ E : List Int, Hid (encVs (vs.take n) = E) := ⟨_, Lib.hid rfl⟩
  rw [hE.out]
  go_enter Try.func18, Try.ntmps18
  go_wp2
  go_loopw [3, 4] (fun ov iv wr => ∃ (i : Nat) (B : List Int) (A : Option Addr) (c : Nat), i ≤ n ∧ iv = .int .i64 (i : Int) ∧ ov = .slice A B.length c ∧ Hid (B = encVs (vs.take i)) ∧ Holds wr (rowH (Kd.int .u8) 5 (.slice A B.length c) B :: F) ∧ Calm w wr) (fun _ iv _ => n - (intOf iv).toNat)
  case atStart => exact ⟨0, [], none, 0, Nat.zero_le _, rfl, rfl, rfl, H.nilRow _ _, Calm.refl _⟩
  case round =>
    obtain ⟨i, B, A, c, hi, rfl, rfl, hB, H1, Q1⟩ := hrel
    have hBl : B.length ≤ 50000000000000 := by rw [hB.out]; exact HL.out i
    by_cases hlt : i < n
    · have hil : i < vs.length := by omega
      obtain ⟨g, A1, c1, A2, c2, rfl, hd, h1, h2, h3', h4'⟩ := hVV.out i hil
      obtain ⟨d0, d1, d2, d3, d4⟩ := hd wr (hS wr H1.drop)
      have h3 := (h3'.sub hS).cons (rowH (Kd.int .u8) 5 (.slice A B.length c) B)
      have h4 := (h4'.sub hS).cons (rowH (Kd.int .u8) 5 (.slice A B.length c) B)
      clear hd h3' h4'
      have hx := HV.out vs[i] (List.getElem_mem hil)
      have htk := drop_one vs i hil
      have hii : (i : Int) < (n : Int) := by omega
      have hlx : B.length + (encV vs[i]).length ≤ 100000000000000 := by have := encV_len hx; omega
      have hfin : ∀ B1, B1 = B ++ encV vs[i] → Hid (B1 = encVs (vs.take (i + 1))) := fun B1 h => by
        show _ = _
        rw [htk.out, encVs_append, h, hB.out]
        simp [encVs]
      have Hfin := Lib.hid hfin
      clear hfin htk
      generalize vs[i] = x at *
      obtain ⟨k, u, n1, b, l⟩ := x
      obtain ⟨k0, k5, u0, u1, n0, b8, bl, l64, ll, -, -, -, -, -⟩ := hx
      dsimp only at *
      have N0 := Lib.hid n0
      have B8 := Lib.hid b8
      have L64 := Lib.hid l64
      clear n0 b8 l64
      have hk : k = 0 ∨ k = 1 ∨ k = 2 ∨ k = 3 ∨ k = 4 ∨ k = 5 := by omega
      rcases hk with rfl | rfl | rfl | rfl | rfl | rfl
      · obtain ⟨m, rfl⟩ := Int.eq_ofNat_of_zero_le u0
        have hxx := fun W (H : Holds W (rowH (Kd.int .u8) 5 (.slice A B.length c) B :: F)) => xUint m (by omega) W H
        have he : encV ⟨0, (m : Int), n1, b, l⟩ = encN m := rfl
        obtain ⟨Z, hZ⟩ : ∃ Z : List Int, Hid (encN m = Z) := ⟨_, Lib.hid rfl⟩
        rw [he, hZ.out] at hlx
        rw [he, hZ.out] at Hfin
        rw [hZ.out] at hxx
        clear he
        go_wp2_with fail
        refine (hxx wr H1).mono ?_
        rintro e w2 ⟨A3, c3, rfl, H2, hc3, Q2⟩
        have hC := H2.row'.2.2
        have hl1 : (B.length + Z.length) * 1 ≤ 140737488355328 := by omega
        go_wp2_with (at_builtin; go_must (refine H_append_ints .u8 rfl (.tmp 26) (.tmp 32) 24 5 1 rfl Try.underlying24 info_u8 (by decide) (.slice A B.length c) B Z A3 Z.length c3 rfl rfl H2.f2 hC hl1 ?_; intro B1 A4 c4 w3 hB1 K1 k1 Q3))
        go_roundw
        case rel => exact ⟨i + 1, B1, A4, c4, by omega, by go_num, rfl, Hfin.out B1 hB1.out, K1.f2.drop, (Q1.trans Q2).trans Q3⟩
        case measure => simp [intOf]; omega
      · have hxx := fun W (H : Holds W (rowH (Kd.int .u8) 5 (.slice A B.length c) B :: F)) => xInt n1 N0.out W H
        have he : encV ⟨1, u, n1, b, l⟩ = encN (zz n1) := rfl
        obtain ⟨Z, hZ⟩ : ∃ Z : List Int, Hid (encN (zz n1) = Z) := ⟨_, Lib.hid rfl⟩
        rw [he, hZ.out] at hlx
        rw [he, hZ.out] at Hfin
        rw [hZ.out] at hxx
        clear he
        go_wp2_with fail
        refine (hxx wr H1).mono ?_
        rintro e w2 ⟨A3, c3, rfl, H2, hc3, Q2⟩
        have hC := H2.row'.2.2
        have hl1 : (B.length + Z.length) * 1 ≤ 140737488355328 := by omega
        go_wp2_with (at_builtin; go_must (refine H_append_ints .u8 rfl (.tmp 36) (.tmp 42) 24 5 1 rfl Try.underlying24 info_u8 (by decide) (.slice A B.length c) B Z A3 Z.length c3 rfl rfl H2.f2 hC hl1 ?_; intro B1 A4 c4 w3 hB1 K1 k1 Q3))
        go_roundw
        case rel => exact ⟨i + 1, B1, A4, c4, by omega, by go_num, rfl, Hfin.out B1 hB1.out, K1.f2.drop, (Q1.trans Q2).trans Q3⟩
        case measure => simp [intOf]; omega
      · have hxx := fun W (H : Holds W (rowH (Kd.int .u8) 5 (.slice A B.length c) B :: F)) => xBool (n1 == 1) W H
        obtain ⟨Z, hZ⟩ : ∃ Z : List Int, Hid ([if (n1 == 1) = true then 1 else 0] = Z) := ⟨_, Lib.hid rfl⟩
        have he : encV ⟨2, u, n1, b, l⟩ = Z := by
          rw [← hZ.out]
          show [if n1 = 1 then (1 : Int) else 0] = _
          simp
        have hZl : Hid (Z.length = 1) := by show _ = _; rw [← hZ.out]; rfl
        have hZ1 : Z.length ≤ 1 := by rw [hZl.out]; exact Nat.le_refl _
        rw [he] at hlx
        rw [he] at Hfin
        rw [hZ.out] at hxx
        clear he
        go_wp2_with fail
        refine (hxx wr H1).mono ?_
        rintro e w2 ⟨A3, c3, rfl, H2, hc3, Q2⟩
        have hC := H2.row'.2.2
        have hl1 : (B.length + 1) * 1 ≤ 140737488355328 := by omega
        rw [hZl.out] at hC
        go_wp2_with (at_builtin; go_must (refine H_append_ints .u8 rfl (.tmp 46) (.tmp 53) 24 5 1 rfl Try.underlying24 info_u8 (by decide) (.slice A B.length c) B Z A3 1 c3 rfl rfl H2.f2 hC hl1 ?_; intro B1 A4 c4 w3 hB1 K1 k1 Q3))
        go_roundw
        case rel => exact ⟨i + 1, B1, A4, c4, by omega, by go_num, rfl, Hfin.out B1 hB1.out, K1.f2.drop, (Q1.trans Q2).trans Q3⟩
        case measure => simp [intOf]; omega
      iterate 2
        · have hxx := fun W (H : Holds W (rowH (Kd.int .u8) 5 (.slice A B.length c) B :: F)) => xRaw A1 c1 b (by omega) W H h3
          obtain ⟨Z, hZ⟩ : ∃ Z : List Int, Hid (encN b.length ++ b = Z) := ⟨_, Lib.hid rfl⟩
          have he : ∀ k, k = 3 ∨ k = 4 → encV ⟨k, u, n1, b, l⟩ = Z := fun k hk => by rw [← hZ.out]; rcases hk with rfl | rfl <;> rfl
          rw [he _ (by omega)] at hlx
          rw [he _ (by omega)] at Hfin
          rw [hZ.out] at hxx
          clear he
          go_wp2_with fail
          refine (hxx wr H1).mono ?_
          rintro e w2 ⟨A3, c3, rfl, H2, hc3, Q2⟩
          have hC := H2.row'.2.2
          have hl1 : (B.length + Z.length) * 1 ≤ 140737488355328 := by omega
          go_wp2_with (at_builtin; go_must (refine H_append_ints .u8 rfl (.tmp 58) (.tmp 64) 24 5 1 rfl Try.underlying24 info_u8 (by decide) (.slice A B.length c) B Z A3 Z.length c3 rfl rfl H2.f2 hC hl1 ?_; intro B1 A4 c4 w3 hB1 K1 k1 Q3))
          go_roundw
          case rel => exact ⟨i + 1, B1, A4, c4, by omega, by go_num, rfl, Hfin.out B1 hB1.out, K1.f2.drop, (Q1.trans Q2).trans Q3⟩
          case measure => simp [intOf]; omega
      · have hxx := fun W (H : Holds W (rowH (Kd.int .u8) 5 (.slice A B.length c) B :: F)) => xInts A2 c2 l L64.out (by omega) W H h4
        obtain ⟨Z, hZ⟩ : ∃ Z : List Int, Hid (encN l.length ++ encInts l = Z) := ⟨_, Lib.hid rfl⟩
        have he : encV ⟨5, u, n1, b, l⟩ = Z := by rw [← hZ.out]; rfl
        rw [he] at hlx
        rw [he] at Hfin
        rw [hZ.out] at hxx
        clear he
        go_wp2_with fail
        refine (hxx wr H1).mono ?_
        rintro e w2 ⟨A3, c3, rfl, H2, hc3, Q2⟩
        have hC := H2.row'.2.2
        have hl1 : (B.length + Z.length) * 1 ≤ 140737488355328 := by omega
        go_wp2_with (at_builtin; go_must (refine H_append_ints .u8 rfl (.tmp 16) (.tmp 22) 24 5 1 rfl Try.underlying24 info_u8 (by decide) (.slice A B.length c) B Z A3 Z.length c3 rfl rfl H2.f2 hC hl1 ?_; intro B1 A4 c4 w3 hB1 K1 k1 Q3))
        go_roundw
        case rel => exact ⟨i + 1, B1, A4, c4, by omega, by go_num, rfl, Hfin.out B1 hB1.out, K1.f2.drop, (Q1.trans Q2).trans Q3⟩
        case measure => simp [intOf]; omega
    · obtain rfl : i = n := by omega
      have hB' := hB.out
      rw [hE.out] at hB'
      subst hB'
      go_wp2
      go_ret
      obtain ⟨_, _, hlen, hle, _⟩ := H1.row
      cases hlen
      exact ⟨A, c, rfl, H1, hle, Q1⟩
theorem xEncode (A0 : Option Addr) (N c0 c' n : Nat) (vs : List Val) (inner : List Value) (hv : ∀ v ∈ vs, VOk v) (hn : n ≤ vs.length) (hnn : n ≤ 100000) (hl : ∀ m, (encVs (vs.take m)).length ≤ 50000000000000) (w : World) {F : List Hp} (H : Holds w (pinH valK 47 (.slice A0 N c0) vs inner :: F)) :
    Calls Try.prog 18 #[.slice A0 n c'] w fun e w' => ∃ A k, e = .returned (.slice A (encVs (vs.take n)).length k) ∧ Holds w' (rowH (Kd.int .u8) 5 (.slice A (encVs (vs.take n)).length k) (encVs (vs.take n)) :: pinH valK 47 (.slice A0 N c0) vs inner :: F) ∧ (encVs (vs.take n)).length ≤ k ∧ Calm w w' :=
  xEncode_G A0 c' n vs hv hn hnn hl w H.valsAt (Sub.head _ _) H
end Go.Proofs.Ythkmfmcofkcjeaa
