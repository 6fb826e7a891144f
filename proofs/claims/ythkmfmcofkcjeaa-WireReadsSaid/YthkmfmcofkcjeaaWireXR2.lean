/- The contracts of the reference's Reader: the other reads. -/
import Derived.Test.YthkmfmcofkcjeaaWireXR
namespace Go.Proofs.Ythkmfmcofkcjeaa
set_option linter.unusedVariables false
set_option linter.unusedSimpArgs false
open Go.RowKit Go.Shelf Go.Proofs.YthkmfmcofkcjeaaW.PrintWords Go.Proofs.YthkmfmcofkcjeaaW.PrintLast Go.Proofs.YthkmfmcofkcjeaaW.PrintMore

set_option maxRecDepth 100000 in
set_option maxHeartbeats 1000000 in
theorem xrUint_err (p : Nat) (bs : List Int) (e0 : Int) (he : e0 ≠ 0) (w : World) {G F : List Hp} (H : RdS 44 G F p w bs e0) :
    Calls Try.prog 50 #[.pointer (some ⟨p, 0, none⟩)] w fun e w' => e = .returned (.int .u64 0) ∧ w = w' := by
  obtain ⟨A, n, c, H, h0⟩ := H
  have hc1 := H.c 1 (.int .i64 e0) rfl
  have hb : (e0 == 0) = false := by simpa using he
  clear h0
  go_enter Try.func50, Try.ntmps50
  go_wp2
  refine wp_loop_rounds 1 ?_
  rw [rounds_succ]
  go_wp2
  go_ret
  exact ⟨rfl, rfl⟩
theorem xrUintS (p : Nat) (bs : List Int) (e0 : Int) (h8 : U8s bs) (hbl : bs.length ≤ 100000000000000) (w : World) {G F : List Hp} (hG : Sub F G) (H : RdS 44 G F p w bs e0) :
    Calls Try.prog 50 #[.pointer (some ⟨p, 0, none⟩)] w fun e w' => e = .returned (.int .u64 ((uS bs e0).1 : Int)) ∧ RdS 44 G F p w' (uS bs e0).2.1 (uS bs e0).2.2 ∧ Calm w w' := by
  by_cases he : e0 = 0
  · subst he
    rw [uS_ok]
    exact xrUint p bs h8 hbl w hG H
  · rw [uS_err bs he]
    refine (xrUint_err p bs e0 he w H).mono ?_
    rintro e w' ⟨rfl, rfl⟩
    exact ⟨rfl, H, Calm.refl _⟩
set_option maxRecDepth 100000 in
set_option maxHeartbeats 1000000 in
theorem xBack (z : Nat) (hz : z < 18446744073709551616) (w : World) : Calls Try.prog 63 #[.int .u64 (z : Int)] w fun e w' => e = .returned (.int .i64 (unzz z)) ∧ w = w' := by
  go_enter Try.func63, Try.ntmps63
  by_cases h2 : z % 2 = 1
  · have h3 : (z : Int) % 2 = 1 := by omega
    go_wp2
    go_ret
    refine ⟨ret_int ?_, rfl⟩
    unfold unzz
    rw [if_pos h2]
    omega
  · have h3 : (z : Int) % 2 = 0 := by omega
    go_wp2
    go_ret
    refine ⟨ret_int ?_, rfl⟩
    unfold unzz
    rw [if_neg h2]
    omega
set_option maxRecDepth 100000 in
set_option maxHeartbeats 1000000 in
theorem xrInt (p : Nat) (bs : List Int) (e0 : Int) (h8 : U8s bs) (hbl : bs.length ≤ 100000000000000) (w : World) {G F : List Hp} (hG : Sub F G) (H : RdS 44 G F p w bs e0) :
    Calls Try.prog 51 #[.pointer (some ⟨p, 0, none⟩)] w fun e w' => e = .returned (.int .i64 (unzz (uS bs e0).1)) ∧ RdS 44 G F p w' (uS bs e0).2.1 (uS bs e0).2.2 ∧ Calm w w' := by
  have hv := uS_val (e := e0) h8
  have hu := xrUintS p bs e0 h8 hbl w hG H
  generalize uS bs e0 = u at *
  go_enter Try.func51, Try.ntmps51
  go_wp2_with fail
  refine hu.mono ?_
  rintro e w1 ⟨rfl, H1, Q1⟩
  go_wp2_with fail
  refine (xBack u.1 hv w1).mono ?_
  rintro e _ ⟨rfl, rfl⟩
  go_wp2
  go_ret
  exact ⟨rfl, H1, Q1⟩

set_option maxRecDepth 100000 in
set_option maxHeartbeats 2000000 in
theorem xrBool (p : Nat) (bs : List Int) (e0 : Int) (h8 : U8s bs) (w : World) {G F : List Hp} (hG : Sub F G) (H : RdS 44 G F p w bs e0) :
    Calls Try.prog 52 #[.pointer (some ⟨p, 0, none⟩)] w fun e w' => e = .returned (.bool (bS bs e0).1) ∧ RdS 44 G F p w' (bS bs e0).2.1 (bS bs e0).2.2 ∧ Calm w w' := by
  obtain ⟨A, n0, c, H, h0⟩ := H
  have hf0 := H.frozen 0
  have hf1 := H.frozen 1
  have hl := H.lt
  by_cases he : e0 = 0
  · subst he
    obtain ⟨rfl, hnc, hR⟩ := h0 rfl
    have eb : bS bs 0 = boolRd bs := if_pos rfl
    rw [eb]
    clear h0 eb
    obtain ⟨L, hL⟩ : ∃ L : Nat, Hid (bs.length = L) := ⟨_, Lib.hid rfl⟩
    rw [hL.out] at H hnc
    have hc0 := H.c 0 (.slice A L c) rfl
    have hc1 := H.c 1 (.int .i64 0) rfl
    have HR := Lib.hid hR
    have Hnc := Lib.hid hnc
    clear hR hnc
    rcases bs with _ | ⟨x, bs⟩
    · obtain rfl : L = 0 := hL.out.symm
      have HE := RdS.err (G := G) (H.set 1 (.int .i64 3)) (by decide) []
      have hc2 := (H.set 1 (.int .i64 3)).c 1 (.int .i64 3) rfl
      go_enter Try.func52, Try.ntmps52
      go_wp2
      go_ret
      exact ⟨rfl, HE, (Calm.refl w).setCell _ _⟩
    · have hL0 : 0 < L := by rw [← hL.out]; simp
      have hLi : (0 : Int) < (L : Int) := by omega
      have hLb : ((L : Int) == 0) = false := by simp; omega
      obtain ⟨ad, rfl, hcell⟩ := at_nat (HR.out w (hG w H.drop)) (i := 0) (by simp)
      simp only [List.getElem?_cons_zero, Option.getD_some, Addr.add_zero'] at hcell
      have hx := h8 x (by simp)
      have hx0 := hx.1
      have hx1 := hx.2
      clear hx
      by_cases hgt : 1 < x
      · have eb : Hid (boolRd (x :: bs) = (false, bs, 2)) := by show _ = _; simp only [boolRd]; rw [if_pos hgt]
        have HE := RdS.err (G := G) (H.set 1 (.int .i64 2)) (by decide) bs
        have hc2 := (H.set 1 (.int .i64 2)).c 1 (.int .i64 2) rfl
        go_enter Try.func52, Try.ntmps52
        go_wp2
        go_ret
        rw [eb.out]
        exact ⟨rfl, HE, (Calm.refl w).setCell _ _⟩
      · have eb : Hid (boolRd (x :: bs) = (x == 1, bs, 0)) := by show _ = _; simp only [boolRd]; rw [if_neg hgt]; congr 1
        go_enter Try.func52, Try.ntmps52
        go_wp2
        all_goals
          go_ret
          rw [eb.out]
          first
            | (refine ⟨rfl, RdS.from0 (m := 1) hL H Hnc.out HR.out ?_ ?_, (Calm.refl w).setCell _ _⟩ <;> omega)
            | (refine ⟨rfl, RdS.from1 (m := 0) hL H Hnc.out HR.out ?_ ?_, (Calm.refl w).setCell _ _⟩ <;> omega)
  · have eb : bS bs e0 = (false, bs, e0) := if_neg he
    have hb : (e0 == 0) = false := by simpa using he
    have hc1 := H.c 1 (.int .i64 e0) rfl
    rw [eb]
    clear eb h0
    go_enter Try.func52, Try.ntmps52
    go_wp2
    go_ret
    exact ⟨rfl, RdS.err H he _, Calm.refl _⟩
set_option maxRecDepth 100000 in
set_option maxHeartbeats 1000000 in
theorem xrEnd (p : Nat) (bs : List Int) (e0 : Int) (w : World) {G F : List Hp} (H : RdS 44 G F p w bs e0) :
    Calls Try.prog 26 #[.pointer (some ⟨p, 0, none⟩)] w fun e w' => e = .returned (.int .i64 (endE bs e0)) ∧ w = w' := by
  obtain ⟨A, n, c, H, h0⟩ := H
  have hc0 := H.c 0 (.slice A n c) rfl
  have hc1 := H.c 1 (.int .i64 e0) rfl
  by_cases he : e0 = 0
  · subst he
    obtain ⟨rfl, _, _⟩ := h0 rfl
    rcases bs with _ | ⟨x, bs⟩
    · go_enter Try.func26, Try.ntmps26
      go_wp2
      go_ret
      exact ⟨rfl, rfl⟩
    · go_enter Try.func26, Try.ntmps26
      go_wp2
      go_ret
      exact ⟨rfl, rfl⟩
  · have hb : (e0 == 0) = false := by simpa using he
    have hr : endE bs e0 = e0 := if_neg he
    rw [hr]
    clear hr h0
    go_enter Try.func26, Try.ntmps26
    go_wp2
    go_ret
    exact ⟨rfl, rfl⟩
end Go.Proofs.Ythkmfmcofkcjeaa
