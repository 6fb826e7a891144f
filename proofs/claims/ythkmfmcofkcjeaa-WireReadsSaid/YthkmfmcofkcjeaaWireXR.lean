/- The contracts of the reference's Reader: what it returns and what is left is what the plain functions say. -/
import Derived.Test.YthkmfmcofkcjeaaWireOne
namespace Go.Proofs.Ythkmfmcofkcjeaa
set_option linter.unusedVariables false
set_option linter.unusedSimpArgs false
open Go.RowKit Go.Shelf Go.Proofs.YthkmfmcofkcjeaaW.PrintWords Go.Proofs.YthkmfmcofkcjeaaW.PrintLast Go.Proofs.YthkmfmcofkcjeaaW.PrintMore

/-- A Reader's bytes cut at the front. -/
theorem RdS.from_ {T : TypeId} {G F : List Hp} {p : Nat} {w : World} {bs : List Int} {A A' : Option Addr} {c L : Nat} (hL : Hid (bs.length = L)) (H : Holds w (blkH p T #[.slice A L c, .int .i64 0] :: F)) (hc : L ≤ c) (hR : Rd (Kd.int .u8) G A bs.length bs) (m : Nat) (hm : m ≤ L) (hA : Hid ((if c = m then A else A.map (·.add m)) = A')) :
    RdS T G F p (w.setCell ⟨p, 0, none⟩ (.slice A' (L - m) (c - m))) (bs.drop m) 0 := by
  have hL' := hL.out
  subst hL'
  have hD := hR.drop m hm hc
  rw [hA.out] at hD
  exact ⟨A', bs.length - m, c - m, H.set 0 _, fun _ => ⟨by rw [List.length_drop], by omega, by rw [List.length_drop]; exact hD⟩⟩
theorem RdS.from0 {T : TypeId} {G F : List Hp} {p : Nat} {w : World} {bs : List Int} {A : Option Addr} {c m L : Nat} (hL : Hid (bs.length = L)) (H : Holds w (blkH p T #[.slice A L c, .int .i64 0] :: F)) (hc : L ≤ c) (hR : Rd (Kd.int .u8) G A bs.length bs) (hm : m ≤ L) (hcm : c = m) :
    RdS T G F p (w.setCell ⟨p, 0, none⟩ (.slice A (L - m) 0)) (bs.drop m) 0 := by
  subst hcm
  have h := RdS.from_ hL H hc hR c hm (if_pos rfl)
  rw [Nat.sub_self] at h
  exact h
theorem RdS.from1 {T : TypeId} {G F : List Hp} {p : Nat} {w : World} {bs : List Int} {ad : Addr} {c m L : Nat} (hL : Hid (bs.length = L)) (H : Holds w (blkH p T #[.slice (some ad) L c, .int .i64 0] :: F)) (hc : L ≤ c) (hR : Rd (Kd.int .u8) G (some ad) bs.length bs) (hm : m + 1 ≤ L) (hne : ¬ c = m + 1) :
    RdS T G F p (w.setCell ⟨p, 0, none⟩ (.slice (some ⟨ad.block, ad.off + (m + 1), none⟩) (L - (m + 1)) (c - (m + 1)))) (bs.drop (m + 1)) 0 :=
  RdS.from_ hL H hc hR (m + 1) hm ((if_neg hne).trans (by simp only [Option.map_some, Addr.add_succ']))
theorem wrap_u64_nat {n : Nat} (h : n < 18446744073709551616) : IntKind.u64.wrap (n : Int) = (n : Int) := by rw [IntKind.wrap_u64]; omega
theorem pow128 {i : Nat} (h : i ≤ 9) : 128 ^ i ≤ 9223372036854775808 := by
  have : 128 ^ i ≤ 128 ^ 9 := Nat.pow_le_pow_right (by omega) h
  simpa using this

set_option maxRecDepth 100000 in
set_option maxHeartbeats 4000000 in
theorem xrUint (p : Nat) (bs : List Int) (h8 : U8s bs) (hbl : bs.length ≤ 100000000000000) (w : World) {G F : List Hp} (hG : Sub F G) (H : RdS 44 G F p w bs 0) :
    Calls Try.prog 50 #[.pointer (some ⟨p, 0, none⟩)] w fun e w' => e = .returned (.int .u64 ((uRd 0 0 bs).1 : Int)) ∧ RdS 44 G F p w' (uRd 0 0 bs).2.1 (uRd 0 0 bs).2.2 ∧ Calm w w' := by
  obtain ⟨A, n0, c, H, h0⟩ := H
  obtain ⟨rfl, hnc, hR⟩ := h0 rfl
  obtain ⟨L, hL⟩ : ∃ L : Nat, Hid (bs.length = L) := ⟨_, Lib.hid rfl⟩
  rw [hL.out] at H hnc hbl
  have hc0 := H.c 0 (.slice A L c) rfl
  have hc1 := H.c 1 (.int .i64 0) rfl
  have hf0 := H.frozen 0
  have hf1 := H.frozen 1
  have hl := H.lt
  clear h0
  have HR := Lib.hid hR
  have Hnc := Lib.hid hnc
  clear hR hnc
  go_enter Try.func50, Try.ntmps50
  go_wp2
  go_loopw [3, 4, 5] (fun nv uv iv wr => ∃ (i n U : Nat), i ≤ 9 ∧ i ≤ L ∧ iv = .int .i64 (i : Int) ∧ nv = .int .u64 (n : Int) ∧ uv = .int .u64 (U : Int) ∧ Hid (128 ^ i = U) ∧ n < U ∧ w = wr ∧ Hid (uRd i n (bs.drop i) = uRd 0 0 bs)) (fun _ _ iv _ => 11 - (intOf iv).toNat)
  case atStart => exact ⟨0, 0, 1, by omega, by omega, rfl, rfl, rfl, rfl, by omega, rfl, rfl⟩
  case round =>
    obtain ⟨i, n, U, hi9, hib, rfl, rfl, rfl, hU, hn, rfl, hfin⟩ := hrel
    by_cases hltL : i < L
    · have hlt : i < bs.length := by rw [hL.out]; exact hltL
      obtain ⟨ad, had, hcell⟩ := at_nat (HR.out w (hG w H.drop)) hlt
      obtain ⟨x, hx⟩ : ∃ x : Int, Hid (bs[i]?.getD 0 = x) := ⟨_, Lib.hid rfl⟩
      have hxe : bs[i] = x := by rw [← hx.out]; simp [hlt]
      have hx8 := h8 bs[i] (List.getElem_mem hlt)
      rw [hxe] at hx8
      have hd : bs.drop i = x :: bs.drop (i + 1) := by rw [List.drop_eq_getElem_cons hlt, hxe]
      have hfin' := hfin.out
      rw [hd] at hfin'
      rw [hx.out] at hcell
      clear hx hxe hd hfin hlt
      subst had
      have hx0 := hx8.1
      have hx1 := hx8.2
      have hii : (i : Int) < (L : Int) := by omega
      have hU64 : U ≤ 9223372036854775808 := by rw [← hU.out]; exact pow128 hi9
      by_cases hbad : i = 9 ∧ 1 < x ∨ 0 < i ∧ x = 0
      · have hfin3 : Hid (uRd 0 0 bs = (0, bs.drop (i + 1), 2)) := by show _ = _; rw [← hfin', uRd, if_pos hbad]
        have HE := RdS.err (G := G) (H.set 1 (.int .i64 2)) (by decide) (bs.drop (i + 1))
        clear hfin'
        by_cases h9 : i = 9 ∧ 1 < x
        · obtain ⟨h9i, h1x⟩ := h9
          have hB : ((i : Int) == 9) = true := by subst h9i; rfl
          clear hbad h9i
          go_wp2
          go_ret
          rw [hfin3.out]
          exact ⟨rfl, HE, (Calm.refl w).setCell _ _⟩
        · have hi0 : (0 : Int) < (i : Int) := by omega
          have hx00 : x = 0 := by omega
          subst hx00
          clear hbad h9
          by_cases h9 : i = 9
          all_goals
            first | have hB : ((i : Int) == 9) = true := (by subst h9; rfl) | have hB : ((i : Int) == 9) = false := (by simp; omega)
            clear h9
            go_wp2
            go_ret
            rw [hfin3.out]
            exact ⟨rfl, HE, (Calm.refl w).setCell _ _⟩
      · have hB9 : ((i : Int) == 9) = true ∧ decide (1 < x) = false ∧ 0 < i ∧ (x == 0) = false ∨ ((i : Int) == 9) = false ∧ (i = 0 ∨ 0 < i ∧ (x == 0) = false) := by
          by_cases h9 : i = 9
          · exact .inl ⟨by subst h9; rfl, by simp; omega, by omega, by simp; omega⟩
          · exact .inr ⟨by simp; omega, by by_cases h0 : i = 0; exact .inl h0; exact .inr ⟨by omega, by simp; omega⟩⟩
        have hfit : n + (x % 128).toNat * U < 18446744073709551616 := by
          by_cases h9 : i = 9
          · subst h9
            have hU9 := hU.out
            simp only [Nat.reducePow] at hU9
            by_cases h128 : x < 128
            · have : (x % 128).toNat ≤ 1 := by omega
              have : (x % 128).toNat * U ≤ 1 * U := Nat.mul_le_mul_right _ this
              omega
            · exact absurd (.inl ⟨rfl, by omega⟩) hbad
          · have : 128 ^ i ≤ 128 ^ 8 := Nat.pow_le_pow_right (by omega) (by omega)
            rw [hU.out] at this
            simp only [Nat.reducePow] at this
            have : (x % 128).toNat * U ≤ 127 * U := Nat.mul_le_mul_right _ (by omega)
            omega
        obtain ⟨y, hy⟩ : ∃ y : Nat, x % 128 = (y : Int) ∧ y < 128 := ⟨(x % 128).toNat, by omega⟩
        rw [hy.1, Int.toNat_natCast] at hfit
        have hxy : (x % 128).toNat = y := by omega
        by_cases h128 : x < 128
        · have hfin3 : Hid (uRd 0 0 bs = (n + y * U, bs.drop (i + 1), 0)) := by show _ = _; rw [← hfin', uRd, if_neg hbad, if_pos h128, hU.out, show x.toNat = y by omega]
          clear hbad hfin'
          rcases hB9 with ⟨b1, b2, b3, b4⟩ | ⟨b1, b2 | ⟨b3, b4⟩⟩
          · have b5 : (0 : Int) < (i : Int) := by omega
            go_wp2
            all_goals
              go_ret
              rw [hfin3.out]
              first
                | (refine ⟨ret_int (by simp), RdS.from0 hL H Hnc.out HR.out ?_ ?_, (Calm.refl w).setCell _ _⟩ <;> omega)
                | (refine ⟨ret_int (by simp), RdS.from1 hL H Hnc.out HR.out ?_ ?_, (Calm.refl w).setCell _ _⟩ <;> omega)
          · subst b2
            simp only [Addr.add_zero'] at hcell
            go_wp2
            all_goals
              go_ret
              rw [hfin3.out]
              first
                | (refine ⟨ret_int (by simp), RdS.from0 hL H Hnc.out HR.out ?_ ?_, (Calm.refl w).setCell _ _⟩ <;> omega)
                | (refine ⟨ret_int (by simp), RdS.from1 hL H Hnc.out HR.out ?_ ?_, (Calm.refl w).setCell _ _⟩ <;> omega)
          · have b5 : (0 : Int) < (i : Int) := by omega
            go_wp2
            all_goals
              go_ret
              rw [hfin3.out]
              first
                | (refine ⟨ret_int (by simp), RdS.from0 hL H Hnc.out HR.out ?_ ?_, (Calm.refl w).setCell _ _⟩ <;> omega)
                | (refine ⟨ret_int (by simp), RdS.from1 hL H Hnc.out HR.out ?_ ?_, (Calm.refl w).setCell _ _⟩ <;> omega)
        · have hfin3 : Hid (uRd (i + 1) (n + y * U) (bs.drop (i + 1)) = uRd 0 0 bs) := by show _ = _; rw [← hfin', uRd, if_neg hbad, if_neg h128, hU.out, show x.toNat - 128 = y by omega]
          have hi8 : i + 1 ≤ 9 := by
            by_cases h9 : i = 9
            · exact absurd (.inl ⟨h9, by omega⟩) hbad
            · omega
          have hUn : Hid (128 ^ (i + 1) = U * 128) := by show _ = _; rw [Nat.pow_succ, hU.out]
          have hU8 : U * 128 ≤ 9223372036854775808 := by rw [← hUn.out]; exact pow128 hi8
          have hnew : n + y * U < U * 128 := by
            have : y * U ≤ 127 * U := Nat.mul_le_mul_right _ (by omega)
            omega
          have hUw : Hid (IntKind.u64.wrap ((U : Int) * 128) = ((U * 128 : Nat) : Int)) := by show _ = _; rw [IntKind.wrap_u64]; omega
          clear hbad hfin'
          rcases hB9 with ⟨b1, b2, b3, b4⟩ | ⟨b1, b2 | ⟨b3, b4⟩⟩
          · exact absurd b1 (by simp; omega)
          · subst b2
            simp only [Addr.add_zero'] at hcell
            go_wp2
            go_roundw
            case rel => exact ⟨_, n + y * U, U * 128, hi8, by omega, by go_num, int_eq (by simp), int_eq (by simp), hUn, hnew, by simp, hfin3⟩
            case measure => first | (simp [intOf]; done) | (simp [intOf]; omega)
          · have b5 : (0 : Int) < (i : Int) := by omega
            go_wp2
            go_roundw
            case rel => exact ⟨_, n + y * U, U * 128, hi8, by omega, by go_num, int_eq (by simp), int_eq (by simp), hUn, hnew, by simp, hfin3⟩
            case measure => first | (simp [intOf]; done) | (simp [intOf]; omega)
    · obtain rfl : i = L := by omega
      have hfin3 : Hid (uRd 0 0 bs = (0, [], 3)) := by
        have h := hfin.out
        rw [List.drop_of_length_le (by rw [hL.out]; exact Nat.le_refl _)] at h
        exact h.symm
      go_wp2
      go_ret
      rw [hfin3.out]
      exact ⟨rfl, RdS.err (H.set 1 (.int .i64 3)) (by decide) _, (Calm.refl w).setCell _ _⟩
end Go.Proofs.Ythkmfmcofkcjeaa
