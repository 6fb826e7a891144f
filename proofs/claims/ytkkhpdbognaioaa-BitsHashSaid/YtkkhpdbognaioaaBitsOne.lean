/- The law BitsOne: if a sequence of reads reads up to the end, writing what was read gives the same bytes. -/
import Derived.Test.YtkkhpdbognaioaaBitsLives
namespace Go.Proofs.Ytkkhpdbognaioaa
set_option linter.unusedVariables false
set_option linter.unusedSimpArgs false
open Go.RowKit Go.Shelf Go.Proofs.YtkkhpdbognaioaaW.PrintWords Go.Proofs.YtkkhpdbognaioaaW.PrintLast Go.Proofs.YtkkhpdbognaioaaW.PrintMore

theorem unR_spec (at_ : Nat) (limit : Int) : ∀ (rest : List Bool) (n0 : Nat), ∃ m, (unR at_ limit rest n0).1 ≤ n0 + rest.length ∧
    (((unR at_ limit rest n0).2.2 = 0 ∧ (unR at_ limit rest n0).1 = n0 + m ∧ (unR at_ limit rest n0).2.1 = at_ + (n0 + m) + 1 ∧ m + 1 ≤ rest.length ∧ rest.take (m + 1) = List.replicate m true ++ [false]) ∨
     (((unR at_ limit rest n0).2.2 = 3 ∨ (unR at_ limit rest n0).2.2 = 4) ∧ (unR at_ limit rest n0).2.1 = at_ ∧ (unR at_ limit rest n0).1 = 0))
  | [], n0 => ⟨0, by simp [unR], .inr ⟨.inl rfl, rfl, rfl⟩⟩
  | false :: r, n0 => ⟨0, by simp [unR], .inl ⟨rfl, rfl, rfl, by simp, by simp⟩⟩
  | true :: r, n0 => by
    rw [unR]
    by_cases h : limit ≤ (n0 : Int)
    · rw [if_pos h]
      exact ⟨0, by simp, .inr ⟨.inr rfl, rfl, rfl⟩⟩
    · rw [if_neg h]
      obtain ⟨m, h1, h2⟩ := unR_spec at_ limit r (n0 + 1)
      refine ⟨m + 1, by rw [List.length_cons]; omega, ?_⟩
      rcases h2 with ⟨a, b, c, d, e⟩ | ⟨a, b, c⟩
      · exact .inl ⟨a, by omega, by omega, by rw [List.length_cons]; omega, by rw [List.take_succ_cons, e, List.replicate_succ]; rfl⟩
      · exact .inr ⟨a, b, c⟩
/-- What a read of a count does to the stream that was read. -/
theorem bits_keep {L S : List Bool} {at_ k : Nat} (hat : at_ ≤ L.length) (hS : S = L.take at_) (hk : k ≤ 64) :
    (bitsR L at_ 0 k).2.1 ≤ L.length ∧ (bitsR L at_ 0 k).1 < 18446744073709551616 ∧ (bitsR L at_ 0 k).2.2 ≠ 2 ∧ ((bitsR L at_ 0 k).2.2 = 0 → S ++ bitsN (bitsR L at_ 0 k).1 k = L.take (bitsR L at_ 0 k).2.1) := by
  unfold bitsR
  rw [if_pos rfl]
  by_cases h : L.length - at_ < k
  · rw [if_pos h]
    exact ⟨hat, by simp, by simp, fun h => absurd h (by simp)⟩
  · rw [if_neg h]
    have hl : ((L.drop at_).take k).length = k := by rw [List.length_take, List.length_drop]; omega
    refine ⟨by dsimp only; omega, ?_, by simp, fun _ => ?_⟩
    · have h1 := valB_lt ((L.drop at_).take k)
      rw [hl] at h1
      have h2 : 2 ^ k ≤ 2 ^ 64 := Nat.pow_le_pow_right (by decide) hk
      have h3 : (2 : Nat) ^ 64 = 18446744073709551616 := by decide
      dsimp only
      omega
    · dsimp only
      have h1 := bitsN_val ((L.drop at_).take k)
      rw [hl] at h1
      rw [h1, hS, List.take_add]
theorem unary_keep {L S : List Bool} {at_ : Nat} {limit : Int} (hat : at_ ≤ L.length) (hL : L.length ≤ 60000) (hS : S = L.take at_) :
    (unaryR L at_ 0 limit).2.1 ≤ L.length ∧ (unaryR L at_ 0 limit).1 ≤ L.length ∧ (unaryR L at_ 0 limit).2.2 ≠ 2 ∧ ((unaryR L at_ 0 limit).2.2 = 0 → S ++ unaryB (clampN ((unaryR L at_ 0 limit).1 : Int) 65536) = L.take (unaryR L at_ 0 limit).2.1) := by
  unfold unaryR
  rw [if_pos rfl]
  obtain ⟨m, h1, h2⟩ := unR_spec at_ limit (L.drop at_) 0
  rw [List.length_drop] at h1 h2
  rcases h2 with ⟨a, b, c, d, e⟩ | ⟨a, b, c⟩
  · refine ⟨by omega, by omega, by omega, fun _ => ?_⟩
    have hc : clampN ((unR at_ limit (L.drop at_) 0).1 : Int) 65536 = m := by unfold clampN; omega
    rw [hc, c, hS, show at_ + (0 + m) + 1 = at_ + (m + 1) by omega, List.take_add, e]
    rfl
  · refine ⟨by omega, by omega, by omega, fun h => ?_⟩
    omega
theorem endB_form {L : List Bool} {at_ : Nat} {e : Int} : endB L at_ e = 2 → e ≠ 2 → e = 0 := by
  unfold endB
  split
  · intro h h2; exact absurd h h2
  · rename_i h; intro _ _; exact Decidable.not_not.1 h
/-- At the end: the bytes are the stream's. -/
theorem endB_pack {B : List Int} {S : List Bool} {at_ : Nat} {e : Int} (h8 : AllU8' B) (hat : at_ ≤ 8 * B.length) (h : endB (unpack B) at_ e = 0) (hS : e = 0 → S = (unpack B).take at_) : pack S = B := by
  unfold endB at h
  split at h
  · rename_i h0; exact absurd h h0
  · rename_i h0
    have he : e = 0 := Decidable.not_not.1 h0
    have hl := unpack_length B
    split at h
    · exact absurd h (by decide)
    · rename_i h8'
      split at h
      · exact absurd h (by decide)
      · rename_i hno
        have hz : (unpack B).drop at_ = List.replicate (8 * B.length - at_) false := by
          rw [List.eq_replicate_iff]
          refine ⟨by rw [List.length_drop, hl], fun b hb => ?_⟩
          cases b
          · rfl
          · exact absurd hb hno
        have hS' := hS he
        have hSl : S.length = at_ := by rw [hS', List.length_take, hl]; omega
        have h2 : unpack B = S ++ List.replicate (8 * B.length - at_) false := by rw [← hz, hS', List.take_append_drop]
        have h3 := pack_unpack B h8
        rw [h2, pack_pad S _ (by rw [hSl]; unfold nbytes; rw [hl] at h8'; omega)] at h3
        exact h3

theorem wf_of_range {n : Int} (h : -9223372036854775808 ≤ n ∧ n ≤ 9223372036854775807) : (Lit.int .i64 n).wf = true := by
  simp [Lit.wf, IntKind.min, IntKind.max, IntKind.bits, IntKind.signed]
  omega
theorem tdiv_wf {n : Int} (h : (Lit.int .i64 n).wf = true) (d : Int) (hd : 2 ≤ d) : (Lit.int .i64 (n.tdiv d)).wf = true := by
  have hr := wf_range h
  have h1 : (n.tdiv d).natAbs = n.natAbs / d.natAbs := Int.natAbs_tdiv n d
  have h2 : n.natAbs / d.natAbs ≤ n.natAbs / 2 := Nat.div_le_div_left (by omega) (by omega)
  exact wf_of_range (by omega)

set_option maxRecDepth 100000 in
set_option maxHeartbeats 8000000 in
theorem BitsOne_walk (a0 : Option Addr) (len0 cap0 : Nat) (z0 : List Int) (a1 : Option Addr) (len1 cap1 : Nat) (z1 : List Int) (w : World)
    (w0 : IsRow .u8 w a0 len0 cap0 z0) (y0 : len0 * 1 ≤ 140737488351232) (w1 : IsRow .i64 w a1 len1 cap1 z1) (y1 : len1 * 8 ≤ 140737488351232) :
    Calls Try.prog 6 #[.slice a0 len0 cap0, .slice a1 len1 cap1] w fun e w' => e = .returned (.bool true) ∧ Below w.heap.size w w' := by
  obtain ⟨b, rfl, hbc, hCb, hwb⟩ := row_in w0
  obtain ⟨m, rfl, hmc, hCm, hwm⟩ := row_in w1
  have hb8 : AllU8 b := u8_of_wf hwb
  have HB := Lib.hid hb8
  have HWM := Lib.hid hwm
  clear w0 w1 hwb hwm hb8
  have H0 := Holds.start w
  go_enter Try.func6, Try.ntmps6
  go_wp2_with fail
  refine (Few_H a0 cap0 b 40 (by omega) (by omega) w hCb hbc H0).mono ?_
  rintro e w10 ⟨A10, c10, rfl, H10, Q10⟩
  rw [show (40 : Int).toNat = 40 from rfl] at H10 ⊢
  obtain ⟨U, hU⟩ : ∃ U : List Int, Hid (b.take 40 = U) := ⟨_, Lib.hid rfl⟩
  rw [hU.out] at H10 ⊢
  have hU8 : Hid (AllU8' U) := by rw [← hU.out]; exact allU8_take HB.out _
  have hUl : U.length ≤ 40 := by rw [← hU.out, List.length_take]; omega
  go_wp2_with fail
  refine (bRead A10 c10 U (by omega) w10 H10 H10.row'.2.2).mono ?_
  rintro e w11 ⟨r, rfl, H11, Q11⟩
  have H12 := H11.bwNew
  have Q12 := (Q10.trans Q11).alloc (.cells #[.slice none 0 0, .int .i64 0] 31)
  clear Q10 Q11 H11 H10 H0
  go_wp2
  generalize w11.heap.size = p at *
  generalize w11.alloc (.cells #[.slice none 0 0, .int .i64 0] 31) = w12 at *
  have hLl : Hid ((unpack U).length = 8 * U.length) := unpack_length U
  go_loopw [8] (fun iv wr => ∃ (i : Nat) (S : List Bool) (at_ : Nat) (e : Int), i ≤ 60 ∧ iv = .int .i64 (i : Int) ∧ Holds wr [bwH p S, rdH r U at_ e, rowH (Kd.int .u8) 5 (.slice A10 U.length c10) U, oldH w] ∧ Calm w wr ∧ at_ ≤ 8 * U.length ∧ S.length ≤ 70000 * i ∧ Hid (e = 0 → S = (unpack U).take at_) ∧ Hid (e ≠ 2)) (fun iv _ => 60 - (intOf iv).toNat)
  case atStart => exact ⟨0, [], 0, 0, by omega, rfl, H12, Q12, by omega, by simp, fun _ => by simp, by show (0 : Int) ≠ 2; decide⟩
  case round =>
    clear H12 Q12
    obtain ⟨i, S, at_, e, hi, rfl, H1, Q1, hat, hSl, hS, he2⟩ := hrel
    have hEr := rEndB r U hU8.out at_ e (by omega) hat wr H1.f2
    have hSl' : S.length ≤ 5000000 := by omega
    obtain ⟨ee, hee⟩ : ∃ ee : Int, Hid (endB (unpack U) at_ e = ee) := ⟨_, Lib.hid rfl⟩
    rw [hee.out] at hEr
    by_cases hgo : i < m.length ∧ i < 60 ∧ ee = 2
    · obtain ⟨hm1, h10, rfl⟩ := hgo
      have he0 := endB_form hee.out he2.out
      subst he0
      have hS0 := hS.out rfl
      have him : (i : Int) < (m.length : Int) := by omega
      have hi10 : (i : Int) < 60 := by omega
      obtain ⟨kx, hkx⟩ : ∃ kx : Int, Hid (m[i]?.getD 0 = kx) := ⟨_, Lib.hid rfl⟩
      have hkw : (Lit.int .i64 kx).wf = true := by
        rw [← hkx.out, List.getElem?_eq_getElem hm1]
        exact HWM.out _ (List.getElem_mem hm1)
      have hkr := wf_range hkw
      go_wp2_with fail
      refine hEr.mono ?_
      rintro e w2 ⟨rfl, H2, Q2⟩
      obtain ⟨ad, had, hcell⟩ := at_nat (Rd.old_int hCm [] w2 H2.drop.drop.drop) hm1
      rw [hkx.out] at hcell
      subst had
      have hk0 := hkr.1
      have hk1 := hkr.2
      go_wp2_with fail
      obtain ⟨k, hk, hk65⟩ := around_name (kx.tdiv 2) 65 (by omega)
      refine (Around_at (kx.tdiv 2) 65 k hk (tdiv_wf hkw 2 (by omega)) (by omega) (by omega) w2).mono ?_
      rintro e _ ⟨rfl, rfl⟩
      have hcl : clampN (k : Int) 64 = k := by unfold clampN; omega
      clear hk hkw
      by_cases hpar : kx.tmod 2 = 0
      · have hparb : (kx.tmod 2 == 0) = true := by rw [hpar]; rfl
        have hkeep := bits_keep (L := unpack U) (S := S) (k := k) (by rw [hLl.out]; exact hat) hS0 (by omega)
        have hrb := rBits r U hU8.out at_ 0 (k : Int) (by omega) hat w2 H2
        rw [hcl] at hrb
        rw [hLl.out] at hkeep
        obtain ⟨t, ht⟩ : ∃ t, Hid (bitsR (unpack U) at_ 0 k = t) := ⟨_, Lib.hid rfl⟩
        rw [ht.out] at hrb hkeep
        obtain ⟨hk1, hk2, hk3, hk4⟩ := hkeep
        have Hk4 := Lib.hid hk4
        have Hk3 := Lib.hid hk3
        clear hk3 hk4
        go_wp2_with fail
        refine hrb.mono ?_
        rintro e w3 ⟨rfl, H3, Q3⟩
        have hwb := bBits p S t.1 hk2 (k : Int) (by omega) w3 H3.f2
        rw [hcl] at hwb
        have hlen : (S ++ bitsN t.1 k).length ≤ 70000 * (i + 1) := by rw [List.length_append, bitsN_length]; omega
        go_wp2_with fail
        refine hwb.mono ?_
        rintro e w4 ⟨rfl, H4, Q4⟩
        go_wp2
        go_roundw
        case rel => exact ⟨i + 1, S ++ bitsN t.1 k, t.2.1, t.2.2, by omega, by go_num, H4, ((Q1.trans Q2).trans Q3).trans Q4, hk1, hlen, Hk4, Hk3⟩
        case measure => simp [intOf]; omega
      · have hparb : (kx.tmod 2 == 0) = false := by simpa using hpar
        have hkeep := unary_keep (L := unpack U) (S := S) (limit := (k : Int)) (by rw [hLl.out]; exact hat) (by rw [hLl.out]; omega) hS0
        have hrb := rUnary r U hU8.out at_ 0 (k : Int) (by omega) hat w2 H2
        rw [hLl.out] at hkeep
        obtain ⟨t, ht⟩ : ∃ t, Hid (unaryR (unpack U) at_ 0 (k : Int) = t) := ⟨_, Lib.hid rfl⟩
        rw [ht.out] at hrb hkeep
        obtain ⟨hk1, hk2, hk3, hk4⟩ := hkeep
        have Hk4 := Lib.hid hk4
        have Hk3 := Lib.hid hk3
        clear hk3 hk4
        go_wp2_with fail
        refine hrb.mono ?_
        rintro e w3 ⟨rfl, H3, Q3⟩
        have hwb := bUnary p S (t.1 : Int) (by omega) w3 H3.f2
        have hlen : (S ++ unaryB (clampN (t.1 : Int) 65536)).length ≤ 70000 * (i + 1) := by
          have := clampN_le (t.1 : Int) 65536
          rw [List.length_append, unaryB, List.length_append, List.length_replicate, List.length_singleton]; omega
        go_wp2_with fail
        refine hwb.mono ?_
        rintro e w4 ⟨rfl, H4, Q4⟩
        go_wp2
        go_roundw
        case rel => exact ⟨i + 1, S ++ unaryB (clampN (t.1 : Int) 65536), t.2.1, t.2.2, by omega, by go_num, H4, ((Q1.trans Q2).trans Q3).trans Q4, hk1, hlen, Hk4, Hk3⟩
        case measure => simp [intOf]; omega
    · have hEr2 := fun W (K : Holds W (rdH r U at_ e :: bwH p S :: rowH (Kd.int .u8) 5 (.slice A10 U.length c10) U :: [oldH w])) => rEndB r U hU8.out at_ e (by omega) hat W K
      rw [hee.out] at hEr2
      have hpk : Hid (ee = 0 → pack S = U) := fun h => endB_pack hU8.out hat (by rw [hee.out]; exact h) hS.out
      have hdn := fun W (K : Holds W (bwH p S :: rdH r U at_ e :: rowH (Kd.int .u8) 5 (.slice A10 U.length c10) U :: [oldH w])) => bDone p S (by omega) W K
      have Hgo := Lib.hid hgo
      clear hgo
      by_cases hlt : i < m.length
      focus
        have him : (i : Int) < (m.length : Int) := by omega
        by_cases h10 : i < 60
        focus
          have hi10 : (i : Int) < 60 := by omega
          have hee2 : ¬ ee = 2 := fun h => Hgo.out ⟨hlt, h10, h⟩
          have hee2b : (ee == 2) = false := by simpa using hee2
          go_wp2_with fail
          refine hEr.mono ?_
          rintro e w2 ⟨rfl, H2, Q2⟩
          have Q3 := Q1.trans Q2
          clear hEr H1 Q1 Q2
          go_wp2_with fail
          generalize w2 = wz at *
        rotate_left
        focus
          have hi10 : ¬ (i : Int) < 60 := by omega
          have H2 := H1.f2
          have Q3 := Q1
          clear hEr H1 Q1
          go_wp2_with fail
          generalize wr = wz at *
      rotate_left
      rotate_left
      focus
        have him : ¬ (i : Int) < (m.length : Int) := by omega
        have H2 := H1.f2
        have Q3 := Q1
        clear hEr H1 Q1
        go_wp2_with fail
        generalize wr = wz at *
      rotate_left
      all_goals
        refine (hEr2 wz H2).mono ?_
        rintro e w3 ⟨rfl, H3, Q4⟩
        have Q5 := Q3.trans Q4
        clear hEr2 Q3 Q4 H2
        by_cases hz : ee = 0
        · have hzb : (ee == 0) = true := by rw [hz]; rfl
          have hP := hpk.out hz
          have hdn' := hdn w3 H3.f2
          rw [hP] at hdn'
          clear hdn
          go_wp2_with fail
          refine hdn'.mono ?_
          rintro e w4 ⟨A4, c4, rfl, H4, hc4, Q6⟩
          go_wp2_with fail
          refine (SameBytes_H A4 c4 U.length U A10 c10 U.length U true (decide_eq_true rfl) w4 rfl rfl H4.row'.2.2 (H4.drop.drop.drop.row'.2.2) (by omega) H4).mono ?_
          rintro e w5 ⟨rfl, H5, Q7⟩
          go_wp2_with fail
          refine (lives_calls w5 H5).mono ?_
          rintro e w6 ⟨rfl, H6, Q8⟩
          have HB := Lib.hid (H6.drop.drop.drop.drop.old (((Q5.trans Q6).trans Q7).trans Q8))
          go_wp2
          go_ret
          exact ⟨rfl, HB.out⟩
        · have hzb : (ee == 0) = false := by simpa using hz
          go_wp2_with fail
          refine (lives_calls w3 H3).mono ?_
          rintro e w6 ⟨rfl, H6, Q8⟩
          have HB := Lib.hid (H6.drop.drop.drop.old (Q5.trans Q8))
          go_wp2
          go_ret
          exact ⟨rfl, HB.out⟩
end Go.Proofs.Ytkkhpdbognaioaa
