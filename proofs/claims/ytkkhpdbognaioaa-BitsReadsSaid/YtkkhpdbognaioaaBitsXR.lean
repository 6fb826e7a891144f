/- The contracts of the reference's Reader (section 14). -/
import Derived.Test.YtkkhpdbognaioaaBitsRef3
namespace Go.Proofs.Ytkkhpdbognaioaa
set_option linter.unusedVariables false
set_option linter.unusedSimpArgs false
open Go.RowKit Go.Shelf Go.Proofs.YtkkhpdbognaioaaW.PrintWords Go.Proofs.YtkkhpdbognaioaaW.PrintLast Go.Proofs.YtkkhpdbognaioaaW.PrintMore

/-- The reference's Reader behind the pointer p: all bits, the position, the error. -/
def xrdH (p : Nat) (L : List Bool) (at_ : Nat) (e : Int) : Hp := exH fun A => exH fun c => sepL [blkH p 49 #[.slice A L.length c, .int .i64 (at_ : Int), .int .i64 e], rowH Kd.bool 4 (.slice A L.length c) L]
theorem Holds.xrOpen {w : World} {p at_ : Nat} {L : List Bool} {e : Int} {F : List Hp} (h : Holds w (xrdH p L at_ e :: F)) : ∃ A c, Holds w (blkH p 49 #[.slice A L.length c, .int .i64 (at_ : Int), .int .i64 e] :: rowH Kd.bool 4 (.slice A L.length c) L :: F) := by
  obtain ⟨A, h⟩ := h.ex
  obtain ⟨c, h⟩ := h.ex
  exact ⟨A, c, h.parts⟩
theorem Holds.xrShut {w : World} {p at_ : Nat} {L : List Bool} {e : Int} {F : List Hp} {A : Option Addr} {c : Nat} (h : Holds w (blkH p 49 #[.slice A L.length c, .int .i64 (at_ : Int), .int .i64 e] :: rowH Kd.bool 4 (.slice A L.length c) L :: F)) : Holds w (xrdH p L at_ e :: F) := Holds.mk A (Holds.mk c (Holds.group h))
theorem Holds.boolCell {w : World} {A : Option Addr} {c : Nat} {L : List Bool} {e : TypeId} {F : List Hp} (h : Holds w (rowH Kd.bool e (.slice A L.length c) L :: F)) {i : Nat} (hi : i < L.length) : ∃ ad, A = some ad ∧ w.cell? (ad.add i) = some (.bool (L[i]?.getD false)) :=
  (Rd.row F).boolAt hi h

theorem bitsR_err {L : List Bool} {at_ : Nat} {e : Int} {k : Nat} (h : e ≠ 0) : bitsR L at_ e k = (0, at_, e) := by unfold bitsR; rw [if_neg h]
theorem bitsR_more {L : List Bool} {at_ : Nat} {k : Nat} (h : L.length - at_ < k) : bitsR L at_ 0 k = (0, at_, 3) := by unfold bitsR; rw [if_pos rfl, if_pos h]
theorem bitsR_ok {L : List Bool} {at_ : Nat} {k : Nat} (h : ¬ L.length - at_ < k) : bitsR L at_ 0 k = (valB ((L.drop at_).take k), at_ + k, 0) := by unfold bitsR; rw [if_pos rfl, if_neg h]

set_option maxRecDepth 100000 in
set_option maxHeartbeats 4000000 in
theorem xrBits (p : Nat) (L : List Bool) (at_ : Nat) (e0 : Int) (count : Int) (hl : L.length ≤ 10000000) (hat : at_ ≤ L.length) (w : World) {F : List Hp} (H : Holds w (xrdH p L at_ e0 :: F)) :
    Calls Try.prog 26 #[.pointer (some ⟨p, 0, none⟩), .int .i64 count] w fun e w' => e = .returned (.int .u64 ((bitsR L at_ e0 (clampN count 64)).1 : Int)) ∧ Holds w' (xrdH p L (bitsR L at_ e0 (clampN count 64)).2.1 (bitsR L at_ e0 (clampN count 64)).2.2 :: F) ∧ Calm w w' := by
  obtain ⟨k, hk⟩ : ∃ k : Nat, Hid (clampN count 64 = k) := ⟨_, Lib.hid rfl⟩
  have hk64 : k ≤ 64 := by rw [← hk.out]; exact clampN_le _ _
  have hcl := Count_calls count w
  rw [hk.out] at hcl
  rw [hk.out]
  obtain ⟨A, c, H2⟩ := H.xrOpen
  have hc0 := H2.c 0 (.slice A L.length c) rfl
  have hc1 := H2.c 1 (.int .i64 (at_ : Int)) rfl
  have hc2 := H2.c 2 (.int .i64 e0) rfl
  have hf2 := H2.frozen 2
  have hf1 := H2.frozen 1
  have hlt := H2.lt
  by_cases he : e0 = 0
  · subst he
    by_cases hm : L.length - at_ < k
    · rw [bitsR_more hm]
      have hmi : (L.length : Int) - (at_ : Int) < (k : Int) := by omega
      have hk0 : (0 : Int) < (k : Int) := by omega
      have K := (H2.drew).set 2 (.int .i64 3)
      have hc5 := K.c 2 (.int .i64 3) rfl
      go_enter Try.func26, Try.ntmps26
      go_wp2_with fail
      refine hcl.mono ?_
      rintro e _ ⟨rfl, rfl⟩
      go_wp2_with fail
      go_region
      go_wp2
      refine wp_loop_rounds 1 ?_
      rw [rounds_succ]
      go_wp2
      go_ret
      exact ⟨rfl, K.xrShut, (Calm.refl w).drew.setCell _ _⟩
    · rw [bitsR_ok hm]
      have hmi : ¬ (L.length : Int) - (at_ : Int) < (k : Int) := by omega
      have hvl := fun (i : Nat) (hi : i ≤ 63) => (show valB ((L.drop at_).take i) < 9223372036854775808 from by
        refine Nat.lt_of_lt_of_le (valB_lt _) ?_
        have : ((L.drop at_).take i).length ≤ 63 := by rw [List.length_take]; omega
        exact Nat.le_trans (Nat.pow_le_pow_right (by omega) this) (by decide))
      have hbv := fun (i : Nat) (hi : i < k) => (show valB ((L.drop at_).take (i + 1)) = 2 * valB ((L.drop at_).take i) + b2n (L[at_ + i]?.getD false) from by
        have hd : i < (L.drop at_).length := by rw [List.length_drop]; omega
        rw [List.take_succ_eq_append_getElem hd, valB_snoc]
        congr 2
        rw [List.getElem_drop, List.getElem?_eq_getElem (by omega), Option.getD_some])
      have Hvl := Lib.hid hvl
      have Hbv := Lib.hid hbv
      have H3 := H2.drew
      clear hvl hbv
      go_enter Try.func26, Try.ntmps26
      go_wp2_with fail
      refine hcl.mono ?_
      rintro e _ ⟨rfl, rfl⟩
      go_wp2_with fail
      go_region
      clear hc0 hc1 hc2 hf2 hf1 hlt H2 H
      go_wp2
      go_loopw [6, 7] (fun nv iv wr => ∃ i : Nat, i ≤ k ∧ iv = .int .i64 (i : Int) ∧ nv = .int .u64 ((valB ((L.drop at_).take i) : Nat) : Int) ∧ Holds wr (blkH p 49 #[.slice A L.length c, .int .i64 ((at_ + i : Nat) : Int), .int .i64 0] :: rowH Kd.bool 4 (.slice A L.length c) L :: F) ∧ Calm w wr) (fun _ iv _ => k - (intOf iv).toNat)
      case atStart => exact ⟨0, Nat.zero_le _, rfl, rfl, H3, (Calm.refl w).drew⟩
      case round =>
        clear H3
        obtain ⟨i, hi, rfl, rfl, H1, Q1⟩ := hrel
        have hc0 := H1.c 0 (.slice A L.length c) rfl
        have hc1 := H1.c 1 (.int .i64 ((at_ + i : Nat) : Int)) rfl
        have hc2 := H1.c 2 (.int .i64 0) rfl
        by_cases hik : i < k
        · have hiki : (i : Int) < (k : Int) := by omega
          have hv := Hvl.out i (by omega)
          have hn := Hbv.out i hik
          obtain ⟨V, hV⟩ : ∃ V : Nat, Hid (valB ((L.drop at_).take i) = V) := ⟨_, Lib.hid rfl⟩
          obtain ⟨b, hb⟩ : ∃ b : Bool, Hid (L[at_ + i]?.getD false = b) := ⟨_, Lib.hid rfl⟩
          rw [hV.out] at hv hn ⊢
          obtain ⟨ad, hA, hcell⟩ := H1.drop.boolCell (i := at_ + i) (by omega)
          subst hA
          rw [hb.out] at hn hcell
          obtain ⟨t, ht⟩ : ∃ t : Nat, Hid (at_ + i = t) := ⟨_, Lib.hid rfl⟩
          rw [ht.out] at hc1 hcell H1
          have ht0 : t < L.length := by have := ht.out; omega
          have ht0i : (t : Int) < (L.length : Int) := by omega
          have hf1 := H1.frozen 1
          have hlt := H1.lt
          have K := (H1.drew).set 1 (.int .i64 ((t : Int) + 1))
          have hti : Hid ((t : Int) + 1 = ((at_ + (i + 1) : Nat) : Int)) := by show _ = _; have := ht.out; omega
          have Hn := Lib.hid hn
          clear hn
          cases b
          · go_wp2_with fail
            go_region
            go_wp2
            go_roundw
            case rel => exact ⟨i + 1, by omega, by go_num, int_eq (by rw [Hn.out]; simp [b2n]), by rw [← hti.out]; exact K, Q1.drew.setCell _ _⟩
            case measure => simp [intOf]; omega
          · go_wp2_with fail
            go_region
            go_wp2
            go_roundw
            case rel => exact ⟨i + 1, by omega, by go_num, int_eq (by rw [Hn.out]; simp [b2n]), by rw [← hti.out]; exact K, Q1.drew.setCell _ _⟩
            case measure => simp [intOf]; omega
        · obtain rfl : i = k := by omega
          go_wp2
          go_ret
          exact ⟨rfl, H1.xrShut, Q1⟩
  · rw [bitsR_err he]
    have hb : (e0 == 0) = false := by simpa using he
    have H3 := H.drew
    go_enter Try.func26, Try.ntmps26
    go_wp2_with fail
    refine hcl.mono ?_
    rintro e _ ⟨rfl, rfl⟩
    go_wp2_with fail
    go_region
    go_wp2
    refine wp_loop_rounds 1 ?_
    rw [rounds_succ]
    by_cases hk0 : k = 0
    · subst hk0
      go_wp2
      go_ret
      exact ⟨rfl, H3, (Calm.refl w).drew⟩
    · have hk0i : (0 : Int) < (k : Int) := by omega
      go_wp2
      go_ret
      exact ⟨rfl, H3, (Calm.refl w).drew⟩

set_option maxRecDepth 100000 in
set_option maxHeartbeats 8000000 in
theorem xrUnary (p : Nat) (L : List Bool) (at_ : Nat) (e0 : Int) (limit : Int) (hl : L.length ≤ 10000000) (hat : at_ ≤ L.length) (w : World) {F : List Hp} (H : Holds w (xrdH p L at_ e0 :: F)) :
    Calls Try.prog 28 #[.pointer (some ⟨p, 0, none⟩), .int .i64 limit] w fun e w' => e = .returned (.int .i64 ((unaryR L at_ e0 limit).1 : Int)) ∧ Holds w' (xrdH p L (unaryR L at_ e0 limit).2.1 (unaryR L at_ e0 limit).2.2 :: F) ∧ Calm w w' := by
  by_cases he : e0 = 0
  · subst he
    obtain ⟨R, hR⟩ : ∃ R, Hid (unaryR L at_ 0 limit = R) := ⟨_, Lib.hid rfl⟩
    have hR0 : Hid (unR at_ limit (L.drop (at_ + 0)) 0 = R) := by show _ = _; rw [← hR.out]; unfold unaryR; rw [if_pos rfl]; rfl
    rw [hR.out]
    clear hR
    go_enter Try.func28, Try.ntmps28
    go_wp2
    go_loopw [5] (fun nv wr => ∃ (i : Nat), nv = .int .i64 (i : Int) ∧ i ≤ L.length + 1 ∧ Calm w wr ∧ ((at_ + i ≤ L.length ∧ Holds wr (xrdH p L at_ 0 :: F) ∧ Hid (unR at_ limit (L.drop (at_ + i)) i = R)) ∨ (∃ e, e ≠ 0 ∧ Holds wr (xrdH p L at_ e :: F) ∧ Hid ((0, at_, e) = R)))) (fun nv _ => L.length + 2 - (intOf nv).toNat)
    case atStart => exact ⟨0, rfl, by omega, Calm.refl _, .inl ⟨by omega, H, hR0⟩⟩
    case round =>
      obtain ⟨i, rfl, hi, Q1, ⟨hib, H1, hfin⟩ | ⟨e, he, H1, hfin⟩⟩ := hrel
      · obtain ⟨A, c, H2⟩ := H1.xrOpen
        have hc0 := H2.c 0 (.slice A L.length c) rfl
        have hc1 := H2.c 1 (.int .i64 (at_ : Int)) rfl
        have hc2 := H2.c 2 (.int .i64 0) rfl
        have hf2 := H2.frozen 2
        have hf1 := H2.frozen 1
        have hlt := H2.lt
        by_cases hend : at_ + i = L.length
        · have hd : L.drop (at_ + i) = [] := List.drop_of_length_le (by omega)
          have hfin3 : Hid ((0, at_, 3) = R) := by show _ = _; rw [← hfin.out, hd]; rfl
          have hq : (L.length : Int) ≤ (at_ : Int) + (i : Int) := by omega
          have K := H2.drew.set 2 (.int .i64 3)
          clear hend hd
          go_wp2_with fail
          go_region
          go_wp2
          go_ret
          rw [← hfin3.out]
          exact ⟨rfl, K.xrShut, Q1.drew.setCell _ _⟩
        · have hltL : at_ + i < L.length := by omega
          have hd := drop_bit (L := L) (t := at_ + i) hltL
          obtain ⟨b, hb⟩ : ∃ b : Bool, Hid (L[at_ + i]?.getD false = b) := ⟨_, Lib.hid rfl⟩
          obtain ⟨ad, hA, hcell⟩ := H2.drop.boolCell (i := at_ + i) hltL
          subst hA
          rw [hb.out] at hcell hd
          have hfin' := hfin.out
          rw [hd] at hfin'
          have hq : ¬ (L.length : Int) ≤ (at_ : Int) + (i : Int) := by omega
          have hqq : (at_ : Int) + (i : Int) < (L.length : Int) := by omega
          have hge : (0 : Int) ≤ (at_ : Int) + (i : Int) := by omega
          have HDr := H1.drew.drew
          cases b
          · have hfin3 : Hid ((i, at_ + i + 1, 0) = R) := hfin'
            have K := H2.drew.drew.set 1 (.int .i64 ((at_ : Int) + (i : Int) + 1))
            have hsum : Hid ((at_ : Int) + (i : Int) + 1 = ((at_ + i + 1 : Nat) : Int)) := by show _ = _; omega
            clear hfin' hd hend hfin
            go_wp2_with fail
            go_region
            go_wp2_with fail
            go_region
            go_wp2
            go_ret
            rw [← hfin3.out]
            rw [hsum.out] at K ⊢
            exact ⟨rfl, K.xrShut, Q1.drew.drew.setCell _ _⟩
          · by_cases hlim : limit ≤ (i : Int)
            · have hfin3 : Hid ((0, at_, 4) = R) := by show _ = _; rw [← hfin', unR, if_pos hlim]
              have K := H2.drew.drew.set 2 (.int .i64 4)
              have hmx : max 0 limit ≤ (i : Int) := by omega
              clear hfin' hd hend hfin
              go_wp2_with fail
              go_region
              go_wp2_with fail
              go_region
              go_wp2
              go_roundw
              case rel => exact ⟨i + 1, by go_num, by omega, Q1.drew.drew.setCell _ _, .inr ⟨4, by decide, K.xrShut, hfin3⟩⟩
              case measure => simp [intOf]; omega
            · have hfin3 : Hid (unR at_ limit (L.drop (at_ + (i + 1))) (i + 1) = R) := by show _ = _; rw [← hfin', unR, if_neg hlim]; rfl
              have hmx : ¬ max 0 limit ≤ (i : Int) := by omega
              clear hfin' hd hend hfin
              go_wp2_with fail
              go_region
              go_wp2_with fail
              go_region
              go_wp2
              go_roundw
              case rel => exact ⟨i + 1, by go_num, by omega, Q1.drew.drew, .inl ⟨by omega, HDr, hfin3⟩⟩
              case measure => simp [intOf]; omega
      · obtain ⟨A, c, H2⟩ := H1.xrOpen
        have hc2 := H2.c 2 (.int .i64 e) rfl
        have hb : (e == 0) = false := by simpa using he
        go_wp2
        go_ret
        rw [← hfin.out]
        exact ⟨rfl, H1, Q1⟩
  · have hr : Hid (unaryR L at_ e0 limit = (0, at_, e0)) := by show _ = _; unfold unaryR; rw [if_neg he]
    rw [hr.out]
    have hb : (e0 == 0) = false := by simpa using he
    obtain ⟨A, c, H2⟩ := H.xrOpen
    have hc2 := H2.c 2 (.int .i64 e0) rfl
    go_enter Try.func28, Try.ntmps28
    go_wp2
    refine wp_loop_rounds 1 ?_
    rw [rounds_succ]
    go_wp2
    go_ret
    exact ⟨rfl, H, Calm.refl _⟩

set_option maxRecDepth 100000 in
set_option maxHeartbeats 4000000 in
theorem xrEnd (p : Nat) (L : List Bool) (at_ : Nat) (e0 : Int) (hl : L.length ≤ 10000000) (hat : at_ ≤ L.length) (w : World) {F : List Hp} (H : Holds w (xrdH p L at_ e0 :: F)) :
    Calls Try.prog 31 #[.pointer (some ⟨p, 0, none⟩)] w fun e w' => e = .returned (.int .i64 (endB L at_ e0)) ∧ Holds w' (xrdH p L at_ e0 :: F) ∧ Calm w w' := by
  obtain ⟨A, c, H2⟩ := H.xrOpen
  have hc0 := H2.c 0 (.slice A L.length c) rfl
  have hc1 := H2.c 1 (.int .i64 (at_ : Int)) rfl
  have hc2 := H2.c 2 (.int .i64 e0) rfl
  by_cases he : e0 = 0
  · subst he
    have HD := H.drew
    have H2D := H2.drew
    by_cases h8 : 8 ≤ L.length - at_
    · have hr : Hid (endB L at_ 0 = 2) := by show _ = _; unfold endB; rw [if_neg (by simp), if_pos h8]
      rw [hr.out]
      have h8i : (8 : Int) ≤ (L.length : Int) - (at_ : Int) := by omega
      go_enter Try.func31, Try.ntmps31
      go_wp2_with fail
      go_region
      go_wp2
      go_ret
      exact ⟨rfl, HD, (Calm.refl w).drew⟩
    · have hr : Hid (endB L at_ 0 = if true ∈ L.drop at_ then 2 else 0) := by show _ = _; unfold endB; rw [if_neg (by simp), if_neg h8]
      rw [hr.out]
      have h8i : ¬ (8 : Int) ≤ (L.length : Int) - (at_ : Int) := by omega
      have QD := (Calm.refl w).drew
      go_enter Try.func31, Try.ntmps31
      go_wp2_with fail
      go_region
      have x0 := H2D.c 0 (.slice A L.length c) rfl
      have x1 := H2D.c 1 (.int .i64 (at_ : Int)) rfl
      clear hc0 hc1 hc2 H2 H
      generalize w.drew = wd at *
      go_wp2
      go_loopw [3] (fun iv wr => ∃ i : Nat, at_ + i ≤ L.length ∧ iv = .int .i64 ((at_ + i : Nat) : Int) ∧ wd = wr ∧ Hid (true ∈ L.drop at_ ↔ true ∈ L.drop (at_ + i))) (fun iv _ => L.length - (intOf iv).toNat)
      case atStart => exact ⟨0, hat, rfl, rfl, Iff.rfl⟩
      case round =>
        obtain ⟨i, hi, rfl, rfl, hiff⟩ := hrel
        obtain ⟨t, ht⟩ : ∃ t : Nat, Hid (at_ + i = t) := ⟨_, Lib.hid rfl⟩
        rw [ht.out] at hiff hi ⊢
        by_cases hik : t < L.length
        · have hiki : (t : Int) < (L.length : Int) := by omega
          have hd := drop_bit (L := L) (t := t) hik
          obtain ⟨b, hb⟩ : ∃ b : Bool, Hid (L[t]?.getD false = b) := ⟨_, Lib.hid rfl⟩
          obtain ⟨ad, hA, hcell⟩ := H2D.drop.boolCell hik
          subst hA
          rw [hb.out] at hcell hd
          have hiff' := hiff.out
          rw [hd] at hiff'
          cases b
          · have hnew : Hid (true ∈ L.drop at_ ↔ true ∈ L.drop (t + 1)) := by
              show _ ↔ _
              rw [hiff', List.mem_cons]
              simp only [Bool.true_eq_false, false_or]
            have hnew2 : Hid (true ∈ L.drop at_ ↔ true ∈ L.drop (at_ + (i + 1))) := by rw [show at_ + (i + 1) = t + 1 by have := ht.out; omega]; exact hnew
            clear hiff' hd
            go_wp2
            go_roundw
            case rel => exact ⟨i + 1, by have := ht.out; omega, int_eq (by have := ht.out; omega), trivial, hnew2⟩
            case measure => simp [intOf]; omega
          · have hin : Hid (true ∈ L.drop at_) := hiff'.2 (by simp)
            clear hiff' hd
            go_wp2
            go_ret
            try rw [if_pos hin.out]
            exact ⟨rfl, HD, QD⟩
        · have hno : Hid (¬ true ∈ L.drop at_) := fun h => by
            have h2 := hiff.out.1 h
            rw [List.drop_of_length_le (by omega)] at h2
            simp at h2
          have hiki : ¬ (t : Int) < (L.length : Int) := by omega
          go_wp2
          go_ret
          try rw [if_neg hno.out]
          exact ⟨rfl, HD, QD⟩
  · have hr : Hid (endB L at_ e0 = e0) := by show _ = _; unfold endB; rw [if_pos he]
    rw [hr.out]
    have hb : (e0 == 0) = false := by simpa using he
    go_enter Try.func31, Try.ntmps31
    go_wp2
    go_ret
    exact ⟨rfl, H, Calm.refl _⟩
end Go.Proofs.Ytkkhpdbognaioaa
