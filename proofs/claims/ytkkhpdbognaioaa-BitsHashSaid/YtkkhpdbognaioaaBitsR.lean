/- The contracts of package bits' Reader. -/
import Derived.Test.YtkkhpdbognaioaaBitsW3
namespace Go.Proofs.Ytkkhpdbognaioaa
set_option linter.unusedVariables false
set_option linter.unusedSimpArgs false
open Go.RowKit Go.Shelf Go.Proofs.YtkkhpdbognaioaaW.PrintWords Go.Proofs.YtkkhpdbognaioaaW.PrintLast Go.Proofs.YtkkhpdbognaioaaW.PrintMore

/-- What Bits returns of the stream L, and where it stands then. -/
def bitsR (L : List Bool) (at_ : Nat) (e : Int) (k : Nat) : Nat × Nat × Int :=
  if e = 0 then (if L.length - at_ < k then (0, at_, 3) else (valB ((L.drop at_).take k), at_ + k, 0)) else (0, at_, e)
def unR (at_ : Nat) (limit : Int) : List Bool → Nat → Nat × Nat × Int
  | [], n => (0, at_, 3)
  | false :: _, n => (n, at_ + n + 1, 0)
  | true :: r, n => if limit ≤ (n : Int) then (0, at_, 4) else unR at_ limit r (n + 1)
/-- What Unary returns. -/
def unaryR (L : List Bool) (at_ : Nat) (e : Int) (limit : Int) : Nat × Nat × Int := if e = 0 then unR at_ limit (L.drop at_) 0 else (0, at_, e)
/-- What End returns. -/
def endB (L : List Bool) (at_ : Nat) (e : Int) : Int := if e ≠ 0 then e else if 8 ≤ L.length - at_ then 2 else if true ∈ L.drop at_ then 2 else 0

theorem or_low {n b : Nat} (hn : 2 * n < 18446744073709551616) (hb : b ≤ 1) : bits BinOp.or IntKind.u64 ((2 * n : Nat) : Int) (b : Int) = ((2 * n + b : Nat) : Int) := by
  rw [u64_or_nat (2 * n) b hn (by omega), nat_join 1 (2 * n) b (by simp) (by omega)]

set_option maxRecDepth 100000 in
set_option maxHeartbeats 2000000 in
theorem rBits (p : Nat) (B : List Int) (h8 : AllU8' B) (at_ : Nat) (e0 : Int) (count : Int) (hl : B.length ≤ 10000000) (hat : at_ ≤ 8 * B.length) (w : World) {F : List Hp} (H : Holds w (rdH p B at_ e0 :: F)) :
    Calls Try.prog 25 #[.pointer (some ⟨p, 0, none⟩), .int .i64 count] w fun e w' => e = .returned (.int .u64 ((bitsR (unpack B) at_ e0 (clampN count 64)).1 : Int)) ∧ Holds w' (rdH p B (bitsR (unpack B) at_ e0 (clampN count 64)).2.1 (bitsR (unpack B) at_ e0 (clampN count 64)).2.2 :: F) ∧ Calm w w' := by
  obtain ⟨k, hk⟩ : ∃ k : Nat, Hid (clampN count 64 = k) := ⟨_, Lib.hid rfl⟩
  have hk64 : k ≤ 64 := by rw [← hk.out]; exact clampN_le _ _
  have hcl := clamp_calls count 64 (by omega) w
  rw [hk.out] at hcl
  rw [hk.out]
  have hLl := unpack_length B
  by_cases he : e0 = 0
  · subst he
    have hleft := bLeft p B at_ 0 (by omega) (by omega) w H
    by_cases hlt : 8 * B.length - at_ < k
    · have hr : Hid (bitsR (unpack B) at_ 0 k = (0, at_, 3)) := by show _ = _; unfold bitsR; rw [if_pos rfl, hLl, if_pos hlt]
      rw [hr.out]
      go_enter Try.func25, Try.ntmps25
      obtain ⟨A, c, H2⟩ := H.rdOpen
      have hc2 := H2.c 2 (.int .i64 0) rfl
      go_wp2_with fail
      refine hcl.mono ?_
      rintro e _ ⟨rfl, rfl⟩
      go_wp2_with fail
      refine hleft.mono ?_
      rintro e w1 ⟨rfl, H3, Q1⟩
      obtain ⟨A3, c3, H4⟩ := H3.rdOpen
      have hf := H4.frozen 2
      have hc4 := H4.c 2 (.int .i64 0) rfl
      have hl4 := H4.lt
      have K := H4.set 2 (.int .i64 3)
      have hc5 := K.c 2 (.int .i64 3) rfl
      have hlti : 8 * (B.length : Int) - (at_ : Int) < (k : Int) := by omega
      go_wp2
      go_ret
      exact ⟨rfl, K.rdShut, Q1.setCell _ _⟩
    · have hr : Hid (bitsR (unpack B) at_ 0 k = (valB (((unpack B).drop at_).take k), at_ + k, 0)) := by show _ = _; unfold bitsR; rw [if_pos rfl, hLl, if_neg hlt]
      rw [hr.out]
      go_enter Try.func25, Try.ntmps25
      obtain ⟨A, c, H2⟩ := H.rdOpen
      have hc2 := H2.c 2 (.int .i64 0) rfl
      go_wp2_with fail
      refine hcl.mono ?_
      rintro e _ ⟨rfl, rfl⟩
      go_wp2_with fail
      refine hleft.mono ?_
      rintro e w1 ⟨rfl, H3, Q1⟩
      have H3' := H3
      obtain ⟨A3, c3, H4⟩ := H3.rdOpen
      have hf := H4.frozen 1
      have hc4 := H4.c 1 (.int .i64 (at_ : Int)) rfl
      have hc5 := H4.c 2 (.int .i64 0) rfl
      have hl4 := H4.lt
      have K := H4.set 1 (.int .i64 ((at_ + k : Nat) : Int))
      have hlti : ¬ (8 * (B.length : Int) - (at_ : Int) < (k : Int)) := by omega
      have hati : (at_ : Int) ≤ 80000000 := by omega
      have hb := fun (i : Nat) (hi : i < k) => bBit p B h8 at_ 0 i (by omega) (by omega) w1 H3'
      have hbv := fun (i : Nat) (hi : i < k) => (show valB (((unpack B).drop at_).take (i + 1)) = 2 * valB (((unpack B).drop at_).take i) + b2n ((unpack B)[at_ + i]?.getD false) from by
        have hd : i < ((unpack B).drop at_).length := by rw [List.length_drop, hLl]; omega
        rw [List.take_succ_eq_append_getElem hd, valB_snoc]
        congr 2
        rw [List.getElem_drop, List.getElem?_eq_getElem (by rw [hLl]; omega), Option.getD_some])
      have hvl := fun (i : Nat) (hi : i ≤ 63) => (show valB (((unpack B).drop at_).take i) < 9223372036854775808 from by
        refine Nat.lt_of_lt_of_le (valB_lt _) ?_
        have : (((unpack B).drop at_).take i).length ≤ 63 := by rw [List.length_take]; omega
        exact Nat.le_trans (Nat.pow_le_pow_right (by omega) this) (by decide))
      have Hb := Lib.hid hb
      have Hbv := Lib.hid hbv
      have Hvl := Lib.hid hvl
      clear hb hbv hvl hLl hcl hleft
      go_wp2
      go_loopw [6, 30] (fun nv iv wr => ∃ i : Nat, i ≤ k ∧ iv = .int .i64 (i : Int) ∧ nv = .int .u64 ((valB (((unpack B).drop at_).take i) : Nat) : Int) ∧ w1 = wr) (fun _ iv _ => k - (intOf iv).toNat)
      case atStart => exact ⟨0, Nat.zero_le _, rfl, rfl, rfl⟩
      case round =>
        obtain ⟨i, hi, rfl, rfl, rfl⟩ := hrel
        by_cases hik : i < k
        · have hiki : (i : Int) < (k : Int) := by omega
          have hv := Hvl.out i (by omega)
          have hn := Hbv.out i hik
          have hbt := Hb.out i hik
          obtain ⟨V, hV⟩ : ∃ V : Nat, Hid (valB (((unpack B).drop at_).take i) = V) := ⟨_, Lib.hid rfl⟩
          obtain ⟨b, hbb⟩ : ∃ b : Nat, Hid (b2n ((unpack B)[at_ + i]?.getD false) = b ∧ b ≤ 1) := ⟨_, Lib.hid ⟨rfl, b2n_le _⟩⟩
          rw [hV.out] at hv hn ⊢
          rw [hbb.out.1] at hbt hn
          have hb1 := hbb.out.2
          have hor := or_low (n := V) (b := b) (by omega) hb1
          have Hn := Lib.hid hn
          have Hor := Lib.hid hor
          clear hn hor
          go_wp2_with fail
          refine hbt.mono ?_
          rintro e _ ⟨rfl, rfl⟩
          go_wp2
          go_roundw
          case rel => exact ⟨i + 1, by omega, by go_num, int_eq (by rw [Hn.out, ← Hor.out]; congr 1; omega), trivial⟩
          case measure => simp [intOf]; omega
        · obtain rfl : i = k := by omega
          go_wp2
          go_ret
          exact ⟨rfl, K.rdShut, Q1.setCell _ _⟩
  · have hr : Hid (bitsR (unpack B) at_ e0 k = (0, at_, e0)) := by show _ = _; unfold bitsR; rw [if_neg he]
    rw [hr.out]
    have hb : (e0 == 0) = false := by simpa using he
    obtain ⟨A, c, H2⟩ := H.rdOpen
    have hc2 := H2.c 2 (.int .i64 e0) rfl
    go_enter Try.func25, Try.ntmps25
    go_wp2_with fail
    refine hcl.mono ?_
    rintro e _ ⟨rfl, rfl⟩
    go_wp2
    go_ret
    exact ⟨rfl, H, Calm.refl _⟩

theorem drop_bit {L : List Bool} {t : Nat} (h : t < L.length) : L.drop t = (L[t]?.getD false) :: L.drop (t + 1) := by
  rw [List.drop_eq_getElem_cons h, List.getElem?_eq_getElem h, Option.getD_some]

set_option maxRecDepth 100000 in
set_option maxHeartbeats 4000000 in
theorem rUnary (p : Nat) (B : List Int) (h8 : AllU8' B) (at_ : Nat) (e0 : Int) (limit : Int) (hl : B.length ≤ 10000000) (hat : at_ ≤ 8 * B.length) (w : World) {F : List Hp} (H : Holds w (rdH p B at_ e0 :: F)) :
    Calls Try.prog 27 #[.pointer (some ⟨p, 0, none⟩), .int .i64 limit] w fun e w' => e = .returned (.int .i64 ((unaryR (unpack B) at_ e0 limit).1 : Int)) ∧ Holds w' (rdH p B (unaryR (unpack B) at_ e0 limit).2.1 (unaryR (unpack B) at_ e0 limit).2.2 :: F) ∧ Calm w w' := by
  have hLl := unpack_length B
  by_cases he : e0 = 0
  · subst he
    obtain ⟨R, hR⟩ : ∃ R, Hid (unaryR (unpack B) at_ 0 limit = R) := ⟨_, Lib.hid rfl⟩
    have hR0 : Hid (unR at_ limit ((unpack B).drop (at_ + 0)) 0 = R) := by show _ = _; rw [← hR.out]; unfold unaryR; rw [if_pos rfl]; rfl
    rw [hR.out]
    clear hR
    go_enter Try.func27, Try.ntmps27
    go_wp2
    go_loopw [5] (fun nv wr => ∃ (i : Nat), nv = .int .i64 (i : Int) ∧ i ≤ 8 * B.length + 1 ∧ Calm w wr ∧ ((at_ + i ≤ 8 * B.length ∧ Holds wr (rdH p B at_ 0 :: F) ∧ Hid (unR at_ limit ((unpack B).drop (at_ + i)) i = R)) ∨ (∃ e, e ≠ 0 ∧ Holds wr (rdH p B at_ e :: F) ∧ Hid ((0, at_, e) = R)))) (fun nv _ => 8 * B.length + 2 - (intOf nv).toNat)
    case atStart => exact ⟨0, rfl, by omega, Calm.refl _, .inl ⟨by omega, H, hR0⟩⟩
    case round =>
      obtain ⟨i, rfl, hi, Q1, ⟨hib, H1, hfin⟩ | ⟨e, he, H1, hfin⟩⟩ := hrel
      · obtain ⟨A, c, H2⟩ := H1.rdOpen
        have hc2 := H2.c 2 (.int .i64 0) rfl
        have hleft := bLeft p B at_ 0 (by omega) (by omega) wr H1
        by_cases hend : at_ + i = 8 * B.length
        · have hd : (unpack B).drop (at_ + i) = [] := List.drop_of_length_le (by rw [hLl, hend]; exact Nat.le_refl _)
          have hfin3 : Hid ((0, at_, 3) = R) := by show _ = _; rw [← hfin.out, hd]; rfl
          have hq : ((i : Int) == 8 * (B.length : Int) - (at_ : Int)) = true := by simp; omega
          have hq2 : 8 * (B.length : Int) - (at_ : Int) = (i : Int) := by omega
          rw [hq2] at hleft
          clear hq
          go_wp2_with fail
          refine hleft.mono ?_
          rintro e w1 ⟨rfl, H3, Q2⟩
          obtain ⟨A3, c3, H4⟩ := H3.rdOpen
          have hf := H4.frozen 2
          have hc4 := H4.c 2 (.int .i64 0) rfl
          have hl4 := H4.lt
          have K := H4.set 2 (.int .i64 3)
          go_wp2
          go_roundw
          case rel => exact ⟨i + 1, by go_num, by omega, (Q1.trans Q2).setCell _ _, .inr ⟨3, by decide, K.rdShut, hfin3⟩⟩
          case measure => simp [intOf]; omega
        · have hlt : at_ + i < 8 * B.length := by omega
          have hd := drop_bit (L := unpack B) (t := at_ + i) (by rw [hLl]; exact hlt)
          have hq : ((i : Int) == 8 * (B.length : Int) - (at_ : Int)) = false := by simp; omega
          obtain ⟨J, hJ⟩ : ∃ J : Int, Hid (8 * (B.length : Int) - (at_ : Int) = J) := ⟨_, Lib.hid rfl⟩
          rw [hJ.out] at hleft hq
          have hqn : ¬ ((i : Int) = J) := by simpa using hq
          go_wp2_with fail
          refine hleft.mono ?_
          rintro e w1 ⟨rfl, H3, Q2⟩
          have hbt := bBit p B h8 at_ 0 i (by omega) hlt w1 H3
          obtain ⟨b, hbb⟩ : ∃ b : Bool, Hid ((unpack B)[at_ + i]?.getD false = b) := ⟨_, Lib.hid rfl⟩
          rw [hbb.out] at hbt hd
          have hfin' := hfin.out
          rw [hd] at hfin'
          obtain ⟨A3, c3, H4⟩ := H3.rdOpen
          have hf := H4.frozen 1
          have hf2 := H4.frozen 2
          have hc4 := H4.c 1 (.int .i64 (at_ : Int)) rfl
          have hc5 := H4.c 2 (.int .i64 0) rfl
          have hl4 := H4.lt
          cases b
          · have hfin3 : Hid ((i, at_ + i + 1, 0) = R) := hfin'
            rw [show ((b2n false : Nat) : Int) = 0 from rfl] at hbt
            have K := H4.set 1 (.int .i64 ((at_ + i + 1 : Nat) : Int))
            have hati : (at_ : Int) ≤ 80000000 := by omega
            have hii : (i : Int) ≤ 80000001 := by omega
            have hsum : (at_ : Int) + ((i : Int) + 1) = ((at_ + i + 1 : Nat) : Int) := by omega
            clear hfin' hd
            go_wp2_with fail
            refine hbt.mono ?_
            rintro e _ ⟨rfl, rfl⟩
            go_wp2
            go_ret
            rw [← hfin3.out]
            exact ⟨rfl, K.rdShut, (Q1.trans Q2).setCell _ _⟩
          · rw [show ((b2n true : Nat) : Int) = 1 from rfl] at hbt
            by_cases hlim : limit ≤ (i : Int)
            · have hfin3 : Hid ((0, at_, 4) = R) := by show _ = _; rw [← hfin', unR, if_pos hlim]
              have K := H4.set 2 (.int .i64 4)
              clear hfin' hd
              go_wp2_with fail
              refine hbt.mono ?_
              rintro e _ ⟨rfl, rfl⟩
              go_wp2
              go_roundw
              case rel => exact ⟨i + 1, by go_num, by omega, (Q1.trans Q2).setCell _ _, .inr ⟨4, by decide, K.rdShut, hfin3⟩⟩
              case measure => simp [intOf]; omega
            · have hfin3 : Hid (unR at_ limit ((unpack B).drop (at_ + (i + 1))) (i + 1) = R) := by show _ = _; rw [← hfin', unR, if_neg hlim]; rfl
              clear hfin' hd
              go_wp2_with fail
              refine hbt.mono ?_
              rintro e _ ⟨rfl, rfl⟩
              go_wp2
              go_roundw
              case rel => exact ⟨i + 1, by go_num, by omega, Q1.trans Q2, .inl ⟨by omega, H3, hfin3⟩⟩
              case measure => simp [intOf]; omega
      · obtain ⟨A, c, H2⟩ := H1.rdOpen
        have hc2 := H2.c 2 (.int .i64 e) rfl
        have hb : (e == 0) = false := by simpa using he
        go_wp2
        go_ret
        rw [← hfin.out]
        exact ⟨rfl, H1, Q1⟩
  · have hr : Hid (unaryR (unpack B) at_ e0 limit = (0, at_, e0)) := by show _ = _; unfold unaryR; rw [if_neg he]
    rw [hr.out]
    have hb : (e0 == 0) = false := by simpa using he
    obtain ⟨A, c, H2⟩ := H.rdOpen
    have hc2 := H2.c 2 (.int .i64 e0) rfl
    go_enter Try.func27, Try.ntmps27
    go_wp2
    refine wp_loop_rounds 1 ?_
    rw [rounds_succ]
    go_wp2
    go_ret
    exact ⟨rfl, H, Calm.refl _⟩

set_option maxRecDepth 100000 in
set_option maxHeartbeats 1000000 in
theorem rAt (p : Nat) (B : List Int) (at_ : Nat) (e0 : Int) (w : World) {F : List Hp} (H : Holds w (rdH p B at_ e0 :: F)) :
    Calls Try.prog 29 #[.pointer (some ⟨p, 0, none⟩)] w fun e w' => e = .returned (.int .i64 (at_ : Int)) ∧ w = w' := by
  obtain ⟨A, c, H2⟩ := H.rdOpen
  have hc2 := H2.c 1 (.int .i64 (at_ : Int)) rfl
  go_enter Try.func29, Try.ntmps29
  go_wp2
  go_ret
  exact ⟨rfl, rfl⟩

set_option maxRecDepth 100000 in
set_option maxHeartbeats 2000000 in
theorem rEndB (p : Nat) (B : List Int) (h8 : AllU8' B) (at_ : Nat) (e0 : Int) (hl : B.length ≤ 10000000) (hat : at_ ≤ 8 * B.length) (w : World) {F : List Hp} (H : Holds w (rdH p B at_ e0 :: F)) :
    Calls Try.prog 30 #[.pointer (some ⟨p, 0, none⟩)] w fun e w' => e = .returned (.int .i64 (endB (unpack B) at_ e0)) ∧ Holds w' (rdH p B at_ e0 :: F) ∧ Calm w w' := by
  have hLl := unpack_length B
  by_cases he : e0 = 0
  · subst he
    have hleft := fun W (K : Holds W (rdH p B at_ 0 :: F)) => bLeft p B at_ 0 (by omega) (by omega) W K
    obtain ⟨J, hJ⟩ : ∃ J : Nat, Hid (8 * B.length - at_ = J) := ⟨_, Lib.hid rfl⟩
    have hJi : 8 * (B.length : Int) - (at_ : Int) = (J : Int) := by have := hJ.out; omega
    rw [hJi] at hleft
    obtain ⟨A, c, H2⟩ := H.rdOpen
    have hc2 := H2.c 2 (.int .i64 0) rfl
    clear hJi
    by_cases h8J : 8 ≤ J
    · have hr : Hid (endB (unpack B) at_ 0 = 2) := by show _ = _; unfold endB; rw [if_neg (by simp), hLl, hJ.out, if_pos h8J]
      rw [hr.out]
      have hJ8 : (8 : Int) ≤ (J : Int) := by omega
      go_enter Try.func30, Try.ntmps30
      go_wp2_with fail
      refine (hleft w H).mono ?_
      rintro e w1 ⟨rfl, H3, Q1⟩
      go_wp2
      go_ret
      exact ⟨rfl, H3, Q1⟩
    · have hr : Hid (endB (unpack B) at_ 0 = if true ∈ (unpack B).drop at_ then 2 else 0) := by show _ = _; unfold endB; rw [if_neg (by simp), hLl, hJ.out, if_neg h8J]
      rw [hr.out]
      have hJ8 : ¬ (8 : Int) ≤ (J : Int) := by omega
      go_enter Try.func30, Try.ntmps30
      go_wp2_with fail
      refine (hleft w H).mono ?_
      rintro e w1 ⟨rfl, H3, Q1⟩
      go_wp2_with fail
      refine (hleft w1 H3).mono ?_
      rintro e w2 ⟨rfl, H4, Q2⟩
      have Q3 := Q1.trans Q2
      clear hleft
      go_wp2
      go_loopw [18] (fun iv wr => ∃ i : Nat, i ≤ J ∧ iv = .int .i64 (i : Int) ∧ w2 = wr ∧ Hid (true ∈ (unpack B).drop at_ ↔ true ∈ (unpack B).drop (at_ + i))) (fun iv _ => J - (intOf iv).toNat)
      case atStart => exact ⟨0, Nat.zero_le _, rfl, rfl, Iff.rfl⟩
      case round =>
        obtain ⟨i, hi, rfl, rfl, hiff⟩ := hrel
        by_cases hik : i < J
        · have hiki : (i : Int) < (J : Int) := by omega
          have hti : at_ + i < 8 * B.length := by have := hJ.out; omega
          have hbt := bBit p B h8 at_ 0 i (by omega) hti w2 H4
          have hd := drop_bit (L := unpack B) (t := at_ + i) (by rw [hLl]; exact hti)
          obtain ⟨b, hbb⟩ : ∃ b : Bool, Hid ((unpack B)[at_ + i]?.getD false = b) := ⟨_, Lib.hid rfl⟩
          rw [hbb.out] at hbt hd
          have hiff' := hiff.out
          rw [hd] at hiff'
          cases b
          · rw [show ((b2n false : Nat) : Int) = 0 from rfl] at hbt
            have hnew : Hid (true ∈ (unpack B).drop at_ ↔ true ∈ (unpack B).drop (at_ + (i + 1))) := by
              show _ ↔ _
              rw [hiff', List.mem_cons]
              simp only [Bool.true_eq_false, false_or]
              rfl
            clear hiff' hd
            go_wp2_with fail
            refine hbt.mono ?_
            rintro e _ ⟨rfl, rfl⟩
            go_wp2
            go_roundw
            case rel => exact ⟨i + 1, by omega, by go_num, by simp, hnew⟩
            case measure => simp [intOf]; omega
          · rw [show ((b2n true : Nat) : Int) = 1 from rfl] at hbt
            have hin : Hid (true ∈ (unpack B).drop at_) := hiff'.2 (by simp)
            clear hiff' hd
            go_wp2_with fail
            refine hbt.mono ?_
            rintro e _ ⟨rfl, rfl⟩
            go_wp2
            go_ret
            try rw [if_pos hin.out]
            exact ⟨rfl, H4, Q3⟩
        · obtain rfl : i = J := by omega
          have hno : Hid (¬ true ∈ (unpack B).drop at_) := fun h => by
            have h2 := hiff.out.1 h
            rw [List.drop_of_length_le (by rw [hLl]; have := hJ.out; omega)] at h2
            simp at h2
          go_wp2
          go_ret
          try rw [if_neg hno.out]
          exact ⟨rfl, H4, Q3⟩
  · have hr : Hid (endB (unpack B) at_ e0 = e0) := by show _ = _; unfold endB; rw [if_pos he]
    rw [hr.out]
    have hb : (e0 == 0) = false := by simpa using he
    obtain ⟨A, c, H2⟩ := H.rdOpen
    have hc2 := H2.c 2 (.int .i64 e0) rfl
    go_enter Try.func30, Try.ntmps30
    go_wp2
    go_ret
    exact ⟨rfl, H, Calm.refl _⟩
end Go.Proofs.Ytkkhpdbognaioaa
