/- The contracts of the reference model's encodings. -/
import Derived.Test.YthkmfmcofkcjeaaWireVal
namespace Go.Proofs.Ythkmfmcofkcjeaa
set_option linter.unusedVariables false
set_option linter.unusedSimpArgs false
open Go.RowKit Go.Shelf Go.Proofs.YthkmfmcofkcjeaaW.PrintWords Go.Proofs.YthkmfmcofkcjeaaW.PrintLast Go.Proofs.YthkmfmcofkcjeaaW.PrintMore

set_option maxRecDepth 100000 in
set_option maxHeartbeats 2000000 in
theorem xUint (n : Nat) (hn : n < 18446744073709551616) (w : World) {F : List Hp} (H : Holds w F) :
    Calls Try.prog 44 #[.int .u64 (n : Int)] w fun e w' => ∃ A c, e = .returned (.slice A (encN n).length c) ∧ Holds w' (rowH (Kd.int .u8) 5 (.slice A (encN n).length c) (encN n) :: F) ∧ (encN n).length ≤ c ∧ Calm w w' := by
  have hfl := encN_len 9 n (by simp only [Nat.reducePow, Nat.reduceAdd]; omega)
  obtain ⟨E, hE⟩ : ∃ E : List Int, Hid (encN n = E) := ⟨_, Lib.hid rfl⟩
  rw [hE.out] at hfl
  rw [hE.out]
  go_enter Try.func44, Try.ntmps44
  go_wp2
  go_loopw [0, 3] (fun nv ov wr => ∃ (m : Nat) (B : List Int) (A : Option Addr) (c : Nat), nv = .int .u64 (m : Int) ∧ ov = .slice A B.length c ∧ m < 18446744073709551616 ∧ Hid (B ++ encN m = E) ∧ Holds wr (rowH (Kd.int .u8) 5 (.slice A B.length c) B :: F) ∧ Calm w wr) (fun nv _ _ => (intOf nv).toNat)
  case atStart => exact ⟨n, [], none, 0, rfl, rfl, hn, hE, H.nilRow _ _, Calm.refl _⟩
  case round =>
    obtain ⟨m, B, A, c, rfl, rfl, hm64, hB, H1, Q1⟩ := hrel
    have hl1 : (B.length + 1) * 1 ≤ 140737488355328 := by
      have h1 := congrArg List.length hB.out
      rw [List.length_append] at h1
      omega
    by_cases hm : 127 < m
    · have hmi : (127 : Int) < (m : Int) := by omega
      go_wp2_with (at_builtin; go_must (refine H_append_int .u8 rfl (.tmp 6) (.tmp 11) 24 5 1 rfl Try.underlying24 info_u8 (by decide) (.slice A B.length c) B _ rfl rfl H1 hl1 ?_; intro B1 A1 c1 w1 hB1 K1 k1 Q2))
      go_roundw
      case rel =>
        refine ⟨m / 128, B1, A1, c1, by go_num, rfl, by omega, ?_, K1, Q1.trans Q2⟩
        show _ = _
        rw [hB1.out, List.append_assoc, ← hB.out, encN_ge (n := m) (by omega)]
        congr 2
        simp
        omega
      case measure => simp [intOf]; omega
    · have hmi : ¬ (127 : Int) < (m : Int) := by omega
      go_wp2_with (at_builtin; go_must (refine H_append_int .u8 rfl (.tmp 15) (.tmp 18) 24 5 1 rfl Try.underlying24 info_u8 (by decide) (.slice A B.length c) B _ rfl rfl H1 hl1 ?_; intro B1 A1 c1 w1 hB1 K1 k1 Q2))
      go_ret
      have e : E = B1 := by
        rw [hB1.out, ← hB.out, encN_lt (n := m) (by omega)]
      rw [e]
      exact ⟨A1, c1, rfl, K1, k1, Q1.trans Q2⟩

set_option maxRecDepth 100000 in
set_option maxHeartbeats 1000000 in
theorem xZigzag (n : Int) (hn : I64 n) (w : World) : Calls Try.prog 62 #[.int .i64 n] w fun e w' => e = .returned (.int .u64 ((zz n : Nat) : Int)) ∧ w = w' := by
  have h1 := hn.1
  have h2 := hn.2
  clear hn
  by_cases h : n < 0
  · have e : ((zz n : Nat) : Int) = 2 * -(n + 1) + 1 := by unfold zz; rw [if_pos h]; omega
    rw [e]
    clear e
    go_enter Try.func62, Try.ntmps62
    go_wp2
    go_ret
    exact ⟨rfl, rfl⟩
  · have e : ((zz n : Nat) : Int) = 2 * n := by unfold zz; rw [if_neg h]; omega
    rw [e]
    clear e
    go_enter Try.func62, Try.ntmps62
    go_wp2
    go_ret
    exact ⟨rfl, rfl⟩

set_option maxRecDepth 100000 in
set_option maxHeartbeats 1000000 in
theorem xInt (n : Int) (hn : I64 n) (w : World) {F : List Hp} (H : Holds w F) :
    Calls Try.prog 45 #[.int .i64 n] w fun e w' => ∃ A c, e = .returned (.slice A (encN (zz n)).length c) ∧ Holds w' (rowH (Kd.int .u8) 5 (.slice A (encN (zz n)).length c) (encN (zz n)) :: F) ∧ (encN (zz n)).length ≤ c ∧ Calm w w' := by
  have hz := zz_lt n hn.1 hn.2
  have hx := fun W (H : Holds W F) => xUint (zz n) hz W H
  obtain ⟨E, hE⟩ : ∃ E : List Int, Hid (encN (zz n) = E) := ⟨_, Lib.hid rfl⟩
  rw [hE.out] at hx
  rw [hE.out]
  go_enter Try.func45, Try.ntmps45
  go_wp2_with fail
  refine (xZigzag n hn w).mono ?_
  rintro e _ ⟨rfl, rfl⟩
  go_wp2_with fail
  refine (hx w H).mono ?_
  rintro e w1 ⟨A, c, rfl, H1, hc, Q1⟩
  go_wp2
  go_ret
  exact ⟨A, c, rfl, H1, hc, Q1⟩

set_option maxRecDepth 100000 in
set_option maxHeartbeats 1000000 in
theorem xBool (b : Bool) (w : World) {F : List Hp} (H : Holds w F) :
    Calls Try.prog 46 #[.bool b] w fun e w' => ∃ A c, e = .returned (.slice A 1 c) ∧ Holds w' (rowH (Kd.int .u8) 5 (.slice A 1 c) [if b = true then 1 else 0] :: F) ∧ 1 ≤ c ∧ Calm w w' := by
  cases b
  · have H1 := H.lit .u8 5 [0] (by decide)
    go_enter Try.func46, Try.ntmps46
    go_wp2
    go_ret
    exact ⟨_, 1, rfl, H1, Nat.le_refl _, (Calm.refl w).alloc _⟩
  · have H1 := H.lit .u8 5 [1] (by decide)
    go_enter Try.func46, Try.ntmps46
    go_wp2
    go_ret
    exact ⟨_, 1, rfl, H1, Nat.le_refl _, (Calm.refl w).alloc _⟩

set_option maxRecDepth 100000 in
set_option maxHeartbeats 1000000 in
theorem xRaw (A0 : Option Addr) (c0 : Nat) (l : List Int) (hl : l.length ≤ 100000000000000) (w : World) {F : List Hp} (H : Holds w F) (hR : Rd (Kd.int .u8) F A0 l.length l) :
    Calls Try.prog 47 #[.slice A0 l.length c0] w fun e w' => ∃ A c, e = .returned (.slice A (encN l.length ++ l).length c) ∧ Holds w' (rowH (Kd.int .u8) 5 (.slice A (encN l.length ++ l).length c) (encN l.length ++ l) :: F) ∧ (encN l.length ++ l).length ≤ c ∧ Calm w w' := by
  have hfl := encN_len 9 l.length (by simp only [Nat.reducePow, Nat.reduceAdd]; omega)
  have hx := fun W (H : Holds W F) => xUint l.length (by omega) W H
  obtain ⟨E, hE⟩ : ∃ E : List Int, Hid (encN l.length = E) := ⟨_, Lib.hid rfl⟩
  rw [hE.out] at hx hfl
  rw [hE.out]
  obtain ⟨R, hR0⟩ : ∃ E' : List Int, Hid (E' = E ++ l) := ⟨_, Lib.hid rfl⟩
  rw [← hR0.out]
  go_enter Try.func47, Try.ntmps47
  go_wp2_with fail
  refine (hx w H).mono ?_
  rintro e w1 ⟨A, c, rfl, H1, hc, Q1⟩
  have hC := hR w1 H1.drop
  have hl1 : (E.length + l.length) * 1 ≤ 140737488355328 := by omega
  go_wp2_with (at_builtin; go_must (refine H_append_ints .u8 rfl (.tmp 6) (.tmp 7) 24 5 1 rfl Try.underlying24 info_u8 (by decide) (.slice A E.length c) E l A0 l.length c0 rfl rfl H1 hC hl1 ?_; intro B1 A1 c1 w2 hB1 K1 k1 Q2))
  go_ret
  have hB2 := hB1.out
  rw [← hR0.out] at hB2
  subst hB2
  exact ⟨A1, c1, rfl, K1, k1, Q1.trans Q2⟩

set_option maxRecDepth 100000 in
set_option maxHeartbeats 1000000 in
theorem xInts (A0 : Option Addr) (c0 : Nat) (l : List Int) (h64 : ∀ x ∈ l, I64 x) (hl : l.length ≤ 10000000000000) (w : World) {F : List Hp} (H : Holds w F) (hR : Rd (Kd.int .i64) F A0 l.length l) :
    Calls Try.prog 48 #[.slice A0 l.length c0] w fun e w' => ∃ A c, e = .returned (.slice A (encN l.length ++ encInts l).length c) ∧ Holds w' (rowH (Kd.int .u8) 5 (.slice A (encN l.length ++ encInts l).length c) (encN l.length ++ encInts l) :: F) ∧ (encN l.length ++ encInts l).length ≤ c ∧ Calm w w' := by
  have hfl := encN_len 9 l.length (by simp only [Nat.reducePow, Nat.reduceAdd]; omega)
  have hx := fun W (H : Holds W F) => xUint l.length (by omega) W H
  have H64 := Lib.hid h64
  clear h64
  obtain ⟨E, hE⟩ : ∃ E : List Int, Hid (encN l.length = E) := ⟨_, Lib.hid rfl⟩
  rw [hE.out] at hx hfl
  rw [hE.out]
  obtain ⟨R, hR0⟩ : ∃ E' : List Int, Hid (E ++ encInts l = E') := ⟨_, Lib.hid rfl⟩
  rw [hR0.out]
  go_enter Try.func48, Try.ntmps48
  go_wp2_with fail
  refine (hx w H).mono ?_
  rintro e w1 ⟨A, c, rfl, H1, hc, Q1⟩
  go_wp2
  go_loopw [3, 4] (fun ov iv wr => ∃ (k : Nat) (B : List Int) (A : Option Addr) (c : Nat), k ≤ l.length ∧ iv = .int .i64 (k : Int) ∧ ov = .slice A B.length c ∧ Hid (B = E ++ encInts (l.take k)) ∧ B.length ≤ 10 + 10 * k ∧ Holds wr (rowH (Kd.int .u8) 5 (.slice A B.length c) B :: F) ∧ Calm w wr) (fun _ iv _ => l.length - (intOf iv).toNat)
  case atStart => exact ⟨0, E, A, c, Nat.zero_le _, rfl, rfl, by simp [Hid, encInts], by omega, H1, Q1⟩
  case round =>
    clear H1 Q1 hc
    obtain ⟨k, B, A, c, hk, rfl, rfl, hB, hBl, H1, Q1⟩ := hrel
    by_cases hlt : k < l.length
    · obtain ⟨ad, e1, hcell⟩ := at_nat (hR _ H1.drop) hlt
      have hx1 : l[k]?.getD 0 = l[k] := by simp [hlt]
      have h64 := H64.out l[k] (List.getElem_mem hlt)
      have htk : Hid (l.take (k + 1) = l.take k ++ [l[k]]) := List.take_succ_eq_append_getElem hlt
      rw [hx1] at hcell
      clear hx1
      generalize l[k] = x at *
      subst e1
      have hi1 : (k : Int) < (l.length : Int) := by omega
      have hzl := encN_len 9 (zz x) (by have := zz_lt x h64.1 h64.2; simp only [Nat.reducePow, Nat.reduceAdd]; omega)
      have hxi := fun W (H : Holds W (rowH (Kd.int .u8) 5 (.slice A B.length c) B :: F)) => xInt x h64 W H
      obtain ⟨Z, hZ⟩ : ∃ Z : List Int, Hid (encN (zz x) = Z) := ⟨_, Lib.hid rfl⟩
      rw [hZ.out] at hxi hzl
      go_wp2_with fail
      refine (hxi wr H1).mono ?_
      rintro e w2 ⟨A2, c2, rfl, H2, hc2, Q2⟩
      have hC := H2.row'.2.2
      have hl1 : (B.length + Z.length) * 1 ≤ 140737488355328 := by omega
      go_wp2_with (at_builtin; go_must (refine H_append_ints .u8 rfl (.tmp 15) (.tmp 20) 24 5 1 rfl Try.underlying24 info_u8 (by decide) (.slice A B.length c) B Z A2 Z.length c2 rfl rfl H2.f2 hC hl1 ?_; intro B1 A1 c1 w3 hB1 K1 k1 Q3))
      go_roundw
      case rel => exact ⟨k + 1, B1, A1, c1, by omega, by go_num, rfl, by show _ = _; rw [htk.out, encInts_append, hB1.out, hB.out, ← hZ.out]; simp [encInts], by rw [hB1.out, List.length_append]; omega, K1.f2.drop, (Q1.trans Q2).trans Q3⟩
      case measure => simp [intOf]; omega
    · obtain rfl : k = l.length := by omega
      have hB' := hB.out
      rw [List.take_length, hR0.out] at hB'
      subst hB'
      go_wp2
      go_ret
      obtain ⟨_, _, hlen, hle, _⟩ := H1.row
      cases hlen
      exact ⟨A, c, rfl, H1, hle, Q1⟩
end Go.Proofs.Ythkmfmcofkcjeaa
