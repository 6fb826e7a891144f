/- The contracts of the reference's small functions (section 14), of the laws' low and write. -/
import Derived.Test.YtkkhpdbognaioaaBitsOne
namespace Go.Proofs.Ytkkhpdbognaioaa
set_option linter.unusedVariables false
set_option linter.unusedSimpArgs false
open Go.RowKit Go.Shelf Go.Proofs.YtkkhpdbognaioaaW.PrintWords Go.Proofs.YtkkhpdbognaioaaW.PrintLast Go.Proofs.YtkkhpdbognaioaaW.PrintMore

theorem info_bool : (Try.prog.info? 4).map (fun i => (i.zero, i.size, i.bytes)) = some (some (.bool false), Kd.bool.sz, 1) := by kernel_rfl
theorem Holds.eltBool {w : World} {F : List Hp} (h : Holds w F) (b : Bool) : Holds w (eltH Kd.bool b [.bool b] :: F) := h.emp.imp (fun _ _ _ => rfl)

set_option maxRecDepth 100000 in
set_option maxHeartbeats 1000000 in
theorem Count_calls (n : Int) (w : World) : Calls Try.prog 50 #[.int .i64 n] w fun e w' => e = .returned (.int .i64 (clampN n 64 : Int)) ∧ w = w' := by
  go_enter Try.func50, Try.ntmps50
  go_wp2
  all_goals
    go_ret
    refine ⟨ret_int ?_, rfl⟩
    unfold clampN
    omega
set_option maxRecDepth 100000 in
set_option maxHeartbeats 1000000 in
theorem low_calls (n : Nat) (hn : n < 18446744073709551616) (count : Int) (w : World) : Calls Try.prog 32 #[.int .u64 (n : Int), .int .i64 count] w fun e w' => e = .returned (.int .u64 ((n % 2 ^ clampN count 64 : Nat) : Int)) ∧ w = w' := by
  obtain ⟨k, hk⟩ : ∃ k : Nat, Hid (clampN count 64 = k) := ⟨_, Lib.hid rfl⟩
  have hk64 : k ≤ 64 := by rw [← hk.out]; exact clampN_le _ _
  have hcl := Count_calls count w
  rw [hk.out] at hcl
  rw [hk.out]
  by_cases h64 : k = 64
  · subst h64
    have h2 : n % 2 ^ 64 = n := Nat.mod_eq_of_lt (by simpa using hn)
    rw [h2]
    go_enter Try.func32, Try.ntmps32
    go_wp2_with fail
    refine hcl.mono ?_
    rintro e _ ⟨rfl, rfl⟩
    go_wp2
    go_ret
    exact ⟨rfl, rfl⟩
  · have hkb : ((k : Int) == 64) = false := by simp; omega
    have hkn : ¬ (k : Int) = 64 := by omega
    have hpow : 2 ^ k ≤ 2 ^ 63 := Nat.pow_le_pow_right (by decide) (by omega)
    have h63 : (2 : Nat) ^ 63 = 9223372036854775808 := by decide
    have hpos : 0 < 2 ^ k := Nat.two_pow_pos k
    have hw : IntKind.u64.wrap (2 ^ k) = ((2 ^ k : Nat) : Int) := by
      rw [IntKind.wrap_u64]
      have : (2 : Int) ^ k = ((2 ^ k : Nat) : Int) := by simp
      rw [this]
      omega
    have hki : (k : Int) ≤ 64 := by omega
    have hne : ¬ ((2 : Int) ^ k = 0) := by
      have : (2 : Int) ^ k = ((2 ^ k : Nat) : Int) := by simp
      rw [this]
      omega
    go_enter Try.func32, Try.ntmps32
    go_wp2_with fail
    refine hcl.mono ?_
    rintro e _ ⟨rfl, rfl⟩
    go_wp2
    go_ret
    exact ⟨ret_int (by simp), rfl⟩

set_option maxRecDepth 100000 in
set_option maxHeartbeats 2000000 in
theorem xBits (n : Nat) (hn : n < 18446744073709551616) (count : Int) (w : World) {F : List Hp} (H : Holds w F) :
    Calls Try.prog 45 #[.int .u64 (n : Int), .int .i64 count] w fun e w' => ∃ A c, e = .returned (.slice A (bitsN n (clampN count 64)).length c) ∧ Holds w' (rowH Kd.bool 4 (.slice A (bitsN n (clampN count 64)).length c) (bitsN n (clampN count 64)) :: F) ∧ (bitsN n (clampN count 64)).length ≤ c ∧ Calm w w' := by
  obtain ⟨k, hk⟩ : ∃ k : Nat, Hid (clampN count 64 = k) := ⟨_, Lib.hid rfl⟩
  have hk64 : k ≤ 64 := by rw [← hk.out]; exact clampN_le _ _
  have hcl := Count_calls count w
  rw [hk.out] at hcl
  rw [hk.out]
  go_enter Try.func45, Try.ntmps45
  go_wp2_with fail
  refine hcl.mono ?_
  rintro e _ ⟨rfl, rfl⟩
  go_wp2
  go_loopw [5, 6] (fun o iv wr => ∃ (j : Nat) (out : List Bool) (A : Option Addr) (c : Nat), j ≤ k ∧ iv = .int .i64 ((k : Int) - 1 - j) ∧ o = .slice A out.length c ∧ Hid (out = (bitsN n k).take j) ∧ out.length ≤ 64 ∧ Holds wr (rowH Kd.bool 4 (.slice A out.length c) out :: F) ∧ Calm w wr) (fun _ iv _ => (intOf iv + 1).toNat)
  case atStart => exact ⟨0, [], none, 0, Nat.zero_le _, by go_num, rfl, rfl, by simp, H.nilRow Kd.bool 4, Calm.refl _⟩
  case round =>
    obtain ⟨j, out, A, c, hj, rfl, rfl, hout, hol, H1, Q1⟩ := hrel
    by_cases hlt : j < k
    · obtain ⟨x, hx⟩ : ∃ x : Nat, Hid ((k : Int) - 1 - j = (x : Int) ∧ k - 1 - j = x) := ⟨k - 1 - j, by constructor <;> omega⟩
      have hge : (0 : Int) ≤ (x : Int) := by omega
      have hx1 : (x : Int) < 64 := by have := hx.out.2; omega
      have hjl : j < (bitsN n k).length := by rw [bitsN_length]; exact hlt
      have hnew : Hid ((bitsN n k).take (j + 1) = out ++ [decide (n / 2 ^ x % 2 = 1)]) := by
        show _ = _
        have hg := bitsN_get n k j hlt
        rw [List.getElem?_eq_getElem hjl] at hg
        rw [List.take_succ_eq_append_getElem hjl, hout.out, Option.some.inj hg, hx.out.2]
      have hnl : out.length + 1 ≤ 64 := by rw [hout.out, List.length_take]; omega
      obtain ⟨y, hy⟩ : ∃ y : Nat, Hid (n / 2 ^ x = y) := ⟨_, Lib.hid rfl⟩
      rw [hy.out] at hnew
      have hy1 : ((n : Int) / 2 ^ x) = (y : Int) := by rw [← hy.out]; simp
      have hy2 : y < 18446744073709551616 := by rw [← hy.out]; exact Nat.lt_of_le_of_lt (Nat.div_le_self _ _) hn
      have hl1 : (out.length + 1) * 1 ≤ 140737488355328 := by omega
      have hE := H1.eltBool (decide (y % 2 = 1))
      have hyb : ((y : Int) % 2 == 1) = decide (y % 2 = 1) := by
        rw [Bool.eq_iff_iff, beq_iff_eq, decide_eq_true_iff]
        omega
      rw [hx.out.1]
      go_wp2_with (at_builtin; go_must (refine H_append Kd.bool rfl (.tmp 14) (.tmp 21) 32 4 _ 1 rfl Try.underlying32 info_bool rfl (by decide) (by decide) (.slice A out.length c) out (decide (y % 2 = 1)) [.bool (decide (y % 2 = 1))] rfl rfl hE hl1 ?_; intro B1 A1 c1 w1 hB1 K1 k1 Q2))
      go_roundw
      case rel => exact ⟨j + 1, B1, A1, c1, by omega, int_eq (by have := hx.out.1; omega), rfl, by show _ = _; rw [hB1.out, hnew.out], by rw [hB1.out]; simp; omega, K1, Q1.trans Q2⟩
      case measure => simp [intOf]; try omega
    · obtain rfl : j = k := by omega
      have hh := hout.out
      rw [List.take_of_length_le (by rw [bitsN_length]; exact Nat.le_refl _)] at hh
      subst hh
      go_wp2
      go_ret
      exact ⟨A, c, rfl, H1, H1.row'.2.1, Q1⟩
end Go.Proofs.Ytkkhpdbognaioaa
