/- The contracts of package bits' Writer: Unary, Len, Done; the Reader's first ones. -/
import Derived.Test.YtkkhpdbognaioaaBitsW2
namespace Go.Proofs.Ytkkhpdbognaioaa
set_option linter.unusedVariables false
set_option linter.unusedSimpArgs false
open Go.RowKit Go.Shelf Go.Proofs.YtkkhpdbognaioaaW.PrintWords Go.Proofs.YtkkhpdbognaioaaW.PrintLast Go.Proofs.YtkkhpdbognaioaaW.PrintMore

set_option maxRecDepth 100000 in
set_option maxHeartbeats 2000000 in
theorem bUnary (p : Nat) (l : List Bool) (n : Int) (hl : l.length ≤ 900000000000) (w : World) {F : List Hp} (H : Holds w (bwH p l :: F)) :
    Calls Try.prog 34 #[.pointer (some ⟨p, 0, none⟩), .int .i64 n] w fun e w' => e = .returned (.tuple #[]) ∧ Holds w' (bwH p (l ++ unaryB (clampN n 65536)) :: F) ∧ Calm w w' := by
  obtain ⟨k, hk⟩ : ∃ k : Nat, Hid (clampN n 65536 = k) := ⟨_, Lib.hid rfl⟩
  have hk64 : k ≤ 65536 := by rw [← hk.out]; exact clampN_le _ _
  have hcl := clamp_calls n 65536 (by omega) w
  rw [hk.out] at hcl
  rw [hk.out]
  go_enter Try.func34, Try.ntmps34
  go_wp2_with fail
  refine hcl.mono ?_
  rintro e _ ⟨rfl, rfl⟩
  go_wp2
  go_loopw [6] (fun iv wr => ∃ i : Nat, i ≤ k ∧ iv = .int .i64 (i : Int) ∧ Holds wr (bwH p (l ++ List.replicate i true) :: F) ∧ Calm w wr) (fun iv _ => k - (intOf iv).toNat)
  case atStart => exact ⟨0, Nat.zero_le _, rfl, by simpa using H, Calm.refl _⟩
  case round =>
    obtain ⟨i, hi, rfl, H1, Q1⟩ := hrel
    have hll : (l ++ List.replicate i true).length ≤ 1000000000000 := by rw [List.length_append, List.length_replicate]; omega
    by_cases hlt : i < k
    · have hii : (i : Int) < (k : Int) := by omega
      have hp := bPush p _ 1 (by decide) hll wr H1
      rw [show decide ((1 : Int) % 2 = 1) = true from rfl, List.append_assoc, ← List.replicate_succ'] at hp
      go_wp2_with fail
      refine hp.mono ?_
      rintro e w1 ⟨rfl, H2, Q2⟩
      go_wp2
      go_roundw
      case rel => exact ⟨i + 1, by omega, by go_num, H2, Q1.trans Q2⟩
      case measure => simp [intOf]; omega
    · obtain rfl : i = k := by omega
      have hp := bPush p _ 0 (by decide) hll wr H1
      rw [show decide ((0 : Int) % 2 = 1) = false from rfl, List.append_assoc] at hp
      go_wp2_with fail
      refine hp.mono ?_
      rintro e w1 ⟨rfl, H2, Q2⟩
      go_wp2
      go_end0
      exact ⟨rfl, H2, Q1.trans Q2⟩
set_option maxRecDepth 100000 in
set_option maxHeartbeats 1000000 in
theorem bLen (p : Nat) (l : List Bool) (w : World) {F : List Hp} (H : Holds w (bwH p l :: F)) :
    Calls Try.prog 16 #[.pointer (some ⟨p, 0, none⟩)] w fun e w' => e = .returned (.int .i64 (l.length : Int)) ∧ w = w' := by
  obtain ⟨v, H2⟩ := H.bwOpen
  have hc1 := H2.c 1 (.int .i64 (l.length : Int)) rfl
  generalize l.length = L at *
  go_enter Try.func16, Try.ntmps16
  go_wp2
  go_ret
  exact ⟨rfl, rfl⟩

set_option maxRecDepth 100000 in
set_option maxHeartbeats 1000000 in
theorem bclone_u8 (A : Option Addr) (c : Nat) (l : List Int) (hl : l.length ≤ 140737488355328) (w : World) {F : List Hp} (H : Holds w F) (hC : (Kd.int .u8).C w A l.length l) :
    Calls Try.prog 46 #[.slice A l.length c] w fun e w' => ∃ A' c', e = .returned (.slice A' l.length c') ∧ Holds w' (rowH (Kd.int .u8) 5 (.slice A' l.length c') l :: F) ∧ l.length ≤ c' ∧ Calm w w' := by
  cases A with
  | none =>
    have h0 : l = [] := by
      have h := (Kd.reads_of_C (d := (0 : Int)) (h1 := fun _ => rfl) hC).2.2
      rcases l with _ | ⟨x, l⟩
      · rfl
      · obtain ⟨ad, e, _⟩ := h (by simp)
        cases e
    subst h0
    have he : (binOp .eql 29 (.slice none 0 c) (.slice none 0 0)).run Try.prog w = .ok (.bool true) w := Lib.run_eql_slice_nil w 29 5 none 0 c 0 0 Try.underlying29
    go_enter Try.func46, Try.ntmps46
    go_wp2
    go_ret
    exact ⟨none, 0, rfl, H.nilRow _ _, Nat.le_refl _, Calm.refl _⟩
  | some ad =>
    have HC := Kd.C_alloc hC (.cells #[] 5)
    have H0 := H.litNil .u8 5
    have hl1 : ([] : List Int).length + l.length ≤ 140737488355328 := by simpa using hl
    have he : (binOp .eql 29 (.slice (some ad) l.length c) (.slice none 0 0)).run Try.prog w = .ok (.bool false) w := Lib.run_eql_slice_nil w 29 5 (some ad) l.length c 0 0 Try.underlying29
    go_enter Try.func46, Try.ntmps46
    go_wp2_with (at_builtin; go_must (refine H_append_ints .u8 rfl (.tmp 5) (.tmp 6) 29 5 1 rfl Try.underlying29 info_u8 (by decide) (.slice (some ⟨w.heap.size, 0, none⟩) 0 0) [] l (some ad) l.length c rfl rfl H0 HC (by omega) ?_; intro B1 A1 c1 w2 hB1 K1 k1 Q2))
    go_ret
    rw [List.nil_append] at hB1
    have hB2 := hB1.out
    subst hB2
    exact ⟨A1, c1, rfl, K1, k1, (Calm.refl w).alloc _ |>.trans Q2⟩


set_option maxRecDepth 100000 in
set_option maxHeartbeats 1000000 in
theorem bDone (p : Nat) (l : List Bool) (hl : l.length ≤ 1000000000000) (w : World) {F : List Hp} (H : Holds w (bwH p l :: F)) :
    Calls Try.prog 18 #[.pointer (some ⟨p, 0, none⟩)] w fun e w' => ∃ A c, e = .returned (.slice A (pack l).length c) ∧ Holds w' (rowH (Kd.int .u8) 5 (.slice A (pack l).length c) (pack l) :: bwH p l :: F) ∧ (pack l).length ≤ c ∧ Calm w w' := by
  obtain ⟨v, H2⟩ := H.bwOpen
  obtain ⟨A, c, rfl, _, hC⟩ := H2.f2.row
  have hpl : (pack l).length ≤ 140737488355328 := by rw [pack_length]; unfold nbytes; omega
  have hcl := bclone_u8 A c (pack l) hpl w H2 hC
  obtain ⟨P, hP⟩ : ∃ P : List Int, Hid (pack l = P) := ⟨_, Lib.hid rfl⟩
  rw [hP.out] at H2 hcl
  rw [hP.out]
  have hc := H2.c 0 (.slice A P.length c) rfl
  go_enter Try.func18, Try.ntmps18
  go_wp2_with fail
  refine hcl.mono ?_
  rintro e w1 ⟨A1, c1, rfl, H3, h3, Q1⟩
  go_wp2
  go_ret
  refine ⟨A1, c1, rfl, ?_, h3, Q1⟩
  have H4 := H3.b3
  rw [← hP.out] at H4 ⊢
  exact H4.bwShut.f2

/-! ### the Reader -/
/-- A Reader behind the pointer p: its bytes, its position, its error. -/
def rdH (p : Nat) (B : List Int) (at_ : Nat) (e : Int) : Hp := exH fun A => exH fun c => sepL [blkH p 78 #[.slice A B.length c, .int .i64 (at_ : Int), .int .i64 e], viewH .u8 A B]
theorem Holds.rdOpen {w : World} {p at_ : Nat} {B : List Int} {e : Int} {F : List Hp} (h : Holds w (rdH p B at_ e :: F)) : ∃ A c, Holds w (blkH p 78 #[.slice A B.length c, .int .i64 (at_ : Int), .int .i64 e] :: viewH .u8 A B :: F) := by
  obtain ⟨A, h⟩ := h.ex
  obtain ⟨c, h⟩ := h.ex
  exact ⟨A, c, h.parts⟩
theorem Holds.rdShut {w : World} {p at_ : Nat} {B : List Int} {e : Int} {F : List Hp} {A : Option Addr} {c : Nat} (h : Holds w (blkH p 78 #[.slice A B.length c, .int .i64 (at_ : Int), .int .i64 e] :: viewH .u8 A B :: F)) : Holds w (rdH p B at_ e :: F) := Holds.mk A (Holds.mk c (Holds.group h))
set_option maxRecDepth 100000 in
set_option maxHeartbeats 1000000 in
theorem bRead (A : Option Addr) (c : Nat) (B : List Int) (hl : B.length ≤ 140737488355328) (w : World) {F : List Hp} (H : Holds w F) (hC : (Kd.int .u8).C w A B.length B) :
    Calls Try.prog 22 #[.slice A B.length c] w fun e w' => ∃ p, e = .returned (.pointer (some ⟨p, 0, none⟩)) ∧ Holds w' (rdH p B 0 0 :: F) ∧ Calm w w' := by
  go_enter Try.func22, Try.ntmps22
  go_wp2_with fail
  refine (bclone_u8 A c B hl w H hC).mono ?_
  rintro e w1 ⟨A1, c1, rfl, H1, h1, Q1⟩
  have H2 := H1.view.box 78 #[.slice A1 B.length c1, .int .i64 0, .int .i64 0]
  go_wp2
  go_ret
  exact ⟨_, rfl, H2.rdShut, Q1.alloc _⟩
set_option maxRecDepth 100000 in
set_option maxHeartbeats 1000000 in
theorem bLeft (p : Nat) (B : List Int) (at_ : Nat) (e0 : Int) (hl : B.length ≤ 10000000000) (hat : at_ ≤ 100000000000) (w : World) {F : List Hp} (H : Holds w (rdH p B at_ e0 :: F)) :
    Calls Try.prog 48 #[.pointer (some ⟨p, 0, none⟩)] w fun e w' => e = .returned (.int .i64 (8 * (B.length : Int) - (at_ : Int))) ∧ Holds w' (rdH p B at_ e0 :: F) ∧ Calm w w' := by
  have H' := H.drew
  obtain ⟨A, c, H2⟩ := H.rdOpen
  have hc0 := H2.c 0 (.slice A B.length c) rfl
  have hc1 := H2.c 1 (.int .i64 (at_ : Int)) rfl
  generalize B.length = L at *
  go_enter Try.func48, Try.ntmps48
  go_wp2
  go_region
  go_wp2
  go_ret
  exact ⟨rfl, H', (Calm.refl w).drew⟩
set_option maxRecDepth 100000 in
set_option maxHeartbeats 1000000 in
theorem bBit (p : Nat) (B : List Int) (h8 : AllU8' B) (at_ : Nat) (e0 : Int) (s : Nat) (hl : B.length ≤ 10000000000) (ht : at_ + s < 8 * B.length) (w : World) {F : List Hp} (H : Holds w (rdH p B at_ e0 :: F)) :
    Calls Try.prog 49 #[.pointer (some ⟨p, 0, none⟩), .int .i64 (s : Int)] w fun e w' => e = .returned (.int .u64 ((b2n ((unpack B)[at_ + s]?.getD false) : Nat) : Int)) ∧ w = w' := by
  obtain ⟨A, c, H2⟩ := H.rdOpen
  obtain ⟨t, htt⟩ : ∃ t : Nat, Hid (at_ + s = t) := ⟨_, Lib.hid rfl⟩
  have ht8 : t / 8 < B.length := by have := htt.out; omega
  have hg := unpack_get B t ht8
  rw [htt.out, hg, Option.getD_some, b2n_decide]
  obtain ⟨ad, had, hcell⟩ := at_nat H2.drop.viewC ht8
  subst had
  have hx := h8 B[t / 8] (List.getElem_mem ht8)
  rw [show B[t / 8]?.getD 0 = B[t / 8] by simp [ht8]] at hcell
  generalize B[t / 8] = x at *
  have hc0 := H2.c 0 (.slice (some ad) B.length c) rfl
  have hc1 := H2.c 1 (.int .i64 (at_ : Int)) rfl
  have hx0 := hx.1
  have hx1 := hx.2
  clear hx hg
  rw [← htt.out] at hcell
  generalize B.length = L at *
  go_enter Try.func49, Try.ntmps49
  go_wp2
  go_ret
  refine ⟨ret_int ?_, rfl⟩
  rw [htt.out]
  obtain ⟨X, hX⟩ : ∃ X : Nat, x = (X : Int) := ⟨x.toNat, by omega⟩
  subst hX
  have e1 : ((X : Int) / 2 ^ (7 - t % 8)) = ((X / 2 ^ (7 - t % 8) : Nat) : Int) := by simp
  have e2 : X / 2 ^ (7 - t % 8) ≤ X := Nat.div_le_self _ _
  rw [e1, Int.toNat_natCast]
  generalize X / 2 ^ (7 - t % 8) = Y at *
  rw [show IntKind.u64.wrap (Y : Int) = (Y : Int) by rw [IntKind.wrap_u64]; omega, Lib.u64_and1 _ (by omega) (by omega)]
  omega
end Go.Proofs.Ytkkhpdbognaioaa
