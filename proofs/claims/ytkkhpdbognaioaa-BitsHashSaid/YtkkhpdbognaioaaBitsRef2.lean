/- The contracts of the reference's Unary and Of, of the laws' write. -/
import Derived.Test.YtkkhpdbognaioaaBitsRef
namespace Go.Proofs.Ytkkhpdbognaioaa
set_option linter.unusedVariables false
set_option linter.unusedSimpArgs false
open Go.RowKit Go.Shelf Go.Proofs.YtkkhpdbognaioaaW.PrintWords Go.Proofs.YtkkhpdbognaioaaW.PrintLast Go.Proofs.YtkkhpdbognaioaaW.PrintMore

set_option maxRecDepth 100000 in
set_option maxHeartbeats 2000000 in
theorem xUnary (n : Int) (w : World) {F : List Hp} (H : Holds w F) :
    Calls Try.prog 44 #[.int .i64 n] w fun e w' => ∃ A c, e = .returned (.slice A (unaryB (clampN n 65536)).length c) ∧ Holds w' (rowH Kd.bool 4 (.slice A (unaryB (clampN n 65536)).length c) (unaryB (clampN n 65536)) :: F) ∧ (unaryB (clampN n 65536)).length ≤ c ∧ Calm w w' := by
  obtain ⟨k, hk⟩ : ∃ k : Nat, Hid (clampN n 65536 = k) := ⟨_, Lib.hid rfl⟩
  have hkk : Hid (k ≤ 65536 ∧ ∀ i : Nat, i < k ↔ (i : Int) < n ∧ i < 65536) := by
    rw [← hk.out]
    refine ⟨clampN_le _ _, fun i => ?_⟩
    unfold clampN
    omega
  rw [hk.out]
  clear hk
  have hk64 := hkk.out.1
  go_enter Try.func44, Try.ntmps44
  go_wp2
  go_loopw [3, 4] (fun o iv wr => ∃ (j : Nat) (out : List Bool) (A : Option Addr) (c : Nat), j ≤ k ∧ iv = .int .i64 (j : Int) ∧ o = .slice A out.length c ∧ Hid (out = List.replicate j true) ∧ out.length ≤ 65536 ∧ Holds wr (rowH Kd.bool 4 (.slice A out.length c) out :: F) ∧ Calm w wr) (fun _ iv _ => k - (intOf iv).toNat)
  case atStart => exact ⟨0, [], none, 0, Nat.zero_le _, rfl, rfl, rfl, by simp, H.nilRow Kd.bool 4, Calm.refl _⟩
  case round =>
    obtain ⟨j, out, A, c, hj, rfl, rfl, hout, hol, H1, Q1⟩ := hrel
    have hl1 : (out.length + 1) * 1 ≤ 140737488355328 := by omega
    by_cases hlt : j < k
    · obtain ⟨h1, h2⟩ := (hkk.out.2 j).1 hlt
      have h2i : (j : Int) < 65536 := by omega
      have hE := H1.eltBool true
      have hnl : out.length + 1 ≤ 65536 := by rw [hout.out, List.length_replicate]; omega
      go_wp2_with (at_builtin; go_must (refine H_append Kd.bool rfl (.tmp 14) (.tmp 15) 32 4 _ 1 rfl Try.underlying32 info_bool rfl (by decide) (by decide) (.slice A out.length c) out true [.bool true] rfl rfl hE hl1 ?_; intro B1 A1 c1 w1 hB1 K1 k1 Q2))
      go_roundw
      case rel => exact ⟨j + 1, B1, A1, c1, by omega, by go_num, rfl, by show _ = _; rw [hB1.out, hout.out, ← List.replicate_succ'], by rw [hB1.out]; simp; omega, K1, Q1.trans Q2⟩
      case measure => simp [intOf]; omega
    · obtain rfl : j = k := by omega
      have hE := H1.eltBool false
      have hno := fun h => hlt ((hkk.out.2 j).2 h)
      by_cases h1 : (j : Int) < n
      · have h2 : ¬ (j : Int) < 65536 := fun h => hno ⟨h1, by omega⟩
        go_wp2_with (at_builtin; go_must (refine H_append Kd.bool rfl (.tmp 17) (.tmp 18) 32 4 _ 1 rfl Try.underlying32 info_bool rfl (by decide) (by decide) (.slice A out.length c) out false [.bool false] rfl rfl hE hl1 ?_; intro B1 A1 c1 w1 hB1 K1 k1 Q2))
        go_ret
        have hh : unaryB j = B1 := by rw [hB1.out, hout.out]; rfl
        rw [hh]
        exact ⟨A1, c1, rfl, K1, k1, Q1.trans Q2⟩
      · go_wp2_with (at_builtin; go_must (refine H_append Kd.bool rfl (.tmp 17) (.tmp 18) 32 4 _ 1 rfl Try.underlying32 info_bool rfl (by decide) (by decide) (.slice A out.length c) out false [.bool false] rfl rfl hE hl1 ?_; intro B1 A1 c1 w1 hB1 K1 k1 Q2))
        go_ret
        have hh : unaryB j = B1 := by rw [hB1.out, hout.out]; rfl
        rw [hh]
        exact ⟨A1, c1, rfl, K1, k1, Q1.trans Q2⟩

/-- A value that is written. -/
structure OpV where
  un : Bool
  n : Nat
  c : Int
def OpV.cells (o : OpV) : List Value := [.bool o.un, .int .u64 (o.n : Int), .int .i64 o.c]
/-- Its bits. -/
def OpV.bits (o : OpV) : List Bool := if o.un = true then unaryB (clampN (IntKind.i64.wrap (o.n : Int)) 65536) else bitsN o.n (clampN o.c 64)
theorem OpV.bits_len (o : OpV) : o.bits.length ≤ 65537 := by
  unfold OpV.bits
  split
  · have := clampN_le (IntKind.i64.wrap (o.n : Int)) 65536
    rw [unaryB, List.length_append, List.length_replicate, List.length_singleton]; omega
  · have := clampN_le o.c 64
    rw [bitsN_length]; omega
set_option maxRecDepth 100000 in
set_option maxHeartbeats 2000000 in
theorem xOf (o : OpV) (hn : o.n < 18446744073709551616) (w : World) {F : List Hp} (H : Holds w F) :
    Calls Try.prog 15 #[.agg #[.bool o.un, .int .u64 (o.n : Int), .int .i64 o.c]] w fun e w' => ∃ A c, e = .returned (.slice A o.bits.length c) ∧ Holds w' (rowH Kd.bool 4 (.slice A o.bits.length c) o.bits :: F) ∧ o.bits.length ≤ c ∧ Calm w w' := by
  obtain ⟨un, n, c⟩ := o
  have H1 := H.box 27 #[.bool un, .int .u64 (n : Int), .int .i64 c]
  have Q1 := (Calm.refl w).alloc (.cells #[.bool un, .int .u64 (n : Int), .int .i64 c] 27)
  have c0 := H1.c 0 (.bool un) rfl
  have c1 := H1.c 1 (.int .u64 (n : Int)) rfl
  have c2 := H1.c 2 (.int .i64 c) rfl
  cases un
  · have hx := xBits n hn c _ H1
    show Calls _ _ _ _ (fun e w' => ∃ A c1, e = .returned (.slice A (bitsN n (clampN c 64)).length c1) ∧ Holds w' (rowH Kd.bool 4 (.slice A (bitsN n (clampN c 64)).length c1) (bitsN n (clampN c 64)) :: F) ∧ (bitsN n (clampN c 64)).length ≤ c1 ∧ Calm w w')
    generalize bitsN n (clampN c 64) = R at *
    go_enter Try.func15, Try.ntmps15
    go_wp2_with fail
    refine hx.mono ?_
    rintro e w2 ⟨A, cc, rfl, H2, hc2, Q2⟩
    go_wp2
    go_ret
    exact ⟨A, cc, rfl, H2.f2.drop, hc2, Q1.trans Q2⟩
  · have hx := xUnary (IntKind.i64.wrap (n : Int)) _ H1
    show Calls _ _ _ _ (fun e w' => ∃ A c1, e = .returned (.slice A (unaryB (clampN (IntKind.i64.wrap (n : Int)) 65536)).length c1) ∧ Holds w' (rowH Kd.bool 4 (.slice A (unaryB (clampN (IntKind.i64.wrap (n : Int)) 65536)).length c1) (unaryB (clampN (IntKind.i64.wrap (n : Int)) 65536)) :: F) ∧ (unaryB (clampN (IntKind.i64.wrap (n : Int)) 65536)).length ≤ c1 ∧ Calm w w')
    generalize unaryB (clampN (IntKind.i64.wrap (n : Int)) 65536) = R at *
    obtain ⟨z, hz⟩ : ∃ z : Int, IntKind.i64.wrap (n : Int) = z := ⟨_, rfl⟩
    rw [hz] at hx
    go_enter Try.func15, Try.ntmps15
    go_wp2_with fail
    refine hx.mono ?_
    rintro e w2 ⟨A, cc, rfl, H2, hc2, Q2⟩
    go_wp2
    go_ret
    exact ⟨A, cc, rfl, H2.f2.drop, hc2, Q1.trans Q2⟩
set_option maxRecDepth 100000 in
set_option maxHeartbeats 2000000 in
theorem lwrite (p : Nat) (l : List Bool) (o : OpV) (hn : o.n < 18446744073709551616) (hl : l.length ≤ 900000000000) (w : World) {F : List Hp} (H : Holds w (bwH p l :: F)) :
    Calls Try.prog 14 #[.pointer (some ⟨p, 0, none⟩), .agg #[.bool o.un, .int .u64 (o.n : Int), .int .i64 o.c]] w fun e w' => e = .returned (.tuple #[]) ∧ Holds w' (bwH p (l ++ o.bits) :: F) ∧ Calm w w' := by
  obtain ⟨un, n, c⟩ := o
  have H1 := H.box 27 #[.bool un, .int .u64 (n : Int), .int .i64 c]
  have Q1 := (Calm.refl w).alloc (.cells #[.bool un, .int .u64 (n : Int), .int .i64 c] 27)
  have c0 := H1.c 0 (.bool un) rfl
  have c1 := H1.c 1 (.int .u64 (n : Int)) rfl
  have c2 := H1.c 2 (.int .i64 c) rfl
  cases un
  · have hx := bBits p l n hn c hl _ H1.f2
    show Calls _ _ _ _ (fun e w' => e = .returned (.tuple #[]) ∧ Holds w' (bwH p (l ++ bitsN n (clampN c 64)) :: F) ∧ Calm w w')
    generalize bitsN n (clampN c 64) = R at *
    go_enter Try.func14, Try.ntmps14
    go_wp2_with fail
    refine hx.mono ?_
    rintro e w2 ⟨rfl, H2, Q2⟩
    go_wp2
    go_end0
    exact ⟨rfl, H2.f2.drop, Q1.trans Q2⟩
  · have hx := bUnary p l (IntKind.i64.wrap (n : Int)) hl _ H1.f2
    show Calls _ _ _ _ (fun e w' => e = .returned (.tuple #[]) ∧ Holds w' (bwH p (l ++ unaryB (clampN (IntKind.i64.wrap (n : Int)) 65536)) :: F) ∧ Calm w w')
    generalize unaryB (clampN (IntKind.i64.wrap (n : Int)) 65536) = R at *
    obtain ⟨z, hz⟩ : ∃ z : Int, IntKind.i64.wrap (n : Int) = z := ⟨_, rfl⟩
    rw [hz] at hx
    go_enter Try.func14, Try.ntmps14
    go_wp2_with fail
    refine hx.mono ?_
    rintro e w2 ⟨rfl, H2, Q2⟩
    go_wp2
    go_end0
    exact ⟨rfl, H2.f2.drop, Q1.trans Q2⟩
end Go.Proofs.Ytkkhpdbognaioaa
