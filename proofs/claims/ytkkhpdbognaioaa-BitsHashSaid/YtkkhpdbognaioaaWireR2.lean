/- The contracts of package wire's Reader: byte slices, strings, lists. -/
import Derived.Test.YtkkhpdbognaioaaWireR
namespace Go.Proofs.Ytkkhpdbognaioaa
set_option linter.unusedVariables false
set_option linter.unusedSimpArgs false
open Go.RowKit Go.Shelf Go.Proofs.YtkkhpdbognaioaaW.PrintWords Go.Proofs.YtkkhpdbognaioaaW.PrintLast Go.Proofs.YtkkhpdbognaioaaW.PrintMore

/-- What Raw returns, and what is left. -/
def rawS (bs : List Int) (e : Int) : List Int × List Int × Int := if e = 0 then rawRd bs else ([], bs, e)
def intsS (bs : List Int) (e : Int) : List Int × List Int × Int := if e = 0 then intsRd bs else ([], bs, e)

set_option maxRecDepth 100000 in
set_option maxHeartbeats 2000000 in
theorem list_u8 (p : Nat) (bs : List Int) (e0 : Int) (h8 : U8s bs) (hl : bs.length ≤ 100000000000000) (w : World) {G F : List Hp} (hG : Sub F G) (H : RdS 84 G F p w bs e0) :
    Calls Try.prog 56 #[.pointer (some ⟨p, 0, none⟩), .func (.func 53) #[.pointer (some ⟨p, 0, none⟩)] #[]] w fun e w' => ∃ A c, e = .returned (.slice A (rawS bs e0).1.length c) ∧ (rawS bs e0).1.length ≤ c ∧ RdS 84 G (rowH (Kd.int .u8) 5 (.slice A (rawS bs e0).1.length c) (rawS bs e0).1 :: F) p w' (rawS bs e0).2.1 (rawS bs e0).2.2 ∧ Calm w w' := by
  have hu := rUintS p bs e0 h8 w hG H
  obtain ⟨v, bs1, e1, hv⟩ : ∃ v bs1 e1, uS bs e0 = (v, bs1, e1) := ⟨_, _, _, rfl⟩
  have hr : rawS bs e0 = if e1 = 0 then (if bs1.length < v then ([], bs1, 3) else (bs1.take v, bs1.drop v, 0)) else ([], bs1, e1) := by
    unfold rawS
    unfold uS at hv
    by_cases he : e0 = 0
    · rw [if_pos he] at hv ⊢
      rw [rawRd, hv]
    · rw [if_neg he] at hv ⊢
      cases hv
      rw [if_neg he]
  have h81 : U8s bs1 := by
    have := uS_u8 h8 e0
    rw [hv] at this
    exact this
  have hl1 : bs1.length ≤ 100000000000000 := by
    obtain ⟨m, hm, _⟩ := uS_rest bs e0
    rw [hv] at hm
    dsimp only at hm
    rw [hm, List.length_drop]
    omega
  have hv64 : v < 18446744073709551616 := by
    have := uS_val (e := e0) h8
    rw [hv] at this
    exact this
  have hv0 : e1 ≠ 0 → v = 0 := by
    intro he
    unfold uS at hv
    by_cases he0 : e0 = 0
    · rw [if_pos he0] at hv
      have := uRd_err bs 0 0
      rw [hv] at this
      rcases this with h | h
      · exact absurd h he
      · exact h.2
    · rw [if_neg he0] at hv
      cases hv
      rfl
  rw [hv] at hu
  dsimp only at hu
  rw [hr]
  clear hr hv h8 hl
  by_cases he : e1 = 0
  · subst he
    rw [if_pos rfl]
    by_cases hlt : bs1.length < v
    · rw [if_pos hlt]
      have hlti : (bs1.length : Int) < (v : Int) := by omega
      have hv00 : (0 : Int) < (v : Int) := by omega
      go_enter Try.func56, Try.ntmps56
      go_wp2_with fail
      refine hu.mono ?_
      rintro e w1 ⟨rfl, H1, Q1⟩
      clear hu H
      obtain ⟨A, n, c, H2, h2⟩ := H1
      obtain ⟨rfl, hnc, hR⟩ := h2 rfl
      have hc0 := H2.c 0 (.slice A bs1.length c) rfl
      have hc1 := H2.c 1 (.int .i64 0) rfl
      go_wp2_with fail
      refine (fail_first p _ 3 w1 H2).mono ?_
      rintro e w2 ⟨rfl, H3, Q3⟩
      have hc3 := H3.c 1 (.int .i64 3) rfl
      go_wp2
      refine wp_loop_rounds 1 ?_
      rw [rounds_succ]
      go_wp2
      go_ret
      exact ⟨none, 0, rfl, Nat.le_refl _, RdS.err ((H3.nilRow (Kd.int .u8) 5).f2) (by decide) _, Q1.trans Q3⟩
    · rw [if_neg hlt]
      have hlti : ¬ (bs1.length : Int) < (v : Int) := by omega
      obtain ⟨R, hR1⟩ : ∃ R, Hid (bs1.take v = R) := ⟨_, rfl⟩
      rw [hR1.out]
      go_enter Try.func56, Try.ntmps56
      go_wp2_with fail
      refine hu.mono ?_
      rintro e w1 ⟨rfl, H1, Q1⟩
      clear hu H
      have H1' := H1
      obtain ⟨A, n, c, H2, h2⟩ := H1'
      obtain ⟨rfl, hnc, hR⟩ := h2 rfl
      have hc0 := H2.c 0 (.slice A bs1.length c) rfl
      have hc1 := H2.c 1 (.int .i64 0) rfl
      go_wp2
      go_loopw [6, 7] (fun o i wr => ∃ (k : Nat) (out : List Int) (A : Option Addr) (c : Nat), k ≤ v ∧ i = .int .u64 (k : Int) ∧ o = .slice A out.length c ∧ Hid (out = bs1.take k) ∧ out.length ≤ k ∧ RdS 84 G (rowH (Kd.int .u8) 5 (.slice A out.length c) out :: F) p wr (bs1.drop k) 0 ∧ Calm w wr) (fun _ i _ => v - (intOf i).toNat)
      case atStart => exact ⟨0, [], none, 0, by omega, rfl, rfl, rfl, by simp, H1.other (fun B h => (h.nilRow _ _).f2), Q1⟩
      case round =>
        clear H1 Q1 H2 hc0 hc1 hR h2 hnc
        obtain ⟨k, out, A, c, hk, rfl, rfl, hout, hol, H1, Q1⟩ := hrel
        have H1' := H1
        obtain ⟨A1, n1, c1, H2, -⟩ := H1'
        have hc1 := H2.c 1 (.int .i64 0) rfl
        by_cases hkv : k < v
        · have hkvi : (k : Int) < (v : Int) := by omega
          have hkl : k < bs1.length := by omega
          have hn := next_ok p (bs1.drop k) wr (hG.cons _) H1
          rw [List.drop_eq_getElem_cons hkl] at hn
          simp only [nx] at hn
          have htk : Hid (bs1.take (k + 1) = bs1.take k ++ [bs1[k]]) := List.take_succ_eq_append_getElem hkl
          generalize bs1[k] = x at *
          go_wp2_with fail
          refine hn.mono ?_
          rintro e w2 ⟨rfl, H3, Q2⟩
          obtain ⟨A3, n3, c3, H4, h4⟩ := H3
          have hl3 : (out.length + 1) * 1 ≤ 140737488355328 := by omega
          go_wp2_with (at_builtin; go_must (refine H_append_int .u8 rfl (.tmp 32) (.tmp 35) 29 5 1 rfl Try.underlying29 info_u8 (by decide) (.slice A out.length c) out x rfl rfl H4.f2 hl3 ?_; intro B1 A5 c5 w3 hB1 K1 k1 Q3))
          go_roundw
          case rel => exact ⟨k + 1, B1, A5, c5, by omega, by go_num, rfl, by show _ = _; rw [htk.out, hB1.out, hout.out], by rw [hB1.out]; simp; omega, ⟨A3, n3, c3, K1.f2, fun _ => h4 trivial⟩, (Q1.trans Q2).trans Q3⟩
          case measure => simp [intOf]; omega
        · obtain rfl : k = v := by omega
          have hout' := hout.out
          rw [hR1.out] at hout'
          subst hout'
          go_wp2
          go_ret
          obtain ⟨_, _, hlen, hle, _⟩ := H2.f2.row
          cases hlen
          exact ⟨A, c, rfl, by omega, H1, Q1⟩
  · rw [if_neg he]
    obtain rfl := hv0 he
    have hb : (e1 != 0) = true := by simpa using he
    go_enter Try.func56, Try.ntmps56
    go_wp2_with fail
    refine hu.mono ?_
    rintro e w1 ⟨rfl, H1, Q1⟩
    obtain ⟨A, n, c, H2, h2⟩ := H1
    have hc0 := H2.c 0 (.slice A n c) rfl
    have hc1 := H2.c 1 (.int .i64 e1) rfl
    have He := Lib.hid he
    clear he h2
    go_wp2
    refine wp_loop_rounds 1 ?_
    rw [rounds_succ]
    go_wp2
    go_ret
    exact ⟨none, 0, rfl, Nat.le_refl _, RdS.err ((H2.nilRow (Kd.int .u8) 5).f2) He.out _, Q1⟩

set_option maxRecDepth 100000 in
set_option maxHeartbeats 1000000 in
theorem rRaw (p : Nat) (bs : List Int) (e0 : Int) (h8 : U8s bs) (hl : bs.length ≤ 100000000000000) (w : World) {G F : List Hp} (hG : Sub F G) (H : RdS 84 G F p w bs e0) :
    Calls Try.prog 41 #[.pointer (some ⟨p, 0, none⟩)] w fun e w' => ∃ A c, e = .returned (.slice A (rawS bs e0).1.length c) ∧ (rawS bs e0).1.length ≤ c ∧ RdS 84 G (rowH (Kd.int .u8) 5 (.slice A (rawS bs e0).1.length c) (rawS bs e0).1 :: F) p w' (rawS bs e0).2.1 (rawS bs e0).2.2 ∧ Calm w w' := by
  have hu := list_u8 p bs e0 h8 hl w hG H
  generalize rawS bs e0 = u at *
  go_enter Try.func41, Try.ntmps41
  go_wp2_with fail
  refine hu.mono ?_
  rintro e w1 ⟨A, c, rfl, hle, H1, Q1⟩
  go_wp2
  go_ret
  exact ⟨A, c, rfl, hle, H1, Q1⟩

def prep (out : List Int) (t : List Int × List Int × Int) : List Int × List Int × Int := if t.2.2 = 0 then (out ++ t.1, t.2.1, 0) else ([], t.2.1, t.2.2)
theorem iRd_err : ∀ (j : Nat) (bs : List Int), (iRd j bs).2.2 ≠ 0 → (iRd j bs).1 = []
  | 0, bs, h => by simp [iRd] at h
  | j + 1, bs, h => by
    rw [iRd] at h ⊢
    obtain ⟨v, bs1, e, h1⟩ : ∃ v bs1 e, uRd 0 0 bs = (v, bs1, e) := ⟨_, _, _, rfl⟩
    rw [h1] at h ⊢
    dsimp only at h ⊢
    split
    · rename_i h0
      rw [if_pos h0] at h
      obtain ⟨l, r, e2, h2⟩ : ∃ l r e2, iRd j bs1 = (l, r, e2) := ⟨_, _, _, rfl⟩
      rw [h2] at h ⊢
      dsimp only at h ⊢
      split
      · rename_i h3
        rw [if_pos h3] at h
        exact absurd rfl h
      · rfl
    · rfl
theorem prep_nil (j : Nat) (bs : List Int) : prep [] (iRd j bs) = iRd j bs := by
  unfold prep
  have := iRd_err j bs
  generalize iRd j bs = t at *
  obtain ⟨l, r, e⟩ := t
  dsimp only at *
  split
  · rename_i h; rw [h]; rfl
  · rename_i h; rw [this h]
theorem prep_step (out : List Int) (j : Nat) (bs : List Int) : prep out (iRd (j + 1) bs) = if (uRd 0 0 bs).2.2 = 0 then prep (out ++ [unzz (uRd 0 0 bs).1]) (iRd j (uRd 0 0 bs).2.1) else ([], (uRd 0 0 bs).2.1, (uRd 0 0 bs).2.2) := by
  rw [iRd]
  generalize uRd 0 0 bs = t
  obtain ⟨v, r, e⟩ := t
  dsimp only
  by_cases h0 : e = 0
  · rw [if_pos h0, if_pos h0]
    unfold prep
    generalize iRd j r = t
    obtain ⟨l, r2, e2⟩ := t
    dsimp only
    by_cases h2 : e2 = 0
    · rw [if_pos h2, if_pos h2, if_pos rfl]
      simp
    · rw [if_neg h2, if_neg h2, if_neg h2]
  · rw [if_neg h0, if_neg h0]
    unfold prep
    rw [if_neg h0]
end Go.Proofs.Ytkkhpdbognaioaa

