/- The contracts of the reference's Reader: byte slices and lists. -/
import Derived.Test.YthkmfmcofkcjeaaWireXR2
namespace Go.Proofs.Ythkmfmcofkcjeaa
set_option linter.unusedVariables false
set_option linter.unusedSimpArgs false
open Go.RowKit Go.Shelf Go.Proofs.YthkmfmcofkcjeaaW.PrintWords Go.Proofs.YthkmfmcofkcjeaaW.PrintLast Go.Proofs.YthkmfmcofkcjeaaW.PrintMore

theorem cut_u8 (A : Option Addr) (n c m : Nat) (hm : m ≤ n) {A' : Option Addr} (hA : Hid ((if c = m then A else A.map (·.add m)) = A')) :
    ∀ W : World, (Instr.slice 24 (.slice A n c) (some (.int .i64 (m : Int))) none none).run Try.prog W = .ok (.slice A' (n - m) (c - m)) W := by
  have h := cut_from (P := Try.prog) 24 5 .i64 Try.underlying24 (info_parts info_u8).choose_spec.1 1 (info_parts info_u8).choose_spec.2.2.1 A n c (m : Int) (by omega) (by omega)
  rw [Int.toNat_natCast, Nat.mul_one, hA.out] at h
  exact h
theorem cap_u8 (A : Option Addr) (n c m : Nat) (hm : m ≤ n) (hc : n ≤ c) :
    ∀ W : World, (Instr.slice 24 (.slice A n c) none (some (.int .i64 (m : Int))) none).run Try.prog W = .ok (.slice A m c) W := by
  have h := cut_to (P := Try.prog) 24 5 .i64 Try.underlying24 (info_parts info_u8).choose_spec.1 A n c (m : Int) (by omega) (by omega) hc
  rw [Int.toNat_natCast] at h
  exact h
/-- What a length returns, and what is left. -/
def lenS (bs : List Int) (e : Int) : Nat × List Int × Int := if (uS bs e).2.2 = 0 then (if (uS bs e).2.1.length < (uS bs e).1 then (0, (uS bs e).2.1, 3) else ((uS bs e).1, (uS bs e).2.1, 0)) else (0, (uS bs e).2.1, (uS bs e).2.2)
theorem rawS_lenS (bs : List Int) (e : Int) : rawS bs e = if (lenS bs e).2.2 = 0 then ((lenS bs e).2.1.take (lenS bs e).1, (lenS bs e).2.1.drop (lenS bs e).1, 0) else ([], (lenS bs e).2.1, (lenS bs e).2.2) := by
  unfold rawS lenS rawRd uS
  by_cases he : e = 0
  · rw [if_pos he, if_pos he]
    generalize uRd 0 0 bs = u
    obtain ⟨v, r, e1⟩ := u
    dsimp only
    by_cases h1 : e1 = 0
    · rw [if_pos h1, if_pos h1]
      by_cases h2 : r.length < v
      · rw [if_pos h2, if_pos h2]; rfl
      · rw [if_neg h2, if_neg h2]; rfl
    · rw [if_neg h1, if_neg h1, if_neg h1]
  · rw [if_neg he, if_neg he, if_neg he, if_neg he]
theorem intsS_lenS (bs : List Int) (e : Int) : intsS bs e = if (lenS bs e).2.2 = 0 then iRd (lenS bs e).1 (lenS bs e).2.1 else ([], (lenS bs e).2.1, (lenS bs e).2.2) := by
  unfold intsS lenS intsRd uS
  by_cases he : e = 0
  · rw [if_pos he, if_pos he]
    generalize uRd 0 0 bs = u
    obtain ⟨v, r, e1⟩ := u
    dsimp only
    by_cases h1 : e1 = 0
    · rw [if_pos h1, if_pos h1]
      by_cases h2 : r.length < v
      · rw [if_pos h2, if_pos h2]; rfl
      · rw [if_neg h2, if_neg h2]; rfl
    · rw [if_neg h1, if_neg h1, if_neg h1]
  · rw [if_neg he, if_neg he, if_neg he, if_neg he]
theorem lenS_room (bs : List Int) (e : Int) : (lenS bs e).2.2 = 0 → (lenS bs e).1 ≤ (lenS bs e).2.1.length := by
  unfold lenS
  split
  · split
    · intro h; exact absurd h (by simp)
    · intro h; dsimp only; omega
  · rename_i h; intro h'; exact absurd h' h
theorem lenS_zero (bs : List Int) (e : Int) : (lenS bs e).2.2 ≠ 0 → (lenS bs e).1 = 0 := by
  unfold lenS
  split
  · split
    · intro h; rfl
    · intro h; exact absurd rfl h
  · intro h; rfl
theorem lenS_rest (bs : List Int) (e : Int) : (lenS bs e).2.1 = (uS bs e).2.1 := by
  unfold lenS
  split
  · split <;> rfl
  · rfl

set_option maxRecDepth 100000 in
set_option maxHeartbeats 2000000 in
theorem xrLen (p : Nat) (bs : List Int) (e0 : Int) (h8 : U8s bs) (hbl : bs.length ≤ 100000000000000) (w : World) {G F : List Hp} (hG : Sub F G) (H : RdS 44 G F p w bs e0) :
    Calls Try.prog 64 #[.pointer (some ⟨p, 0, none⟩)] w fun e w' => e = .returned (.int .i64 ((lenS bs e0).1 : Int)) ∧ RdS 44 G F p w' (lenS bs e0).2.1 (lenS bs e0).2.2 ∧ Calm w w' := by
  have hu := xrUintS p bs e0 h8 hbl w hG H
  have hv64 := uS_val (e := e0) h8
  have hl1 : (uS bs e0).2.1.length ≤ 100000000000000 := by
    obtain ⟨m, hm, _⟩ := uS_rest bs e0
    rw [hm, List.length_drop]
    omega
  unfold lenS
  generalize uS bs e0 = u at *
  obtain ⟨v, bs1, e1⟩ := u
  dsimp only at *
  clear H h8 hbl
  by_cases he : e1 = 0
  · subst he
    rw [if_pos rfl]
    by_cases hlt : bs1.length < v
    · rw [if_pos hlt]
      go_enter Try.func64, Try.ntmps64
      go_wp2_with fail
      refine hu.mono ?_
      rintro e w1 ⟨rfl, H1, Q1⟩
      clear hu
      obtain ⟨A, n, c, H2, h2⟩ := H1
      obtain ⟨rfl, hnc, -⟩ := h2 rfl
      have HE := RdS.err (G := G) (H2.set 1 (.int .i64 3)) (by decide) bs1
      have hc2 := (H2.set 1 (.int .i64 3)).c 1 (.int .i64 3) rfl
      obtain ⟨L, hL⟩ : ∃ L : Nat, Hid (bs1.length = L) := ⟨_, Lib.hid rfl⟩
      rw [hL.out] at H2 hlt hl1
      have hlti : (L : Int) < (v : Int) := by omega
      have hc0 := H2.c 0 (.slice A L c) rfl
      have hc1 := H2.c 1 (.int .i64 0) rfl
      have hf1 := H2.frozen 1
      have hl := H2.lt
      clear hnc
      go_wp2
      go_ret
      exact ⟨rfl, HE, Q1.setCell _ _⟩
    · rw [if_neg hlt]
      go_enter Try.func64, Try.ntmps64
      go_wp2_with fail
      refine hu.mono ?_
      rintro e w1 ⟨rfl, H1, Q1⟩
      clear hu
      have H1' := H1
      obtain ⟨A, n, c, H2, h2⟩ := H1
      obtain ⟨rfl, hnc, -⟩ := h2 rfl
      obtain ⟨L, hL⟩ : ∃ L : Nat, Hid (bs1.length = L) := ⟨_, Lib.hid rfl⟩
      rw [hL.out] at H2 hlt hl1
      have hlti : ¬ (L : Int) < (v : Int) := by omega
      have hc0 := H2.c 0 (.slice A L c) rfl
      have hc1 := H2.c 1 (.int .i64 0) rfl
      clear hnc
      go_wp2
      go_ret
      exact ⟨ret_int (by first | rfl | (rw [IntKind.wrap_i64]; omega)), H1', Q1⟩
  · rw [if_neg he]
    go_enter Try.func64, Try.ntmps64
    go_wp2_with fail
    refine hu.mono ?_
    rintro e w1 ⟨rfl, H1, Q1⟩
    clear hu
    have H1' := H1
    obtain ⟨A, n, c, H2, h2⟩ := H1
    clear h2
    have hc1 := H2.c 1 (.int .i64 e1) rfl
    have hb : (e1 == 0) = false := by simpa using he
    go_wp2
    go_ret
    exact ⟨rfl, H1', Q1⟩

set_option maxRecDepth 100000 in
set_option maxHeartbeats 2000000 in
theorem xrRaw (p : Nat) (bs : List Int) (e0 : Int) (h8 : U8s bs) (hbl : bs.length ≤ 100000000000000) (w : World) {G F : List Hp} (hG : Sub F G) (H : RdS 44 G F p w bs e0) :
    Calls Try.prog 53 #[.pointer (some ⟨p, 0, none⟩)] w fun e w' => ∃ A c, e = .returned (.slice A (rawS bs e0).1.length c) ∧ (rawS bs e0).1.length ≤ c ∧ Rd (Kd.int .u8) G A (rawS bs e0).1.length (rawS bs e0).1 ∧ RdS 44 G F p w' (rawS bs e0).2.1 (rawS bs e0).2.2 ∧ Calm w w' := by
  have hu := xrLen p bs e0 h8 hbl w hG H
  have hroom := lenS_room bs e0
  rw [rawS_lenS]
  generalize lenS bs e0 = u at *
  obtain ⟨v, bs1, e1⟩ := u
  dsimp only at *
  clear H h8 hbl
  by_cases he : e1 = 0
  · subst he
    have hvl := hroom rfl
    rw [if_pos rfl]
    clear hroom
    go_enter Try.func53, Try.ntmps53
    go_wp2_with fail
    refine hu.mono ?_
    rintro e w1 ⟨rfl, H1, Q1⟩
    clear hu
    obtain ⟨A, n, c, H2, h2⟩ := H1
    obtain ⟨rfl, hnc, hR⟩ := h2 rfl
    have hT := hR.take v hvl
    have htl : (bs1.take v).length = v := by rw [List.length_take]; omega
    obtain ⟨L, hL⟩ : ∃ L : Nat, Hid (bs1.length = L) := ⟨_, Lib.hid rfl⟩
    rw [hL.out] at H2 hvl hnc
    obtain ⟨A', hA'⟩ : ∃ A', Hid ((if c = v then A else A.map (·.add v)) = A') := ⟨_, Lib.hid rfl⟩
    have hF := RdS.from_ hL H2 hnc hR v hvl hA'
    have hcut := cut_u8 A L c v hvl hA'
    have hcap := cap_u8 A L c v hvl hnc
    have hc0 := H2.c 0 (.slice A L c) rfl
    have hc1 := H2.c 1 (.int .i64 0) rfl
    have hf0 := H2.frozen 0
    have hl := H2.lt
    have Htl := Lib.hid htl
    clear hR h2 htl
    go_wp2
    go_ret
    dsimp only
    rw [Htl.out]
    exact ⟨A, c, rfl, by omega, hT, hF, Q1.setCell _ _⟩
  · rw [if_neg he]
    go_enter Try.func53, Try.ntmps53
    go_wp2_with fail
    refine hu.mono ?_
    rintro e w1 ⟨rfl, H1, Q1⟩
    clear hu
    have H1' := H1
    obtain ⟨A, n, c, H2, h2⟩ := H1
    clear h2
    have hc1 := H2.c 1 (.int .i64 e1) rfl
    have hb : (e1 == 0) = false := by simpa using he
    go_wp2
    go_ret
    exact ⟨none, 0, rfl, Nat.le_refl _, Rd.nil _ _, H1', Q1⟩

set_option maxRecDepth 100000 in
set_option maxHeartbeats 2000000 in
theorem xrInts (p : Nat) (bs : List Int) (e0 : Int) (h8 : U8s bs) (hbl : bs.length ≤ 10000000000000) (w : World) {G F : List Hp} (hG : Sub F G) (H : RdS 44 G F p w bs e0) :
    Calls Try.prog 54 #[.pointer (some ⟨p, 0, none⟩)] w fun e w' => ∃ A c, e = .returned (.slice A (intsS bs e0).1.length c) ∧ (intsS bs e0).1.length ≤ c ∧ RdS 44 G (rowH (Kd.int .i64) 3 (.slice A (intsS bs e0).1.length c) (intsS bs e0).1 :: F) p w' (intsS bs e0).2.1 (intsS bs e0).2.2 ∧ Calm w w' := by
  have hu := xrLen p bs e0 h8 (by omega) w hG H
  have hroom := lenS_room bs e0
  have hzero := lenS_zero bs e0
  have h81 : U8s (lenS bs e0).2.1 := by rw [lenS_rest]; exact uS_u8 h8 e0
  have hl1 : (lenS bs e0).2.1.length ≤ 10000000000000 := by
    rw [lenS_rest]
    obtain ⟨m, hm, _⟩ := uS_rest bs e0
    rw [hm, List.length_drop]
    omega
  rw [intsS_lenS]
  generalize lenS bs e0 = u at *
  obtain ⟨v, bs1, e1⟩ := u
  dsimp only at *
  clear H h8 hbl
  by_cases he : e1 = 0
  · subst he
    have hvl := hroom rfl
    rw [if_pos rfl]
    clear hroom hzero
    obtain ⟨R, hR1⟩ : ∃ R, Hid (iRd v bs1 = R) := ⟨_, rfl⟩
    rw [hR1.out]
    go_enter Try.func54, Try.ntmps54
    go_wp2_with fail
    refine hu.mono ?_
    rintro e w1 ⟨rfl, H1, Q1⟩
    clear hu
    go_wp2
    go_loopw [4, 5] (fun o i wr => ∃ (k : Nat) (out : List Int) (A : Option Addr) (c : Nat) (cur : List Int) (e : Int), k ≤ v ∧ i = .int .i64 (k : Int) ∧ o = .slice A out.length c ∧ out.length ≤ k ∧ U8s cur ∧ cur.length ≤ 10000000000000 ∧ RdS 44 G (rowH (Kd.int .i64) 3 (.slice A out.length c) out :: F) p wr cur e ∧ Calm w wr ∧ ((e = 0 ∧ Hid (prep out (iRd (v - k) cur) = R)) ∨ (e ≠ 0 ∧ Hid (([], cur, e) = R)))) (fun _ i _ => v - (intOf i).toNat)
    case atStart => exact ⟨0, [], none, 0, bs1, 0, by omega, rfl, rfl, by simp, h81, hl1, H1.other (fun B h => (h.nilRow _ _).f2), Q1, .inl ⟨rfl, by show _ = _; rw [Nat.sub_zero, prep_nil]; exact hR1.out⟩⟩
    case round =>
      have hvl' : v ≤ 10000000000000 := by omega
      clear H1 Q1 h81 hl1 hvl
      obtain ⟨k, out, A, c, cur, e, hk, rfl, rfl, hol, h8c, hlc, H1, Q1, ⟨rfl, hfin⟩ | ⟨he, hfin⟩⟩ := hrel
      · have H1' := H1
        obtain ⟨A1, n1, c1, H2, -⟩ := H1'
        have hc1 := H2.c 1 (.int .i64 0) rfl
        by_cases hkv : k < v
        · have hkvi : (k : Int) < (v : Int) := by omega
          have hn := xrInt p cur 0 h8c (by omega) wr (hG.cons _) H1
          have h8n := uS_u8 h8c 0
          have hlc2 : (uS cur 0).2.1.length ≤ 10000000000000 := by
            obtain ⟨m, hm, _⟩ := uS_rest cur 0
            rw [hm, List.length_drop]
            omega
          rw [uS_ok] at hn h8n hlc2
          have hst : Hid (prep out (iRd (v - k) cur) = if (uRd 0 0 cur).2.2 = 0 then prep (out ++ [unzz (uRd 0 0 cur).1]) (iRd (v - (k + 1)) (uRd 0 0 cur).2.1) else ([], (uRd 0 0 cur).2.1, (uRd 0 0 cur).2.2)) := by
            show _ = _
            rw [show v - k = (v - (k + 1)) + 1 by omega]
            exact prep_step out _ cur
          generalize uRd 0 0 cur = u at *
          generalize hx : unzz u.1 = x at *
          clear hx
          go_wp2_with fail
          refine hn.mono ?_
          rintro e w2 ⟨rfl, H3, Q2⟩
          obtain ⟨A3, n3, c3, H4, h4⟩ := H3
          have hl3' : (out.length + 1) * 8 ≤ 140737488355328 := by omega
          go_wp2_with (at_builtin; go_must (refine H_append_int .i64 rfl (.tmp 20) (.tmp 23) 33 3 8 rfl Try.underlying33 info_int (by decide) (.slice A out.length c) out x rfl rfl H4.f2 hl3' ?_; intro B1 A5 c5 w3 hB1 K1 k1 Q3))
          have HS : RdS 44 G (rowH (Kd.int .i64) 3 (.slice A5 B1.length c5) B1 :: F) p w3 u.2.1 u.2.2 := ⟨A3, n3, c3, K1.f2, h4⟩
          have hlast : (u.2.2 = 0 ∧ Hid (prep B1 (iRd (v - (k + 1)) u.2.1) = R)) ∨ (u.2.2 ≠ 0 ∧ Hid (([], u.2.1, u.2.2) = R)) := by
            have h1 := hst.out
            rw [hfin.out] at h1
            by_cases h0 : u.2.2 = 0
            · rw [if_pos h0, ← hB1.out] at h1
              exact .inl ⟨h0, h1.symm⟩
            · rw [if_neg h0] at h1
              exact .inr ⟨h0, h1.symm⟩
          go_roundw
          case rel => exact ⟨k + 1, B1, A5, c5, u.2.1, u.2.2, by omega, by go_num, rfl, by rw [hB1.out]; simp; omega, h8n, hlc2, HS, (Q1.trans Q2).trans Q3, hlast⟩
          case measure => simp [intOf]; omega
        · obtain rfl : k = v := by omega
          have hfin' := hfin.out
          rw [Nat.sub_self] at hfin'
          simp only [iRd, prep, if_true, List.append_nil] at hfin'
          subst hfin'
          go_wp2
          go_ret
          obtain ⟨_, _, hlen, hle, _⟩ := H2.f2.row
          cases hlen
          exact ⟨A, c, rfl, hle, H1, Q1⟩
      · obtain ⟨A1, n1, c1, H2, -⟩ := H1
        have hc1 := H2.c 1 (.int .i64 e) rfl
        have hb1 : (e == 0) = false := by simpa using he
        have He := Lib.hid he
        have hfin' := hfin.out
        subst hfin'
        by_cases hkv : (k : Int) < (v : Int)
        all_goals
          go_wp2
          go_ret
          exact ⟨none, 0, rfl, RdS.err ((H2.f2.drop.nilRow (Kd.int .i64) 3).f2) He.out _, Q1⟩
  · rw [if_neg he]
    obtain rfl := hzero he
    go_enter Try.func54, Try.ntmps54
    go_wp2_with fail
    refine hu.mono ?_
    rintro e w1 ⟨rfl, H1, Q1⟩
    clear hu
    obtain ⟨A, n, c, H2, h2⟩ := H1
    clear h2
    have hc1 := H2.c 1 (.int .i64 e1) rfl
    have hb : (e1 == 0) = false := by simpa using he
    go_wp2
    refine wp_loop_rounds 1 ?_
    rw [rounds_succ]
    go_wp2
    go_ret
    exact ⟨none, 0, rfl, Nat.le_refl _, RdS.err ((H2.nilRow (Kd.int .i64) 3).f2) he _, Q1⟩
end Go.Proofs.Ythkmfmcofkcjeaa
