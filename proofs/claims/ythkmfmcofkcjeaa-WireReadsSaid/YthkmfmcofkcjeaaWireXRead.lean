/- The contracts of the reference's Reader: a read of a kind. -/
import Derived.Test.YthkmfmcofkcjeaaWireXR3
namespace Go.Proofs.Ythkmfmcofkcjeaa
set_option linter.unusedVariables false
set_option linter.unusedSimpArgs false
open Go.RowKit Go.Shelf Go.Proofs.YthkmfmcofkcjeaaW.PrintWords Go.Proofs.YthkmfmcofkcjeaaW.PrintLast Go.Proofs.YthkmfmcofkcjeaaW.PrintMore

/-- What a read leaves: the value's cells, its rows to be read, the Reader. -/
def XReadPost (G F : List Hp) (p : Nat) (w : World) (t : Val × List Int × Int) (e : Ending) (w' : World) : Prop :=
  ∃ A1 c1 A2 c2, e = .returned (.agg #[.int .i64 t.1.kind, .int .u64 t.1.u, .int .i64 t.1.n, .slice A1 t.1.b.length c1, .slice A2 t.1.l.length c2]) ∧ t.1.b.length ≤ c1 ∧ t.1.l.length ≤ c2 ∧ Rd (Kd.int .u8) G A1 t.1.b.length t.1.b ∧ RdS 44 G (viewH .i64 A2 t.1.l :: F) p w' t.2.1 t.2.2 ∧ Calm w w'
set_option maxRecDepth 100000 in
set_option maxHeartbeats 8000000 in
theorem xRead (p : Nat) (k : Int) (hk0 : 0 ≤ k) (hk5 : k ≤ 5) (bs : List Int) (e0 : Int) (h8 : U8s bs) (hl : bs.length ≤ 1000000000) (w : World) {G F : List Hp} (hG : Sub F G) (H : RdS 44 G F p w bs e0) :
    Calls Try.prog 24 #[.pointer (some ⟨p, 0, none⟩), .int .i64 k] w (XReadPost G F p w (vS k bs e0)) := by
  have hb : ∀ z, RdS 44 G (blkH (w.heap.size + 1) 47 #[.int .i64 k, .int .u64 0, .int .i64 0, .slice none 0 0, .slice none 0 0] :: blkH w.heap.size 47 z :: F) p ((w.alloc (.cells z 47)).alloc (.cells #[.int .i64 k, .int .u64 0, .int .i64 0, .slice none 0 0, .slice none 0 0] 47)) bs e0 := fun z => H.other (fun B h => by
    have h1 := (h.box 47 z).box 47 #[.int .i64 k, .int .u64 0, .int .i64 0, .slice none 0 0, .slice none 0 0]
    rw [World.size_alloc] at h1
    exact h1.f3)
  have hb0 := hb #[.int .i64 0, .int .u64 0, .int .i64 0, .slice none 0 0, .slice none 0 0]
  have hq : ∀ o1 o2, Calm w ((w.alloc o1).alloc o2) := fun o1 o2 => ((Calm.refl w).alloc o1).alloc o2
  have hG2 : ∀ B1 B2 : Hp, Sub (B1 :: B2 :: F) G := fun B1 B2 => (hG.cons B2).cons B1
  clear hb
  have hk : k = 0 ∨ k = 1 ∨ k = 2 ∨ k = 3 ∨ k = 4 ∨ k = 5 := by omega
  rcases hk with rfl | rfl | rfl | rfl | rfl | rfl
  · have hv : vS 0 bs e0 = (⟨0, (uS bs e0).1, 0, [], []⟩, (uS bs e0).2.1, (uS bs e0).2.2) := rfl
    rw [hv]
    clear hv
    have hu := xrUintS p bs e0 h8 (by omega) _ (hG2 _ _) hb0
    generalize uS bs e0 = u at *
    generalize hz4 : w.heap.size = g4 at *
    go_enter Try.func24, Try.ntmps24
    go_wp2_with fail
    refine hu.mono ?_
    rintro e w2 ⟨rfl, R, Q⟩
    have K := R.holds
    have K5 := K.f2
    have K4 := K.f3
    have c50 := K5.c 0 (.int .i64 0) rfl
    have c51 := K5.c 1 (.int .u64 0) rfl
    have c52 := K5.c 2 (.int .i64 0) rfl
    have c53 := K5.c 3 (.slice none 0 0) rfl
    have c54 := K5.c 4 (.slice none 0 0) rfl
    have f5 := fun i => K5.frozen i
    have l5 := K5.lt
    have c40 := K4.c 0 (.int .i64 0) rfl
    have c41 := K4.c 1 (.int .u64 0) rfl
    have c42 := K4.c 2 (.int .i64 0) rfl
    have c43 := K4.c 3 (.slice none 0 0) rfl
    have c44 := K4.c 4 (.slice none 0 0) rfl
    have f4 := fun i => K4.frozen i
    have l4 := K4.lt
    go_wp2
    have KF := (K5.set 1 (.int .u64 u.1)).f3.f2
    have KE := readEnd KF
    have r0 := KE.c 0 (.int .i64 0) rfl
    have r1 := KE.c 1 (.int .u64 u.1) rfl
    have r2 := KE.c 2 (.int .i64 0) rfl
    have r3 := KE.c 3 (.slice none 0 0) rfl
    have r4 := KE.c 4 (.slice none 0 0) rfl
    exact bodyPost_ret (v := .agg #[.int .i64 0, .int .u64 u.1, .int .i64 0, .slice none 0 0, .slice none 0 0]) (by simp [results, Try.results24, go_sem, r0, r1, r2, r3, r4]) rfl
      ⟨none, 0, none, 0, rfl, Nat.le_refl _, Nat.le_refl _, Rd.nil _ _, RdS.of ((KE.drop.nilView .i64).f2), calm5 (((hq _ _).trans Q).setCell _ _) _ _ _ _ _ _⟩
  · have hv : vS 1 bs e0 = (⟨1, 0, unzz (uS bs e0).1, [], []⟩, (uS bs e0).2.1, (uS bs e0).2.2) := rfl
    rw [hv]
    clear hv
    have hu := xrInt p bs e0 h8 (by omega) _ (hG2 _ _) hb0
    generalize uS bs e0 = u at *
    generalize hz4 : w.heap.size = g4 at *
    go_enter Try.func24, Try.ntmps24
    go_wp2_with fail
    refine hu.mono ?_
    rintro e w2 ⟨rfl, R, Q⟩
    have K := R.holds
    have K5 := K.f2
    have K4 := K.f3
    have c50 := K5.c 0 (.int .i64 1) rfl
    have c51 := K5.c 1 (.int .u64 0) rfl
    have c52 := K5.c 2 (.int .i64 0) rfl
    have c53 := K5.c 3 (.slice none 0 0) rfl
    have c54 := K5.c 4 (.slice none 0 0) rfl
    have f5 := fun i => K5.frozen i
    have l5 := K5.lt
    have c40 := K4.c 0 (.int .i64 0) rfl
    have c41 := K4.c 1 (.int .u64 0) rfl
    have c42 := K4.c 2 (.int .i64 0) rfl
    have c43 := K4.c 3 (.slice none 0 0) rfl
    have c44 := K4.c 4 (.slice none 0 0) rfl
    have f4 := fun i => K4.frozen i
    have l4 := K4.lt
    go_wp2
    have KF := (K5.set 2 (.int .i64 (unzz u.1))).f3.f2
    have KE := readEnd KF
    have r0 := KE.c 0 (.int .i64 1) rfl
    have r1 := KE.c 1 (.int .u64 0) rfl
    have r2 := KE.c 2 (.int .i64 (unzz u.1)) rfl
    have r3 := KE.c 3 (.slice none 0 0) rfl
    have r4 := KE.c 4 (.slice none 0 0) rfl
    exact bodyPost_ret (v := .agg #[.int .i64 1, .int .u64 0, .int .i64 (unzz u.1), .slice none 0 0, .slice none 0 0]) (by simp [results, Try.results24, go_sem, r0, r1, r2, r3, r4]) rfl
      ⟨none, 0, none, 0, rfl, Nat.le_refl _, Nat.le_refl _, Rd.nil _ _, RdS.of ((KE.drop.nilView .i64).f2), calm5 (((hq _ _).trans Q).setCell _ _) _ _ _ _ _ _⟩
  · have hv : vS 2 bs e0 = (⟨2, 0, if (bS bs e0).1 = true then 1 else 0, [], []⟩, (bS bs e0).2.1, (bS bs e0).2.2) := rfl
    rw [hv]
    clear hv
    have hu := xrBool p bs e0 h8 _ (hG2 _ _) hb0
    generalize bS bs e0 = u at *
    generalize hz4 : w.heap.size = g4 at *
    obtain ⟨ub, ur⟩ := u
    dsimp only at *
    cases ub
    · go_enter Try.func24, Try.ntmps24
      go_wp2_with fail
      refine hu.mono ?_
      rintro e w2 ⟨rfl, R, Q⟩
      have K := R.holds
      have K5 := K.f2
      have K4 := K.f3
      have c50 := K5.c 0 (.int .i64 2) rfl
      have c51 := K5.c 1 (.int .u64 0) rfl
      have c52 := K5.c 2 (.int .i64 0) rfl
      have c53 := K5.c 3 (.slice none 0 0) rfl
      have c54 := K5.c 4 (.slice none 0 0) rfl
      have f5 := fun i => K5.frozen i
      have l5 := K5.lt
      have c40 := K4.c 0 (.int .i64 0) rfl
      have c41 := K4.c 1 (.int .u64 0) rfl
      have c42 := K4.c 2 (.int .i64 0) rfl
      have c43 := K4.c 3 (.slice none 0 0) rfl
      have c44 := K4.c 4 (.slice none 0 0) rfl
      have f4 := fun i => K4.frozen i
      have l4 := K4.lt
      go_wp2
      have KF := K5.f3.f2
      have KE := readEnd KF
      have r0 := KE.c 0 (.int .i64 2) rfl
      have r1 := KE.c 1 (.int .u64 0) rfl
      have r2 := KE.c 2 (.int .i64 0) rfl
      have r3 := KE.c 3 (.slice none 0 0) rfl
      have r4 := KE.c 4 (.slice none 0 0) rfl
      exact bodyPost_ret (v := .agg #[.int .i64 2, .int .u64 0, .int .i64 0, .slice none 0 0, .slice none 0 0]) (by simp [results, Try.results24, go_sem, r0, r1, r2, r3, r4]) rfl
        ⟨none, 0, none, 0, rfl, Nat.le_refl _, Nat.le_refl _, Rd.nil _ _, RdS.of ((KE.drop.nilView .i64).f2), calm5 ((hq _ _).trans Q) _ _ _ _ _ _⟩
    · go_enter Try.func24, Try.ntmps24
      go_wp2_with fail
      refine hu.mono ?_
      rintro e w2 ⟨rfl, R, Q⟩
      have K := R.holds
      have K5 := K.f2
      have K4 := K.f3
      have c50 := K5.c 0 (.int .i64 2) rfl
      have c51 := K5.c 1 (.int .u64 0) rfl
      have c52 := K5.c 2 (.int .i64 0) rfl
      have c53 := K5.c 3 (.slice none 0 0) rfl
      have c54 := K5.c 4 (.slice none 0 0) rfl
      have f5 := fun i => K5.frozen i
      have l5 := K5.lt
      have c40 := K4.c 0 (.int .i64 0) rfl
      have c41 := K4.c 1 (.int .u64 0) rfl
      have c42 := K4.c 2 (.int .i64 0) rfl
      have c43 := K4.c 3 (.slice none 0 0) rfl
      have c44 := K4.c 4 (.slice none 0 0) rfl
      have f4 := fun i => K4.frozen i
      have l4 := K4.lt
      go_wp2
      have KF := (K5.set 2 (.int .i64 1)).f3.f2
      have KE := readEnd KF
      have r0 := KE.c 0 (.int .i64 2) rfl
      have r1 := KE.c 1 (.int .u64 0) rfl
      have r2 := KE.c 2 (.int .i64 1) rfl
      have r3 := KE.c 3 (.slice none 0 0) rfl
      have r4 := KE.c 4 (.slice none 0 0) rfl
      exact bodyPost_ret (v := .agg #[.int .i64 2, .int .u64 0, .int .i64 1, .slice none 0 0, .slice none 0 0]) (by simp [results, Try.results24, go_sem, r0, r1, r2, r3, r4]) rfl
        ⟨none, 0, none, 0, rfl, Nat.le_refl _, Nat.le_refl _, Rd.nil _ _, RdS.of ((KE.drop.nilView .i64).f2), calm5 (((hq _ _).trans Q).setCell _ _) _ _ _ _ _ _⟩
  · have hv : vS 3 bs e0 = (⟨3, 0, 0, (rawS bs e0).1, []⟩, (rawS bs e0).2.1, (rawS bs e0).2.2) := rfl
    rw [hv]
    clear hv
    have hu := xrRaw p bs e0 h8 (by omega) _ (hG2 _ _) hb0
    generalize rawS bs e0 = u at *
    generalize hz4 : w.heap.size = g4 at *
    go_enter Try.func24, Try.ntmps24
    go_wp2_with fail
    refine hu.mono ?_
    rintro e w2 ⟨A1, c1, rfl, hle, hRd, R, Q⟩
    have KR := R.holds
    have K5 := KR.f2
    have K4 := KR.f3
    have HRd := Lib.hid hRd
    clear hRd
    have c50 := K5.c 0 (.int .i64 3) rfl
    have c51 := K5.c 1 (.int .u64 0) rfl
    have c52 := K5.c 2 (.int .i64 0) rfl
    have c53 := K5.c 3 (.slice none 0 0) rfl
    have c54 := K5.c 4 (.slice none 0 0) rfl
    have f5 := fun i => K5.frozen i
    have l5 := K5.lt
    have c40 := K4.c 0 (.int .i64 0) rfl
    have c41 := K4.c 1 (.int .u64 0) rfl
    have c42 := K4.c 2 (.int .i64 0) rfl
    have c43 := K4.c 3 (.slice none 0 0) rfl
    have c44 := K4.c 4 (.slice none 0 0) rfl
    have f4 := fun i => K4.frozen i
    have l4 := K4.lt
    go_wp2
    have KF := (K5.set 3 (.slice A1 u.1.length c1)).f3.f2
    have KE := readEnd KF
    have r0 := KE.c 0 (.int .i64 3) rfl
    have r1 := KE.c 1 (.int .u64 0) rfl
    have r2 := KE.c 2 (.int .i64 0) rfl
    have r3 := KE.c 3 (.slice A1 u.1.length c1) rfl
    have r4 := KE.c 4 (.slice none 0 0) rfl
    exact bodyPost_ret (v := .agg #[.int .i64 3, .int .u64 0, .int .i64 0, .slice A1 u.1.length c1, .slice none 0 0]) (by simp [results, Try.results24, go_sem, r0, r1, r2, r3, r4]) rfl
      ⟨A1, c1, none, 0, rfl, hle, Nat.le_refl _, HRd.out, RdS.of ((KE.drop.nilView .i64).f2), calm5 (((hq _ _).trans Q).setCell _ _) _ _ _ _ _ _⟩
  · have hv : vS 4 bs e0 = (⟨4, 0, 0, (rawS bs e0).1, []⟩, (rawS bs e0).2.1, (rawS bs e0).2.2) := rfl
    rw [hv]
    clear hv
    have hu := xrRaw p bs e0 h8 (by omega) _ (hG2 _ _) hb0
    generalize rawS bs e0 = u at *
    generalize hz4 : w.heap.size = g4 at *
    go_enter Try.func24, Try.ntmps24
    go_wp2_with fail
    refine hu.mono ?_
    rintro e w2 ⟨A1, c1, rfl, hle, hRd, R, Q⟩
    have KR := R.holds
    have K5 := KR.f2
    have K4 := KR.f3
    have HRd := Lib.hid hRd
    clear hRd
    have c50 := K5.c 0 (.int .i64 4) rfl
    have c51 := K5.c 1 (.int .u64 0) rfl
    have c52 := K5.c 2 (.int .i64 0) rfl
    have c53 := K5.c 3 (.slice none 0 0) rfl
    have c54 := K5.c 4 (.slice none 0 0) rfl
    have f5 := fun i => K5.frozen i
    have l5 := K5.lt
    have c40 := K4.c 0 (.int .i64 0) rfl
    have c41 := K4.c 1 (.int .u64 0) rfl
    have c42 := K4.c 2 (.int .i64 0) rfl
    have c43 := K4.c 3 (.slice none 0 0) rfl
    have c44 := K4.c 4 (.slice none 0 0) rfl
    have f4 := fun i => K4.frozen i
    have l4 := K4.lt
    go_wp2
    have KF := (K5.set 3 (.slice A1 u.1.length c1)).f3.f2
    have KE := readEnd KF
    have r0 := KE.c 0 (.int .i64 4) rfl
    have r1 := KE.c 1 (.int .u64 0) rfl
    have r2 := KE.c 2 (.int .i64 0) rfl
    have r3 := KE.c 3 (.slice A1 u.1.length c1) rfl
    have r4 := KE.c 4 (.slice none 0 0) rfl
    exact bodyPost_ret (v := .agg #[.int .i64 4, .int .u64 0, .int .i64 0, .slice A1 u.1.length c1, .slice none 0 0]) (by simp [results, Try.results24, go_sem, r0, r1, r2, r3, r4]) rfl
      ⟨A1, c1, none, 0, rfl, hle, Nat.le_refl _, HRd.out, RdS.of ((KE.drop.nilView .i64).f2), calm5 (((hq _ _).trans Q).setCell _ _) _ _ _ _ _ _⟩
  · have hv : vS 5 bs e0 = (⟨5, 0, 0, [], (intsS bs e0).1⟩, (intsS bs e0).2.1, (intsS bs e0).2.2) := rfl
    rw [hv]
    clear hv
    have hu := xrInts p bs e0 h8 (by omega) _ (hG2 _ _) hb0
    generalize intsS bs e0 = u at *
    generalize hz4 : w.heap.size = g4 at *
    go_enter Try.func24, Try.ntmps24
    go_wp2_with fail
    refine hu.mono ?_
    rintro e w2 ⟨A1, c1, rfl, hle, R, Q⟩
    have KR := R.holds
    have K5 := KR.f3
    have K4 := KR.f4
    have c50 := K5.c 0 (.int .i64 5) rfl
    have c51 := K5.c 1 (.int .u64 0) rfl
    have c52 := K5.c 2 (.int .i64 0) rfl
    have c53 := K5.c 3 (.slice none 0 0) rfl
    have c54 := K5.c 4 (.slice none 0 0) rfl
    have f5 := fun i => K5.frozen i
    have l5 := K5.lt
    have c40 := K4.c 0 (.int .i64 0) rfl
    have c41 := K4.c 1 (.int .u64 0) rfl
    have c42 := K4.c 2 (.int .i64 0) rfl
    have c43 := K4.c 3 (.slice none 0 0) rfl
    have c44 := K4.c 4 (.slice none 0 0) rfl
    have f4 := fun i => K4.frozen i
    have l4 := K4.lt
    go_wp2
    have KF := (K5.set 4 (.slice A1 u.1.length c1)).f4.f2
    have KE := readEnd KF
    have r0 := KE.c 0 (.int .i64 5) rfl
    have r1 := KE.c 1 (.int .u64 0) rfl
    have r2 := KE.c 2 (.int .i64 0) rfl
    have r3 := KE.c 3 (.slice none 0 0) rfl
    have r4 := KE.c 4 (.slice A1 u.1.length c1) rfl
    exact bodyPost_ret (v := .agg #[.int .i64 5, .int .u64 0, .int .i64 0, .slice none 0 0, .slice A1 u.1.length c1]) (by simp [results, Try.results24, go_sem, r0, r1, r2, r3, r4]) rfl
      ⟨none, 0, A1, c1, rfl, Nat.le_refl _, hle, Rd.nil _ _, RdS.of (KE.drop.f2.view.f2), calm5 (((hq _ _).trans Q).setCell _ _) _ _ _ _ _ _⟩

end Go.Proofs.Ythkmfmcofkcjeaa
