/- Reading a value of a kind; two equal values are the same. -/
import Derived.Test.YthkmfmcofkcjeaaWireVals
namespace Go.Proofs.Ythkmfmcofkcjeaa
set_option linter.unusedVariables false
set_option linter.unusedSimpArgs false
open Go.RowKit Go.Shelf Go.Proofs.YthkmfmcofkcjeaaW.PrintWords Go.Proofs.YthkmfmcofkcjeaaW.PrintLast Go.Proofs.YthkmfmcofkcjeaaW.PrintMore

/-- What a read of a kind returns, and what is left. -/
def vS (k : Int) (bs : List Int) (e : Int) : Val × List Int × Int :=
  if k = 0 then (⟨k, (uS bs e).1, 0, [], []⟩, (uS bs e).2.1, (uS bs e).2.2)
  else if k = 1 then (⟨k, 0, unzz (uS bs e).1, [], []⟩, (uS bs e).2.1, (uS bs e).2.2)
  else if k = 2 then (⟨k, 0, if (bS bs e).1 = true then 1 else 0, [], []⟩, (bS bs e).2.1, (bS bs e).2.2)
  else if k = 3 ∨ k = 4 then (⟨k, 0, 0, (rawS bs e).1, []⟩, (rawS bs e).2.1, (rawS bs e).2.2)
  else (⟨k, 0, 0, [], (intsS bs e).1⟩, (intsS bs e).2.1, (intsS bs e).2.2)
theorem vS_ok (k : Int) (bs : List Int) : vS k bs 0 = vRd k bs := by
  unfold vS vRd uS bS rawS intsS
  simp only [if_true]
theorem vS_err (k : Int) (bs : List Int) {e : Int} (h : e ≠ 0) : vS k bs e = (⟨k, 0, 0, [], []⟩, bs, e) := by
  unfold vS uS bS rawS intsS
  simp only [if_neg h]
  split
  · rfl
  · split
    · rfl
    · split
      · simp
      · split <;> rfl

theorem Holds.nilView {w : World} {F : List Hp} (h : Holds w F) (k : IntKind) : Holds w (viewH k none [] :: F) := h.emp.imp (fun S _ _ => ⟨Kd.C_nil (Kd.int k) w, fun ad e _ => by cases e⟩)
theorem rawRd_u8 {bs : List Int} (h : U8s bs) (e : Int) : U8s (rawS bs e).1 := by
  have h0 : U8s [] := fun x hx => by simp at hx
  unfold rawS rawRd
  split
  · obtain ⟨m, hm, _⟩ := uRd_rest bs 0 0
    generalize uRd 0 0 bs = u at *
    obtain ⟨v, r, e⟩ := u
    dsimp only at *
    split
    · split
      · exact h0
      · subst hm
        exact u8s_take (u8s_drop h m) _
    · exact h0
  · exact h0
theorem iRd_rest : ∀ (j : Nat) (bs : List Int), ∃ m, (iRd j bs).2.1 = bs.drop m
  | 0, bs => ⟨0, rfl⟩
  | j + 1, bs => by
    rw [iRd]
    obtain ⟨m, hm, _⟩ := uRd_rest bs 0 0
    generalize uRd 0 0 bs = u at *
    obtain ⟨v, r, e⟩ := u
    dsimp only at *
    subst hm
    split
    · obtain ⟨m2, hm2⟩ := iRd_rest j (bs.drop m)
      generalize iRd j (bs.drop m) = t at *
      obtain ⟨l, r2, e2⟩ := t
      dsimp only at *
      subst hm2
      split <;> exact ⟨m + m2, by rw [List.drop_drop]⟩
    · exact ⟨m, rfl⟩
theorem vRd_rest (k : Int) (bs : List Int) : ∃ m, (vRd k bs).2.1 = bs.drop m := by
  obtain ⟨m, hm, _⟩ := uRd_rest bs 0 0
  unfold vRd
  split
  · generalize uRd 0 0 bs = u at *
    exact ⟨m, hm⟩
  · split
    · generalize uRd 0 0 bs = u at *
      exact ⟨m, hm⟩
    · split
      · cases bs with
        | nil => exact ⟨0, rfl⟩
        | cons c bs =>
          simp only [boolRd]
          split <;> exact ⟨1, rfl⟩
      · split
        · rw [rawRd]
          generalize uRd 0 0 bs = u at *
          obtain ⟨v, r, e⟩ := u
          dsimp only at *
          subst hm
          split
          · split
            · exact ⟨m, rfl⟩
            · exact ⟨m + v, by simp only [List.drop_drop]⟩
          · exact ⟨m, rfl⟩
        · rw [intsRd]
          generalize uRd 0 0 bs = u at *
          obtain ⟨v, r, e⟩ := u
          dsimp only at *
          subst hm
          split
          · split
            · exact ⟨m, rfl⟩
            · obtain ⟨m2, hm2⟩ := iRd_rest v (bs.drop m)
              generalize iRd v (bs.drop m) = t at *
              obtain ⟨l, r2, e2⟩ := t
              dsimp only at *
              exact ⟨m + m2, by rw [hm2, List.drop_drop]⟩
          · exact ⟨m, rfl⟩
theorem vS_rest (k : Int) (bs : List Int) (e : Int) : ∃ m, (vS k bs e).2.1 = bs.drop m := by
  by_cases h : e = 0
  · subst h
    rw [vS_ok]
    exact vRd_rest k bs
  · rw [vS_err k bs h]
    exact ⟨0, rfl⟩

/-- The last lines of a read: v's box g5 is loaded, and stored in the result's box g4. -/
theorem readEnd {w2 : World} {g4 g5 : Nat} {T : TypeId} {a b c d e z0 z1 z2 z3 z4 : Value} {F : List Hp} (h : Holds w2 (blkH g5 T #[a, b, c, d, e] :: blkH g4 T #[z0, z1, z2, z3, z4] :: F)) :
    Holds (((((w2.setCell ⟨g4, 0, none⟩ a).setCell ⟨g4, 1, none⟩ b).setCell ⟨g4, 2, none⟩ c).setCell ⟨g4, 3, none⟩ d).setCell ⟨g4, 4, none⟩ e) (blkH g4 T #[a, b, c, d, e] :: F) :=
  ((((((h.f2.set 0 a).set 1 b).set 2 c).set 3 d).set 4 e).f2).drop
theorem calm5 {w w2 : World} (h : Calm w w2) (g4 : Nat) (a b c d e : Value) : Calm w (((((w2.setCell ⟨g4, 0, none⟩ a).setCell ⟨g4, 1, none⟩ b).setCell ⟨g4, 2, none⟩ c).setCell ⟨g4, 3, none⟩ d).setCell ⟨g4, 4, none⟩ e) :=
  ((((h.setCell _ _).setCell _ _).setCell _ _).setCell _ _).setCell _ _

theorem rawS_len (bs : List Int) (e : Int) : (rawS bs e).1.length ≤ bs.length := by
  unfold rawS rawRd
  split
  · obtain ⟨m, hm, _⟩ := uRd_rest bs 0 0
    generalize uRd 0 0 bs = u at *
    obtain ⟨v, r, e⟩ := u
    dsimp only at *
    split
    · split
      · simp
      · subst hm
        rw [List.length_take, List.length_drop]
        omega
    · simp
  · simp
theorem Holds.bytes {w : World} {F : List Hp} (h : Holds w F) (e : TypeId) (s : ByteArray) (hs : s.size ≤ 9223372036854775807) : Holds (Lib.bytesWorld w e s) (viewH .u8 (some ⟨w.heap.size, 0, none⟩) (bytesOf s) :: F) := by
  refine h.new (bytes_below (Below.refl w.heap.size w) (Nat.le_refl _) e s) (S := fun k => k = w.heap.size) ⟨?_, fun ad e _ => by cases e; rfl⟩ (fun k hk => by omega)
  have := bytes_reads w e s hs
  rw [← bytesOf_length] at this
  exact Kd.C_of_reads (d := (0 : Int)) (h1 := fun _ => rfl) this
/-- What a read leaves: the value's cells, its rows to be read, the Reader. -/
def ReadPost (T : TypeId) (G F : List Hp) (p : Nat) (w : World) (t : Val × List Int × Int) (e : Ending) (w' : World) : Prop :=
  ∃ A1 c1 A2 c2, e = .returned (.agg #[.int .i64 t.1.kind, .int .u64 t.1.u, .int .i64 t.1.n, .slice A1 t.1.b.length c1, .slice A2 t.1.l.length c2]) ∧ t.1.b.length ≤ c1 ∧ t.1.l.length ≤ c2 ∧ RdS T G (viewH .u8 A1 t.1.b :: viewH .i64 A2 t.1.l :: F) p w' t.2.1 t.2.2 ∧ Calm w w'
set_option maxRecDepth 100000 in
set_option maxHeartbeats 8000000 in
theorem lread (p : Nat) (k : Int) (hk0 : 0 ≤ k) (hk5 : k ≤ 5) (bs : List Int) (e0 : Int) (h8 : U8s bs) (hl : bs.length ≤ 1000000000) (w : World) {G F : List Hp} (hG : Sub F G) (H : RdS 79 G F p w bs e0) :
    Calls Try.prog 23 #[.pointer (some ⟨p, 0, none⟩), .int .i64 k] w (ReadPost 79 G F p w (vS k bs e0)) := by
  have hb : ∀ z, RdS 79 G (blkH (w.heap.size + 1) 47 #[.int .i64 k, .int .u64 0, .int .i64 0, .slice none 0 0, .slice none 0 0] :: blkH w.heap.size 47 z :: F) p ((w.alloc (.cells z 47)).alloc (.cells #[.int .i64 k, .int .u64 0, .int .i64 0, .slice none 0 0, .slice none 0 0] 47)) bs e0 := fun z => H.other (fun B h => by
    have h1 := (h.box 47 z).box 47 #[.int .i64 k, .int .u64 0, .int .i64 0, .slice none 0 0, .slice none 0 0]
    rw [World.size_alloc] at h1
    exact h1.f3)
  have hb0 := hb #[.int .i64 0, .int .u64 0, .int .i64 0, .slice none 0 0, .slice none 0 0]
  have hq : ∀ o1 o2, Calm w ((w.alloc o1).alloc o2) := fun o1 o2 => ((Calm.refl w).alloc o1).alloc o2
  have hG2 : ∀ B1 B2 : Hp, Sub (B1 :: B2 :: F) G := fun B1 B2 => (hG.cons B2).cons B1
  clear hb
  have hk : k = 0 ∨ k = 1 ∨ k = 2 ∨ k = 3 ∨ k = 4 ∨ k = 5 := by omega
  rcases hk with rfl | rfl | rfl | rfl | rfl | rfl
  · have hv : vS 0 bs e0 = (⟨0, (uS bs e0).1, 0, [], []⟩, (uS bs e0).2.1, (uS bs e0).2.2) := rfl
    rw [hv]
    clear hv
    have hu := rUintS p bs e0 h8 _ (hG2 _ _) hb0
    generalize uS bs e0 = u at *
    generalize hz4 : w.heap.size = g4 at *
    go_enter Try.func23, Try.ntmps23
    go_wp2_with fail
    refine hu.mono ?_
    rintro e w2 ⟨rfl, R, Q⟩
    have K := R.holds
    have K5 := K.f2
    have K4 := K.f3
    have c50 := K5.c 0 (.int .i64 0) rfl
    have c51 := K5.c 1 (.int .u64 0) rfl
    have c52 := K5.c 2 (.int .i64 0) rfl
    have c53 := K5.c 3 (.slice none 0 0) rfl
    have c54 := K5.c 4 (.slice none 0 0) rfl
    have f5 := fun i => K5.frozen i
    have l5 := K5.lt
    have c40 := K4.c 0 (.int .i64 0) rfl
    have c41 := K4.c 1 (.int .u64 0) rfl
    have c42 := K4.c 2 (.int .i64 0) rfl
    have c43 := K4.c 3 (.slice none 0 0) rfl
    have c44 := K4.c 4 (.slice none 0 0) rfl
    have f4 := fun i => K4.frozen i
    have l4 := K4.lt
    go_wp2
    have KF := (K5.set 1 (.int .u64 u.1)).f3.f2
    have KE := readEnd KF
    have r0 := KE.c 0 (.int .i64 0) rfl
    have r1 := KE.c 1 (.int .u64 u.1) rfl
    have r2 := KE.c 2 (.int .i64 0) rfl
    have r3 := KE.c 3 (.slice none 0 0) rfl
    have r4 := KE.c 4 (.slice none 0 0) rfl
    exact bodyPost_ret (v := .agg #[.int .i64 0, .int .u64 u.1, .int .i64 0, .slice none 0 0, .slice none 0 0]) (by simp [results, Try.results23, go_sem, r0, r1, r2, r3, r4]) rfl
      ⟨none, 0, none, 0, rfl, Nat.le_refl _, Nat.le_refl _, RdS.of ((((KE.drop.nilView .i64).f2).nilView .u8).f2), calm5 (((hq _ _).trans Q).setCell _ _) _ _ _ _ _ _⟩
  · have hv : vS 1 bs e0 = (⟨1, 0, unzz (uS bs e0).1, [], []⟩, (uS bs e0).2.1, (uS bs e0).2.2) := rfl
    rw [hv]
    clear hv
    have hu := rInt p bs e0 h8 _ (hG2 _ _) hb0
    generalize uS bs e0 = u at *
    generalize hz4 : w.heap.size = g4 at *
    go_enter Try.func23, Try.ntmps23
    go_wp2_with fail
    refine hu.mono ?_
    rintro e w2 ⟨rfl, R, Q⟩
    have K := R.holds
    have K5 := K.f2
    have K4 := K.f3
    have c50 := K5.c 0 (.int .i64 1) rfl
    have c51 := K5.c 1 (.int .u64 0) rfl
    have c52 := K5.c 2 (.int .i64 0) rfl
    have c53 := K5.c 3 (.slice none 0 0) rfl
    have c54 := K5.c 4 (.slice none 0 0) rfl
    have f5 := fun i => K5.frozen i
    have l5 := K5.lt
    have c40 := K4.c 0 (.int .i64 0) rfl
    have c41 := K4.c 1 (.int .u64 0) rfl
    have c42 := K4.c 2 (.int .i64 0) rfl
    have c43 := K4.c 3 (.slice none 0 0) rfl
    have c44 := K4.c 4 (.slice none 0 0) rfl
    have f4 := fun i => K4.frozen i
    have l4 := K4.lt
    go_wp2
    have KF := (K5.set 2 (.int .i64 (unzz u.1))).f3.f2
    have KE := readEnd KF
    have r0 := KE.c 0 (.int .i64 1) rfl
    have r1 := KE.c 1 (.int .u64 0) rfl
    have r2 := KE.c 2 (.int .i64 (unzz u.1)) rfl
    have r3 := KE.c 3 (.slice none 0 0) rfl
    have r4 := KE.c 4 (.slice none 0 0) rfl
    exact bodyPost_ret (v := .agg #[.int .i64 1, .int .u64 0, .int .i64 (unzz u.1), .slice none 0 0, .slice none 0 0]) (by simp [results, Try.results23, go_sem, r0, r1, r2, r3, r4]) rfl
      ⟨none, 0, none, 0, rfl, Nat.le_refl _, Nat.le_refl _, RdS.of ((((KE.drop.nilView .i64).f2).nilView .u8).f2), calm5 (((hq _ _).trans Q).setCell _ _) _ _ _ _ _ _⟩
  · have hv : vS 2 bs e0 = (⟨2, 0, if (bS bs e0).1 = true then 1 else 0, [], []⟩, (bS bs e0).2.1, (bS bs e0).2.2) := rfl
    rw [hv]
    clear hv
    have hu := rBool p bs e0 h8 _ (hG2 _ _) hb0
    generalize bS bs e0 = u at *
    generalize hz4 : w.heap.size = g4 at *
    obtain ⟨ub, ur⟩ := u
    dsimp only at *
    cases ub
    · go_enter Try.func23, Try.ntmps23
      go_wp2_with fail
      refine hu.mono ?_
      rintro e w2 ⟨rfl, R, Q⟩
      have K := R.holds
      have K5 := K.f2
      have K4 := K.f3
      have c50 := K5.c 0 (.int .i64 2) rfl
      have c51 := K5.c 1 (.int .u64 0) rfl
      have c52 := K5.c 2 (.int .i64 0) rfl
      have c53 := K5.c 3 (.slice none 0 0) rfl
      have c54 := K5.c 4 (.slice none 0 0) rfl
      have f5 := fun i => K5.frozen i
      have l5 := K5.lt
      have c40 := K4.c 0 (.int .i64 0) rfl
      have c41 := K4.c 1 (.int .u64 0) rfl
      have c42 := K4.c 2 (.int .i64 0) rfl
      have c43 := K4.c 3 (.slice none 0 0) rfl
      have c44 := K4.c 4 (.slice none 0 0) rfl
      have f4 := fun i => K4.frozen i
      have l4 := K4.lt
      go_wp2
      have KF := K5.f3.f2
      have KE := readEnd KF
      have r0 := KE.c 0 (.int .i64 2) rfl
      have r1 := KE.c 1 (.int .u64 0) rfl
      have r2 := KE.c 2 (.int .i64 0) rfl
      have r3 := KE.c 3 (.slice none 0 0) rfl
      have r4 := KE.c 4 (.slice none 0 0) rfl
      exact bodyPost_ret (v := .agg #[.int .i64 2, .int .u64 0, .int .i64 0, .slice none 0 0, .slice none 0 0]) (by simp [results, Try.results23, go_sem, r0, r1, r2, r3, r4]) rfl
        ⟨none, 0, none, 0, rfl, Nat.le_refl _, Nat.le_refl _, RdS.of ((((KE.drop.nilView .i64).f2).nilView .u8).f2), calm5 ((hq _ _).trans Q) _ _ _ _ _ _⟩
    · go_enter Try.func23, Try.ntmps23
      go_wp2_with fail
      refine hu.mono ?_
      rintro e w2 ⟨rfl, R, Q⟩
      have K := R.holds
      have K5 := K.f2
      have K4 := K.f3
      have c50 := K5.c 0 (.int .i64 2) rfl
      have c51 := K5.c 1 (.int .u64 0) rfl
      have c52 := K5.c 2 (.int .i64 0) rfl
      have c53 := K5.c 3 (.slice none 0 0) rfl
      have c54 := K5.c 4 (.slice none 0 0) rfl
      have f5 := fun i => K5.frozen i
      have l5 := K5.lt
      have c40 := K4.c 0 (.int .i64 0) rfl
      have c41 := K4.c 1 (.int .u64 0) rfl
      have c42 := K4.c 2 (.int .i64 0) rfl
      have c43 := K4.c 3 (.slice none 0 0) rfl
      have c44 := K4.c 4 (.slice none 0 0) rfl
      have f4 := fun i => K4.frozen i
      have l4 := K4.lt
      go_wp2
      have KF := (K5.set 2 (.int .i64 1)).f3.f2
      have KE := readEnd KF
      have r0 := KE.c 0 (.int .i64 2) rfl
      have r1 := KE.c 1 (.int .u64 0) rfl
      have r2 := KE.c 2 (.int .i64 1) rfl
      have r3 := KE.c 3 (.slice none 0 0) rfl
      have r4 := KE.c 4 (.slice none 0 0) rfl
      exact bodyPost_ret (v := .agg #[.int .i64 2, .int .u64 0, .int .i64 1, .slice none 0 0, .slice none 0 0]) (by simp [results, Try.results23, go_sem, r0, r1, r2, r3, r4]) rfl
        ⟨none, 0, none, 0, rfl, Nat.le_refl _, Nat.le_refl _, RdS.of ((((KE.drop.nilView .i64).f2).nilView .u8).f2), calm5 (((hq _ _).trans Q).setCell _ _) _ _ _ _ _ _⟩
  · have hv : vS 3 bs e0 = (⟨3, 0, 0, (rawS bs e0).1, []⟩, (rawS bs e0).2.1, (rawS bs e0).2.2) := rfl
    rw [hv]
    clear hv
    have hu := rText p bs e0 h8 (by omega) _ (hG2 _ _) hb0
    have hr8 := rawRd_u8 h8 e0
    have hrl0 := Nat.le_trans (rawS_len bs e0) hl
    have hby0 := bytesOf_nums hr8
    clear hr8
    generalize rawS bs e0 = u at *
    generalize hz4 : w.heap.size = g4 at *
    obtain ⟨S, hS⟩ : ∃ S, Hid (strOfNums u.1 = S) := ⟨_, Lib.hid rfl⟩
    have hSl : Hid (S.size = u.1.length) := by
      have := congrArg List.length (strOfNums_data u.1)
      rw [hS.out] at this
      simpa [data_length, Hid] using this
    rw [hS.out] at hu hby0
    have hby := Lib.hid hby0
    clear hby0
    have hrl : u.1.length ≤ 1000000000 := hrl0
    have kb := fun W => print_bytes (P := Try.prog) 9 24 5 Try.underlying9 Try.underlying24 Try.underlying5 S W
    go_enter Try.func23, Try.ntmps23
    go_wp2_with fail
    refine hu.mono ?_
    rintro e w2 ⟨rfl, R, Q⟩
    have hSm : S.size ≤ 1000000000 := by rw [hSl.out]; exact hrl
    have kb2 := kb w2
    have hge := grownCap_ge w2 S.size 0 5
    obtain ⟨cp, hcp⟩ : ∃ cp, Hid (grownCap w2 S.size 0 5 = cp) := ⟨_, Lib.hid rfl⟩
    rw [hcp.out] at kb2 hge
    have KB := R.holds.bytes 5 S (by omega)
    rw [hby.out] at KB
    have QB : Calm w2 (Lib.bytesWorld w2 5 S) := Calm.of_below (bytes_below (Below.refl w2.heap.size w2) (Nat.le_refl _) 5 S)
    clear kb
    obtain ⟨w3, hw3⟩ : ∃ w3, Lib.bytesWorld w2 5 S = w3 := ⟨_, rfl⟩
    rw [hw3] at kb2 KB QB
    clear hw3
    generalize hg6 : w2.heap.size = g6 at *
    have K5 := KB.f3
    have K4 := KB.f4
    have c50 := K5.c 0 (.int .i64 3) rfl
    have c51 := K5.c 1 (.int .u64 0) rfl
    have c52 := K5.c 2 (.int .i64 0) rfl
    have c53 := K5.c 3 (.slice none 0 0) rfl
    have c54 := K5.c 4 (.slice none 0 0) rfl
    have f5 := fun i => K5.frozen i
    have l5 := K5.lt
    have c40 := K4.c 0 (.int .i64 0) rfl
    have c41 := K4.c 1 (.int .u64 0) rfl
    have c42 := K4.c 2 (.int .i64 0) rfl
    have c43 := K4.c 3 (.slice none 0 0) rfl
    have c44 := K4.c 4 (.slice none 0 0) rfl
    have f4 := fun i => K4.frozen i
    have l4 := K4.lt
    go_wp2
    have KF := (K5.set 3 (.slice (some ⟨g6, 0, none⟩) S.size cp)).f4.f2
    have KE := readEnd KF
    have r0 := KE.c 0 (.int .i64 3) rfl
    have r1 := KE.c 1 (.int .u64 0) rfl
    have r2 := KE.c 2 (.int .i64 0) rfl
    have r3 := KE.c 3 (.slice (some ⟨g6, 0, none⟩) S.size cp) rfl
    have r4 := KE.c 4 (.slice none 0 0) rfl
    exact bodyPost_ret (v := .agg #[.int .i64 3, .int .u64 0, .int .i64 0, .slice (some ⟨g6, 0, none⟩) S.size cp, .slice none 0 0]) (by simp [results, Try.results23, go_sem, r0, r1, r2, r3, r4]) rfl
      ⟨some ⟨g6, 0, none⟩, cp, none, 0, by rw [hSl.out]; rfl, by rw [← hSl.out]; exact hge, Nat.le_refl _, RdS.of ((KE.drop.nilView .i64).b3.f2), calm5 ((((hq _ _).trans Q).trans QB).setCell _ _) _ _ _ _ _ _⟩
  · have hv : vS 4 bs e0 = (⟨4, 0, 0, (rawS bs e0).1, []⟩, (rawS bs e0).2.1, (rawS bs e0).2.2) := rfl
    rw [hv]
    clear hv
    have hu := rRaw p bs e0 h8 (by omega) _ (hG2 _ _) hb0
    generalize rawS bs e0 = u at *
    generalize hz4 : w.heap.size = g4 at *
    go_enter Try.func23, Try.ntmps23
    go_wp2_with fail
    refine hu.mono ?_
    rintro e w2 ⟨A1, c1, rfl, hle, R, Q⟩
    have KR := R.holds
    have K5 := KR.f3
    have K4 := KR.f4
    have c50 := K5.c 0 (.int .i64 4) rfl
    have c51 := K5.c 1 (.int .u64 0) rfl
    have c52 := K5.c 2 (.int .i64 0) rfl
    have c53 := K5.c 3 (.slice none 0 0) rfl
    have c54 := K5.c 4 (.slice none 0 0) rfl
    have f5 := fun i => K5.frozen i
    have l5 := K5.lt
    have c40 := K4.c 0 (.int .i64 0) rfl
    have c41 := K4.c 1 (.int .u64 0) rfl
    have c42 := K4.c 2 (.int .i64 0) rfl
    have c43 := K4.c 3 (.slice none 0 0) rfl
    have c44 := K4.c 4 (.slice none 0 0) rfl
    have f4 := fun i => K4.frozen i
    have l4 := K4.lt
    go_wp2
    have KF := (K5.set 3 (.slice A1 u.1.length c1)).f4.f2
    have KE := readEnd KF
    have r0 := KE.c 0 (.int .i64 4) rfl
    have r1 := KE.c 1 (.int .u64 0) rfl
    have r2 := KE.c 2 (.int .i64 0) rfl
    have r3 := KE.c 3 (.slice A1 u.1.length c1) rfl
    have r4 := KE.c 4 (.slice none 0 0) rfl
    exact bodyPost_ret (v := .agg #[.int .i64 4, .int .u64 0, .int .i64 0, .slice A1 u.1.length c1, .slice none 0 0]) (by simp [results, Try.results23, go_sem, r0, r1, r2, r3, r4]) rfl
      ⟨A1, c1, none, 0, rfl, hle, Nat.le_refl _, RdS.of ((KE.drop.f2.view.f2.nilView .i64).b3), calm5 (((hq _ _).trans Q).setCell _ _) _ _ _ _ _ _⟩
  · have hv : vS 5 bs e0 = (⟨5, 0, 0, [], (intsS bs e0).1⟩, (intsS bs e0).2.1, (intsS bs e0).2.2) := rfl
    rw [hv]
    clear hv
    have hu := rInts p bs e0 h8 (by omega) _ (hG2 _ _) hb0
    generalize intsS bs e0 = u at *
    generalize hz4 : w.heap.size = g4 at *
    go_enter Try.func23, Try.ntmps23
    go_wp2_with fail
    refine hu.mono ?_
    rintro e w2 ⟨A1, c1, rfl, hle, R, Q⟩
    have KR := R.holds
    have K5 := KR.f3
    have K4 := KR.f4
    have c50 := K5.c 0 (.int .i64 5) rfl
    have c51 := K5.c 1 (.int .u64 0) rfl
    have c52 := K5.c 2 (.int .i64 0) rfl
    have c53 := K5.c 3 (.slice none 0 0) rfl
    have c54 := K5.c 4 (.slice none 0 0) rfl
    have f5 := fun i => K5.frozen i
    have l5 := K5.lt
    have c40 := K4.c 0 (.int .i64 0) rfl
    have c41 := K4.c 1 (.int .u64 0) rfl
    have c42 := K4.c 2 (.int .i64 0) rfl
    have c43 := K4.c 3 (.slice none 0 0) rfl
    have c44 := K4.c 4 (.slice none 0 0) rfl
    have f4 := fun i => K4.frozen i
    have l4 := K4.lt
    go_wp2
    have KF := (K5.set 4 (.slice A1 u.1.length c1)).f4.f2
    have KE := readEnd KF
    have r0 := KE.c 0 (.int .i64 5) rfl
    have r1 := KE.c 1 (.int .u64 0) rfl
    have r2 := KE.c 2 (.int .i64 0) rfl
    have r3 := KE.c 3 (.slice none 0 0) rfl
    have r4 := KE.c 4 (.slice A1 u.1.length c1) rfl
    exact bodyPost_ret (v := .agg #[.int .i64 5, .int .u64 0, .int .i64 0, .slice none 0 0, .slice A1 u.1.length c1]) (by simp [results, Try.results23, go_sem, r0, r1, r2, r3, r4]) rfl
      ⟨none, 0, A1, c1, rfl, Nat.le_refl _, hle, RdS.of ((KE.drop.f2.view.f2.nilView .u8).f2), calm5 (((hq _ _).trans Q).setCell _ _) _ _ _ _ _ _⟩

set_option maxRecDepth 100000 in
set_option maxHeartbeats 2000000 in
theorem Same_eq (x : Val) (A1 : Option Addr) (c1 : Nat) (A2 : Option Addr) (c2 : Nat) (B1 : Option Addr) (k1 : Nat) (B2 : Option Addr) (k2 : Nat) (hb : x.b.length ≤ 1099511627776) (hl : x.l.length ≤ 1099511627776) (w : World) {F : List Hp} (H : Holds w F) (h1 : (Kd.int .u8).C w A1 x.b.length x.b) (h2 : (Kd.int .i64).C w A2 x.l.length x.l) (h3 : (Kd.int .u8).C w B1 x.b.length x.b) (h4 : (Kd.int .i64).C w B2 x.l.length x.l) :
    Calls Try.prog 22 #[.agg #[.int .i64 x.kind, .int .u64 x.u, .int .i64 x.n, .slice A1 x.b.length c1, .slice A2 x.l.length c2], .agg #[.int .i64 x.kind, .int .u64 x.u, .int .i64 x.n, .slice B1 x.b.length k1, .slice B2 x.l.length k2]] w fun e w' => e = .returned (.bool true) ∧ Holds w' F ∧ Calm w w' := by
  have HB := (H.box 47 #[.int .i64 x.kind, .int .u64 x.u, .int .i64 x.n, .slice A1 x.b.length c1, .slice A2 x.l.length c2]).box 47 #[.int .i64 x.kind, .int .u64 x.u, .int .i64 x.n, .slice B1 x.b.length k1, .slice B2 x.l.length k2]
  rw [World.size_alloc] at HB
  have Q := ((Calm.refl w).alloc (.cells #[.int .i64 x.kind, .int .u64 x.u, .int .i64 x.n, .slice A1 x.b.length c1, .slice A2 x.l.length c2] 47)).alloc (.cells #[.int .i64 x.kind, .int .u64 x.u, .int .i64 x.n, .slice B1 x.b.length k1, .slice B2 x.l.length k2] 47)
  have g1 := Kd.C_alloc (Kd.C_alloc h1 (.cells #[.int .i64 x.kind, .int .u64 x.u, .int .i64 x.n, .slice A1 x.b.length c1, .slice A2 x.l.length c2] 47)) (.cells #[.int .i64 x.kind, .int .u64 x.u, .int .i64 x.n, .slice B1 x.b.length k1, .slice B2 x.l.length k2] 47)
  have g2 := Kd.C_alloc (Kd.C_alloc h2 (.cells #[.int .i64 x.kind, .int .u64 x.u, .int .i64 x.n, .slice A1 x.b.length c1, .slice A2 x.l.length c2] 47)) (.cells #[.int .i64 x.kind, .int .u64 x.u, .int .i64 x.n, .slice B1 x.b.length k1, .slice B2 x.l.length k2] 47)
  have g3 := Kd.C_alloc (Kd.C_alloc h3 (.cells #[.int .i64 x.kind, .int .u64 x.u, .int .i64 x.n, .slice A1 x.b.length c1, .slice A2 x.l.length c2] 47)) (.cells #[.int .i64 x.kind, .int .u64 x.u, .int .i64 x.n, .slice B1 x.b.length k1, .slice B2 x.l.length k2] 47)
  have g4 := Kd.C_alloc (Kd.C_alloc h4 (.cells #[.int .i64 x.kind, .int .u64 x.u, .int .i64 x.n, .slice A1 x.b.length c1, .slice A2 x.l.length c2] 47)) (.cells #[.int .i64 x.kind, .int .u64 x.u, .int .i64 x.n, .slice B1 x.b.length k1, .slice B2 x.l.length k2] 47)
  clear h1 h2 h3 h4
  obtain ⟨k, u, n, b, l⟩ := x
  dsimp only at *
  have e1 : (k == k) = true := beq_self_eq_true k
  have e2 : (u == u) = true := beq_self_eq_true u
  have e3 : (n == n) = true := beq_self_eq_true n
  go_enter Try.func22, Try.ntmps22
  go_wp2_with fail
  refine (SameBytes_calls A1 c1 b B1 k1 b _ g1 g3 (by omega)).mono ?_
  rintro e w1 ⟨rfl, D1⟩
  rw [show decide (b = b) = true from decide_eq_true rfl]
  obtain ⟨⟨m1, rfl⟩⟩ := D1
  go_wp2_with fail
  refine (SameInts_calls A2 c2 l B2 k2 l _ (Kd.C_drewN g2 m1) (Kd.C_drewN g4 m1) (by omega)).mono ?_
  rintro e w2 ⟨rfl, D2⟩
  rw [show decide (l = l) = true from decide_eq_true rfl]
  obtain ⟨⟨m2, rfl⟩⟩ := D2
  go_wp2
  go_ret
  exact ⟨rfl, (HB.drewN _).drop.drop, Q.drewN _⟩
end Go.Proofs.Ythkmfmcofkcjeaa
