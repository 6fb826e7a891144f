/- The law BitsReads: the values, the positions and the errors of reads are the specified ones. -/
import Derived.Test.YtkkhpdbognaioaaBitsXR
namespace Go.Proofs.Ytkkhpdbognaioaa
set_option linter.unusedVariables false
set_option linter.unusedSimpArgs false
open Go.RowKit Go.Shelf Go.Proofs.YtkkhpdbognaioaaW.PrintWords Go.Proofs.YtkkhpdbognaioaaW.PrintLast Go.Proofs.YtkkhpdbognaioaaW.PrintMore

theorem bitsR_le {L : List Bool} {at_ k : Nat} {e : Int} (h : at_ ≤ L.length) : (bitsR L at_ e k).2.1 ≤ L.length := by
  unfold bitsR
  split
  · split
    · exact h
    · dsimp only; omega
  · exact h
theorem unaryR_le {L : List Bool} {at_ : Nat} {e limit : Int} (h : at_ ≤ L.length) : (unaryR L at_ e limit).2.1 ≤ L.length := by
  unfold unaryR
  split
  · obtain ⟨m, h1, h2⟩ := unR_spec at_ limit (L.drop at_) 0
    rw [List.length_drop] at h1 h2
    rcases h2 with ⟨a, b, c, d, e⟩ | ⟨a, b, c⟩ <;> omega
  · exact h
theorem Holds.xrAt {w : World} {p at_ : Nat} {L : List Bool} {e : Int} {F : List Hp} (h : Holds w (xrdH p L at_ e :: F)) : w.cell? ⟨p, 1, none⟩ = some (.int .i64 (at_ : Int)) := by
  obtain ⟨A, c, H⟩ := h.xrOpen
  exact H.c 1 _ rfl

set_option maxRecDepth 100000 in
set_option maxHeartbeats 16000000 in
theorem BitsReads_walk (a0 : Option Addr) (len0 cap0 : Nat) (z0 : List Int) (a1 : Option Addr) (len1 cap1 : Nat) (z1 : List Int) (a2 : Int) (w : World)
    (w0 : IsRow .u8 w a0 len0 cap0 z0) (y0 : len0 * 1 ≤ 140737488351232) (w1 : IsRow .i64 w a1 len1 cap1 z1) (y1 : len1 * 8 ≤ 140737488351232) (wf2 : (Lit.int .i64 a2).wf = true) :
    Calls Try.prog 4 #[.slice a0 len0 cap0, .slice a1 len1 cap1, .int .i64 a2] w fun e w' => e = .returned (.bool true) ∧ Below w.heap.size w w' := by
  obtain ⟨b, rfl, hbc, hCb, hwb⟩ := row_in w0
  obtain ⟨m, rfl, hmc, hCm, hwm⟩ := row_in w1
  have hb8 : AllU8 b := u8_of_wf hwb
  have HB := Lib.hid hb8
  have HWM := Lib.hid hwm
  clear w0 w1 hwb hwm hb8 wf2
  have H0 := Holds.start w
  go_enter Try.func4, Try.ntmps4
  go_wp2_with fail
  refine (Few_H a0 cap0 b 60 (by omega) (by omega) w hCb hbc H0).mono ?_
  rintro e w10 ⟨A10, c10, rfl, H10, Q10⟩
  rw [show (60 : Int).toNat = 60 from rfl] at H10 ⊢
  obtain ⟨U, hU⟩ : ∃ U : List Int, Hid (b.take 60 = U) := ⟨_, Lib.hid rfl⟩
  rw [hU.out] at H10 ⊢
  have hU8 : Hid (AllU8' U) := by rw [← hU.out]; exact allU8_take HB.out _
  have hUl : U.length ≤ 60 := by rw [← hU.out, List.length_take]; omega
  go_wp2_with fail
  refine (bRead A10 c10 U (by omega) w10 H10 H10.row'.2.2).mono ?_
  rintro e w11 ⟨r, rfl, H11, Q11⟩
  have hup := fun W F (K : Holds W F) R => xUnpack A10 c10 U hU8.out (by omega) W K R
  have hLl := unpack_length U
  obtain ⟨L, hL⟩ : ∃ L, Hid (unpack U = L) := ⟨_, Lib.hid rfl⟩
  rw [hL.out] at hup hLl
  have HLl := Lib.hid hLl
  have hL480 : L.length ≤ 480 := by omega
  clear hLl
  go_wp2_with fail
  refine (hup w11 _ H11 ((Rd.row _).cons _)).mono ?_
  rintro e w12 ⟨A12, c12, rfl, H12, hc12, Q12⟩
  clear hup
  have H13 := H12.box 49 #[.slice A12 L.length c12, .int .i64 0, .int .i64 0]
  have H14 := (H13.xrShut (at_ := 0)).f2
  have Q13 := ((Q10.trans Q11).trans Q12).alloc (.cells #[.slice A12 L.length c12, .int .i64 0, .int .i64 0] 49)
  clear Q10 Q11 Q12 H10 H11 H12 H13 H0
  go_wp2_with fail
  generalize w12.heap.size = q at *
  generalize w12.alloc (.cells #[.slice A12 L.length c12, .int .i64 0, .int .i64 0] 49) = w13 at *
  go_loopw [10] (fun iv wr => ∃ (i at_ : Nat) (e : Int), i ≤ 14 ∧ iv = .int .i64 (i : Int) ∧ at_ ≤ L.length ∧ Holds wr [rdH r U at_ e, xrdH q L at_ e, rowH (Kd.int .u8) 5 (.slice A10 U.length c10) U, oldH w] ∧ Calm w wr) (fun iv _ => 14 - (intOf iv).toNat)
  case atStart => exact ⟨0, 0, 0, by omega, rfl, by omega, H14, Q13⟩
  case round =>
    clear H14 Q13
    obtain ⟨i, at_, e, hi, rfl, hat, H1, Q1⟩ := hrel
    by_cases hgo : i < m.length ∧ i < 14
    · obtain ⟨hm1, h14⟩ := hgo
      have him : (i : Int) < (m.length : Int) := by omega
      have hi14 : (i : Int) < 14 := by omega
      obtain ⟨kx, hkx⟩ : ∃ kx : Int, Hid (m[i]?.getD 0 = kx) := ⟨_, Lib.hid rfl⟩
      have hkw : (Lit.int .i64 kx).wf = true := by
        rw [← hkx.out, List.getElem?_eq_getElem hm1]
        exact HWM.out _ (List.getElem_mem hm1)
      have hkr := wf_range hkw
      obtain ⟨ad, had, hcell⟩ := at_nat (Rd.old_int hCm [] wr H1.drop.drop.drop) hm1
      rw [hkx.out] at hcell
      subst had
      have hk0 := hkr.1
      have hk1 := hkr.2
      obtain ⟨k, hk, hk68⟩ := around_name (kx.tdiv 2) 68 (by omega)
      have hA := Around_at (kx.tdiv 2) 68 k hk (tdiv_wf hkw 2 (by omega)) (by omega) (by omega) wr
      clear hk hkw hkr
      have hEnds := fun at1 e1 (h1 : at1 ≤ L.length) W F (K : Holds W (rdH r U at1 e1 :: xrdH q L at1 e1 :: F)) => (show Calls Try.prog 30 #[.pointer (some ⟨r, 0, none⟩)] W (fun e w' => e = .returned (.int .i64 (endB L at1 e1)) ∧ Holds w' (rdH r U at1 e1 :: xrdH q L at1 e1 :: F) ∧ Calm W w') from by
        have := rEndB r U hU8.out at1 e1 (by omega) (by have := HLl.out; omega) W K
        rw [hL.out] at this
        exact this)
      have hxEnd := fun at1 e1 (h1 : at1 ≤ L.length) W F (K : Holds W (xrdH q L at1 e1 :: F)) => xrEnd q L at1 e1 (by omega) h1 W K
      go_wp2_with fail
      refine hA.mono ?_
      rintro e _ ⟨rfl, rfl⟩
      clear hA
      by_cases hpar : kx.tmod 2 = 0
      focus
        have hparb : (kx.tmod 2 == 0) = true := by rw [hpar]; rfl
        have hrb := rBits r U hU8.out at_ e ((k : Int) - 2) (by omega) (by have := HLl.out; omega) wr H1
        have hxb := fun W F (K : Holds W (xrdH q L at_ e :: F)) => xrBits q L at_ e ((k : Int) - 2) (by omega) hat W K
        have hle := bitsR_le (e := e) (k := clampN ((k : Int) - 2) 64) hat
        rw [hL.out] at hrb
        obtain ⟨t, ht⟩ : ∃ t, Hid (bitsR L at_ e (clampN ((k : Int) - 2) 64) = t) := ⟨_, Lib.hid rfl⟩
        rw [ht.out] at hrb hxb hle
        go_wp2_with fail
        refine hrb.mono ?_
        rintro e w2 ⟨rfl, H2, Q2⟩
        go_wp2_with fail
        refine (hxb w2 _ H2.f2).mono ?_
        rintro e w3 ⟨rfl, H3, Q3⟩
        clear hrb hxb
        have H4 := H3.f2
        have Q4 := (Q1.trans Q2).trans Q3
        clear H1 H2 H3 Q1 Q2 Q3 ht
        have hE1 := hEnds t.2.1 t.2.2 hle
        have hE2 := hxEnd t.2.1 t.2.2 hle
        clear hEnds hxEnd
        obtain ⟨at1, hat1⟩ : ∃ x, x = t.2.1 := ⟨_, rfl⟩
        obtain ⟨e1, he1⟩ : ∃ x, x = t.2.2 := ⟨_, rfl⟩
        rw [← hat1] at H4 hE1 hE2 hle
        rw [← he1] at H4 hE1 hE2
        clear hat1 he1
        go_wp2_with fail
      rotate_left
      focus
        have hparb : (kx.tmod 2 == 0) = false := by simpa using hpar
        by_cases h5 : i % 5 = 4
        focus
          have h5b : ((i : Int) % 5 == 4) = true := by simp; omega
          have hrb := rUnary r U hU8.out at_ e a2 (by omega) (by have := HLl.out; omega) wr H1
          have hxb := fun W F (K : Holds W (xrdH q L at_ e :: F)) => xrUnary q L at_ e a2 (by omega) hat W K
          have hle := unaryR_le (e := e) (limit := a2) hat
          rw [hL.out] at hrb
          obtain ⟨t, ht⟩ : ∃ t, Hid (unaryR L at_ e a2 = t) := ⟨_, Lib.hid rfl⟩
          rw [ht.out] at hrb hxb hle
          go_wp2_with fail
          refine hrb.mono ?_
          rintro e w2 ⟨rfl, H2, Q2⟩
          go_wp2_with fail
          refine (hxb w2 _ H2.f2).mono ?_
          rintro e w3 ⟨rfl, H3, Q3⟩
          clear hrb hxb
          have H4 := H3.f2
          have Q4 := (Q1.trans Q2).trans Q3
          clear H1 H2 H3 Q1 Q2 Q3 ht
          have hE1 := hEnds t.2.1 t.2.2 hle
          have hE2 := hxEnd t.2.1 t.2.2 hle
          clear hEnds hxEnd
          obtain ⟨at1, hat1⟩ : ∃ x, x = t.2.1 := ⟨_, rfl⟩
          obtain ⟨e1, he1⟩ : ∃ x, x = t.2.2 := ⟨_, rfl⟩
          rw [← hat1] at H4 hE1 hE2 hle
          rw [← he1] at H4 hE1 hE2
          clear hat1 he1
          go_wp2_with fail
        rotate_left
        focus
          have h5b : ((i : Int) % 5 == 4) = false := by simp; omega
          have hrb := rUnary r U hU8.out at_ e ((k : Int) - 2) (by omega) (by have := HLl.out; omega) wr H1
          have hxb := fun W F (K : Holds W (xrdH q L at_ e :: F)) => xrUnary q L at_ e ((k : Int) - 2) (by omega) hat W K
          have hle := unaryR_le (e := e) (limit := ((k : Int) - 2)) hat
          rw [hL.out] at hrb
          obtain ⟨t, ht⟩ : ∃ t, Hid (unaryR L at_ e ((k : Int) - 2) = t) := ⟨_, Lib.hid rfl⟩
          rw [ht.out] at hrb hxb hle
          go_wp2_with fail
          refine hrb.mono ?_
          rintro e w2 ⟨rfl, H2, Q2⟩
          go_wp2_with fail
          refine (hxb w2 _ H2.f2).mono ?_
          rintro e w3 ⟨rfl, H3, Q3⟩
          clear hrb hxb
          have H4 := H3.f2
          have Q4 := (Q1.trans Q2).trans Q3
          clear H1 H2 H3 Q1 Q2 Q3 ht
          have hE1 := hEnds t.2.1 t.2.2 hle
          have hE2 := hxEnd t.2.1 t.2.2 hle
          clear hEnds hxEnd
          obtain ⟨at1, hat1⟩ : ∃ x, x = t.2.1 := ⟨_, rfl⟩
          obtain ⟨e1, he1⟩ : ∃ x, x = t.2.2 := ⟨_, rfl⟩
          rw [← hat1] at H4 hE1 hE2 hle
          rw [← he1] at H4 hE1 hE2
          clear hat1 he1
          go_wp2_with fail
        rotate_left
      rotate_left
      all_goals
        have x0 := H4.f2.xrAt
        go_region_held3 (fun w' => w'.cell? ⟨q, 1, none⟩ = some (.int .i64 (at1 : Int)))
          (first | exact x0 | exact x1 | exact x2)
          (first | (go_at_call 29; refine (rAt r U at1 e1 _ H4.drew).mono ?_; rintro e _ ⟨rfl, rfl⟩) | (go_at_call 30; refine (hE1 _ _ H4.drew).mono ?_; rintro e w5 ⟨rfl, H5, Q5⟩; have x1 := H5.f2.xrAt) | (go_at_call 31; refine (hE2 _ _ H5.f2).mono ?_; rintro e w6 ⟨rfl, H6, Q6⟩; have x2 := H6.xrAt))
        go_wp2
        go_roundw
        case rel => exact ⟨i + 1, at1, e1, by omega, by go_num, hle, H6.f2, (Q4.drew.trans Q5).trans Q6⟩
        case measure => simp [intOf]; omega
    · by_cases hlt : i < m.length
      focus
        have him : (i : Int) < (m.length : Int) := by omega
        have hi14 : ¬ (i : Int) < 14 := by omega
        go_wp2_with fail
      rotate_left
      focus
        have him : ¬ (i : Int) < (m.length : Int) := by omega
        go_wp2_with fail
      all_goals
        refine (lives_calls wr H1).mono ?_
        rintro e w6 ⟨rfl, H6, Q6⟩
        have HB := Lib.hid (H6.drop.drop.drop.old (Q1.trans Q6))
        go_wp2
        go_ret
        exact ⟨rfl, HB.out⟩
end Go.Proofs.Ytkkhpdbognaioaa
