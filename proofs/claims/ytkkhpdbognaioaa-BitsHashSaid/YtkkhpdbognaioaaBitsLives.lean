/- The examples of package bits' section: lives returns true. -/
import Derived.Test.YtkkhpdbognaioaaBitsR
namespace Go.Proofs.Ytkkhpdbognaioaa
set_option linter.unusedVariables false
set_option linter.unusedSimpArgs false
open Go.RowKit Go.Shelf Go.Proofs.YtkkhpdbognaioaaW.PrintWords Go.Proofs.YtkkhpdbognaioaaW.PrintLast Go.Proofs.YtkkhpdbognaioaaW.PrintMore

/-- A new Writer. -/
theorem Holds.bwNew {w : World} {F : List Hp} (h : Holds w F) : Holds (w.alloc (.cells #[.slice none 0 0, .int .i64 0] 31)) (bwH w.heap.size [] :: F) :=
  (((h.box 31 #[.slice none 0 0, .int .i64 0]).nilRow (Kd.int .u8) 5).f2).bwShut

set_option maxRecDepth 100000 in
set_option maxHeartbeats 4000000 in
theorem lives_calls (w : World) {F : List Hp} (H : Holds w F) : Calls Try.prog 20 #[] w fun e w' => e = .returned (.bool true) ∧ Holds w' F ∧ Calm w w' := by
  have H0 := H.bwNew
  have Q0 := (Calm.refl w).alloc (.cells #[.slice none 0 0, .int .i64 0] 31)
  obtain ⟨p, hp⟩ : ∃ p, w.heap.size = p := ⟨_, rfl⟩
  rw [hp] at H0
  go_enter Try.func20, Try.ntmps20
  go_wp2_with fail
  generalize w.alloc (.cells #[.slice none 0 0, .int .i64 0] 31) = w0 at *
  refine (bBits p [] 5 (by decide) 4 (by decide) w0 H0).mono ?_
  rintro e w1 ⟨rfl, H1, Q1⟩
  rw [show [] ++ bitsN 5 (clampN 4 64) = [false, true, false, true] by decide] at H1
  go_wp2_with fail
  refine (bUnary p [false, true, false, true] 2 (by decide) w1 H1).mono ?_
  rintro e w2 ⟨rfl, H2, Q2⟩
  rw [show [false, true, false, true] ++ unaryB (clampN 2 65536) = [false, true, false, true, true, true, false] by decide] at H2
  obtain ⟨L, hL⟩ : ∃ L : List Bool, Hid (L = [false, true, false, true, true, true, false]) := ⟨_, rfl⟩
  rw [← hL.out] at H2
  have hl7 : L.length = 7 := by rw [hL.out]; rfl
  have hpk : pack L = [92] := by rw [hL.out]; decide
  have hdone := bDone p L (by omega) w2 H2
  have hlen := fun W (K : Holds W (bwH p L :: F)) => bLen p L W K
  rw [hpk] at hdone
  have Hl7 := Lib.hid hl7
  clear hl7 hpk
  go_wp2_with fail
  refine hdone.mono ?_
  rintro e w3 ⟨A, c, rfl, H3, hc3, Q3⟩
  dsimp only [List.length_singleton] at H3 hc3 ⊢
  go_wp2_with fail
  refine (bRead A c [92] (by decide) w3 H3 H3.row'.2.2).mono ?_
  rintro e w4 ⟨r, rfl, H4, Q4⟩
  go_wp2_with fail
  refine (bRead A c [92] (by decide) w4 H4 H4.drop.row'.2.2).mono ?_
  rintro e w5 ⟨x, rfl, H5, Q5⟩
  -- H5 : x, r, the bytes, the Writer
  have h92 : AllU8' [92] := by unfold AllU8'; decide
  have Q6 := ((((Q0.trans Q1).trans Q2).trans Q3).trans Q4).trans Q5
  clear Q0 Q1 Q2 Q3 Q4 Q5 H0 H1 H2 H3 H4 hdone
  go_wp2_with fail
  refine (rBits r [92] h92 0 0 4 (by decide) (by decide) w5 H5.f2).mono ?_
  rintro e w6 ⟨rfl, H6, Q7⟩
  rw [show bitsR (unpack [92]) 0 0 (clampN 4 64) = (5, 4, 0) by decide] at H6 ⊢
  dsimp only at H6 ⊢
  rw [show ((5 : Nat) : Int) = 5 from rfl]
  go_wp2_with fail
  refine (rUnary r [92] h92 4 0 2 (by decide) (by decide) w6 H6).mono ?_
  rintro e w7 ⟨rfl, H7, Q8⟩
  rw [show unaryR (unpack [92]) 4 0 2 = (2, 7, 0) by decide] at H7 ⊢
  dsimp only at H7 ⊢
  rw [show ((2 : Nat) : Int) = 2 from rfl]
  go_wp2_with fail
  refine (rBits x [92] h92 0 0 4 (by decide) (by decide) w7 H7.f2).mono ?_
  rintro e w8 ⟨rfl, H8, Q9⟩
  rw [show bitsR (unpack [92]) 0 0 (clampN 4 64) = (5, 4, 0) by decide] at H8 ⊢
  dsimp only at H8 ⊢
  go_wp2_with fail
  refine (rUnary x [92] h92 4 0 1 (by decide) (by decide) w8 H8).mono ?_
  rintro e w9 ⟨rfl, H9, Q10⟩
  rw [show unaryR (unpack [92]) 4 0 1 = (0, 4, 4) by decide] at H9 ⊢
  dsimp only at H9 ⊢
  -- H9 : x, r, the bytes, the Writer
  have Q11 := (((Q6.trans Q7).trans Q8).trans Q9).trans Q10
  have hln := bLen p L w9 H9.f4
  rw [Hl7.out] at hln
  clear Q6 Q7 Q8 Q9 Q10 H5 H6 H7 H8 hlen
  go_wp2_with fail
  refine hln.mono ?_
  rintro e _ ⟨rfl, rfl⟩
  have H12 := H9.lit .u8 5 [92] (by decide)
  have Q12 := Q11.alloc (.cells (nums .u8 [92]).toArray 5)
  have hCA : (Kd.int .u8).C (w9.alloc (.cells (nums .u8 [92]).toArray 5)) A 1 [92] := H12.f4.row'.2.2
  rw [show ((7 : Nat) : Int) = 7 from rfl]
  go_wp2_with fail
  refine (SameBytes_H A c 1 [92] _ 1 1 [92] true (decide_eq_true rfl) _ rfl rfl hCA H12.row'.2.2 (by decide) H12).mono ?_
  rintro e w13 ⟨rfl, H13, Q13⟩
  have Q14 := Q12.trans Q13
  clear Q12 Q13 Q11 H12 hCA hln
  go_wp2_with fail
  refine (rEndB r [92] h92 7 0 (by decide) (by decide) w13 H13.f3).mono ?_
  rintro e w14 ⟨rfl, H14, Q15⟩
  rw [show endB (unpack [92]) 7 0 = 0 by decide]
  go_wp2_with fail
  refine (rAt r [92] 7 0 w14 H14).mono ?_
  rintro e _ ⟨rfl, rfl⟩
  rw [show ((7 : Nat) : Int) = 7 from rfl]
  go_wp2_with fail
  refine (rEndB x [92] h92 4 4 (by decide) (by decide) w14 H14.f3).mono ?_
  rintro e w15 ⟨rfl, H15, Q16⟩
  rw [show endB (unpack [92]) 4 4 = 4 by decide]
  go_wp2
  go_ret
  exact ⟨rfl, H15.drop.drop.drop.drop.drop, (Q14.trans Q15).trans Q16⟩
end Go.Proofs.Ytkkhpdbognaioaa
