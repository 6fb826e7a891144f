/- The examples of package wire's section: lives returns true. -/
import Derived.Test.YthkmfmcofkcjeaaWireR2
namespace Go.Proofs.Ythkmfmcofkcjeaa
set_option linter.unusedVariables false
set_option linter.unusedSimpArgs false
open Go.RowKit Go.Shelf Go.Proofs.YthkmfmcofkcjeaaW.PrintWords Go.Proofs.YthkmfmcofkcjeaaW.PrintLast Go.Proofs.YthkmfmcofkcjeaaW.PrintMore

/-- A new Writer. -/
theorem Holds.wrNew {w : World} {F : List Hp} (h : Holds w F) : Holds (w.alloc (.cells #[.slice none 0 0] 26)) (wrH w.heap.size [] :: F) :=
  (((h.box 26 #[.slice none 0 0]).nilRow (Kd.int .u8) 5).f2).wrShut

theorem e300 : encN 300 = [172, 2] := by rw [encN_ge (by omega), encN_lt (by omega)]; rfl
theorem em1 : encN (zz (-1)) = [1] := by rw [encN_lt (by decide)]; rfl
theorem e2 : encN 2 = [2] := by rw [encN_lt (by decide)]; rfl

set_option maxRecDepth 100000 in
set_option maxHeartbeats 4000000 in
theorem lives_calls (w : World) {F : List Hp} (H : Holds w F) : Calls Try.prog 17 #[] w fun e w' => e = .returned (.bool true) ∧ Holds w' F ∧ Calm w w' := by
  have H0 := H.wrNew
  have Q0 := (Calm.refl w).alloc (.cells #[.slice none 0 0] 26)
  go_enter Try.func17, Try.ntmps17
  go_wp2_with fail
  generalize w.heap.size = p at *
  refine (wUint p [] 300 (by decide) (by decide) _ H0).mono ?_
  rintro e w1 ⟨rfl, H1, Q1⟩
  rw [e300] at H1
  go_wp2_with fail
  refine (wInt p ([] ++ [172, 2]) (-1) (by unfold I64; omega) (by decide) _ H1).mono ?_
  rintro e w2 ⟨rfl, H2, Q2⟩
  rw [em1] at H2
  go_wp2_with fail
  refine (wText p ([] ++ [172, 2] ++ [1]) ⟨#[97, 98]⟩ (by decide) (by decide) _ H2).mono ?_
  rintro e w3 ⟨rfl, H3, Q3⟩
  have e97 : [] ++ [172, 2] ++ [1] ++ (encN (ByteArray.size ⟨#[97, 98]⟩) ++ bytesOf ⟨#[97, 98]⟩) = [172, 2, 1, 2, 97, 98] := by
    rw [show ByteArray.size ⟨#[97, 98]⟩ = 2 from rfl, e2]
    rfl
  rw [e97] at H3
  clear e97
  have Q3' := (((Q0.trans Q1).trans Q2).trans Q3)
  clear Q0 Q1 Q2 Q3 H0 H1 H2
  obtain ⟨L, hL⟩ : ∃ L : List Int, Hid (L = [172, 2, 1, 2, 97, 98]) := ⟨_, rfl⟩
  rw [← hL.out] at H3
  have hl6 : L.length ≤ 6 := by rw [hL.out]; decide
  have h8 : U8s L := by rw [hL.out]; unfold U8s; decide
  have H8 := Lib.hid h8
  clear h8
  go_wp2_with fail
  refine (wDone p L (by omega) _ H3).mono ?_
  rintro e w4 ⟨A, c, rfl, H4, hc4, Q4⟩
  go_wp2_with fail
  refine (read_calls A c L (by omega) w4 H4 H4.row'.2.2).mono ?_
  rintro e w5 ⟨r, AL, rfl, R5, Q5⟩
  have H5 := R5.holds
  have Q5' := (Q3'.trans Q4).trans Q5
  clear R5 Q3' Q4 Q5 H4 H3
  have H6 := H5.lit .u8 5 [128, 0] (by decide)
  have Q6' := Q5'.alloc (.cells #[.int .u8 128, .int .u8 0] 5)
  go_wp2_with fail
  refine (read_calls _ 2 [128, 0] (by decide) _ H6 H6.row'.2.2).mono ?_
  rintro e w7 ⟨rb, AB, rfl, R7, Q7⟩
  have H7 := R7.holds
  have Q7' := Q6'.trans Q7
  clear Q5' Q6' Q7 H6 H5 R7
  -- the first reader
  go_wp2_with fail
  refine (rUintS r L 0 H8.out w7 (G := [viewH .u8 AL L]) (((((Sub.head _ _).cons _).cons _).cons _)) (RdS.of H7.f4)).mono ?_
  rintro e w8 ⟨rfl, R8, Q8⟩
  rw [show uS L 0 = (300, [1, 2, 97, 98], 0) by rw [hL.out]; rfl] at R8 ⊢
  dsimp only at R8 ⊢
  rw [show ((300 : Nat) : Int) = 300 from rfl]
  have H8' := R8.holds
  go_wp2_with fail
  refine (rInt r [1, 2, 97, 98] 0 (by unfold U8s; decide) w8 (G := [viewH .u8 AL L]) (((((Sub.head _ _).cons _).cons _).cons _)) (RdS.of H8')).mono ?_
  rintro e w9 ⟨rfl, R9, Q9⟩
  rw [show uS [1, 2, 97, 98] 0 = (1, [2, 97, 98], 0) by rfl] at R9 ⊢
  rw [show unzz ((1, [2, 97, 98], 0) : Nat × List Int × Int).1 = -1 by rfl]
  dsimp only at R9 ⊢
  have H9 := R9.holds
  go_wp2_with fail
  refine (rText r [2, 97, 98] 0 (by unfold U8s; decide) (by decide) w9 (G := [viewH .u8 AL L]) (((((Sub.head _ _).cons _).cons _).cons _)) (RdS.of H9)).mono ?_
  rintro e w10 ⟨rfl, R10, Q10⟩
  rw [show rawS [2, 97, 98] 0 = ([97, 98], [], 0) by rfl] at R10 ⊢
  rw [show strOfNums (([97, 98], [], 0) : List Int × List Int × Int).1 = ⟨#[97, 98]⟩ by rfl]
  dsimp only at R10 ⊢
  have H10 := R10.holds.f2
  go_wp2_with fail
  refine (rInt rb [128, 0] 0 (by unfold U8s; decide) w10 (G := [viewH .u8 AB [128, 0]]) ((Sub.head _ _).cons _) (RdS.of H10)).mono ?_
  rintro e w11 ⟨rfl, R11, Q11⟩
  rw [show uS [128, 0] 0 = (0, [], 2) by rfl] at R11 ⊢
  rw [show unzz ((0, [], 2) : Nat × List Int × Int).1 = 0 by rfl]
  dsimp only at R11 ⊢
  have H11 := R11.holds
  have Q11' := (((Q7'.trans Q8).trans Q9).trans Q10).trans Q11
  clear R8 R9 R10 R11 Q7' Q8 Q9 Q10 Q11 H7 H8' H9 H10
  -- the end
  have H12 := H11.lit .u8 5 [172, 2, 1, 2, 97, 98] (by decide)
  have Q12 := Q11'.alloc (.cells (nums .u8 [172, 2, 1, 2, 97, 98]).toArray 5)
  have hCA : (Kd.int .u8).C (w11.alloc (.cells (nums .u8 [172, 2, 1, 2, 97, 98]).toArray 5)) A L.length L := (H12.drop.drop.drop.drop.drop.drop).row'.2.2
  go_wp2_with fail
  refine (SameBytes_H A c L.length L _ 6 6 [172, 2, 1, 2, 97, 98] true (decide_eq_true hL.out) _ rfl rfl hCA H12.row'.2.2 (by omega) H12).mono ?_
  rintro e w13 ⟨rfl, H13, Q13⟩
  have Q13' := Q12.trans Q13
  clear Q12 Q13 Q11' H12 hCA
  go_wp2_with fail
  refine (rEnd r [] 0 w13 (G := [viewH .u8 AL L]) (RdS.of (H13.drop.f2))).mono ?_
  rintro e _ ⟨rfl, rfl⟩
  rw [show endE [] 0 = 0 from rfl]
  go_wp2_with fail
  refine (rEnd rb [] 2 w13 (G := [viewH .u8 AB [128, 0]]) (RdS.of H13.drop)).mono ?_
  rintro e _ ⟨rfl, rfl⟩
  rw [show endE [] 2 = 2 from rfl]
  go_wp2
  go_ret
  exact ⟨rfl, H13.drop.drop.drop.drop.drop.drop.drop.drop, Q13'⟩
end Go.Proofs.Ythkmfmcofkcjeaa
