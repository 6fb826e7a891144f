/- The law BitsHash: streams survive packages wire and bits, and their hashes are equal if and only if the streams are. -/
import Derived.Test.YtkkhpdbognaioaaBitsWire
import Derived.Test.YtkkhpdbognaioaaBitsRound
import Derived.Test.YtkkhpdbognaioaaHxSum
namespace Go.Proofs.Ytkkhpdbognaioaa
set_option linter.unusedVariables false
set_option linter.unusedSimpArgs false
open Go.RowKit Go.Shelf Go.Proofs.YtkkhpdbognaioaaW.PrintWords Go.Proofs.YtkkhpdbognaioaaW.PrintLast Go.Proofs.YtkkhpdbognaioaaW.PrintMore

theorem rawS_at (P rest : List Int) (h : P.length < 18446744073709551616) : rawS ((encN P.length ++ P) ++ rest) 0 = (P, rest, 0) := by
  unfold rawS rawRd
  rw [if_pos rfl, List.append_assoc, uRd_full _ h]
  simp only [if_true]
  rw [if_neg (by simp), List.take_left, List.drop_left]
theorem bitsR_pack (n c : Nat) : bitsR (unpack (pack (bitsN n c))) 0 0 c = (n % 2 ^ c, c, 0) := by
  have := bitsR_at [] (List.replicate (8 * nbytes (bitsN n c).length - (bitsN n c).length) false) n c
  rw [List.nil_append, ← unpack_pack, List.length_nil, Nat.zero_add] at this
  exact this
theorem endB_pack_at (n c : Nat) : endB (unpack (pack (bitsN n c))) c 0 = 0 := by
  have := endB_at (bitsN n c)
  rwa [bitsN_length] at this
theorem pack_bits_inj (m n c : Nat) : pack (bitsN m c) = pack (bitsN n c) ↔ m % 2 ^ c = n % 2 ^ c := by
  constructor
  · intro h
    have h1 := congrArg unpack h
    rw [unpack_pack, unpack_pack] at h1
    exact bitsN_inj (List.append_inj_left h1 (by simp [bitsN_length]))
  · intro h
    rw [← bitsN_mod m c, h, bitsN_mod]
theorem hash_short {s : ByteArray} (hs : s.size ≤ 140737488351232) {P R : List Int} (hP : AllU8' P) (hR : AllU8' R) (hl : P.length = R.length) (h8 : P.length ≤ 8) :
    Hx.sumI (bytesOf s) (Hx.bytesL P) = Hx.sumI (bytesOf s) (Hx.bytesL R) ↔ P = R := by
  by_cases h0 : P.length = 0
  · have e1 : P = [] := List.eq_nil_of_length_eq_zero h0
    have e2 : R = [] := List.eq_nil_of_length_eq_zero (by omega)
    subst e1 e2
    simp
  · exact Hx.sumI_group (Hx.bytesOf_u8 s) (by rw [bytesOf_length]; exact hs) hR hP (by omega) (g := 0) ⟨hl, fun i hi => by
      rw [List.getElem?_eq_none (by omega), List.getElem?_eq_none (by omega)]⟩ (by unfold Hx.nwords; omega)

set_option maxRecDepth 100000 in
set_option maxHeartbeats 16000000 in
theorem BitsHash_walk (a0 a1 a2 : Int) (s3 : ByteArray) (w : World)
    (wf0 : (Lit.int .u64 a0).wf = true) (wf1 : (Lit.int .u64 a1).wf = true) (wf2 : (Lit.int .i64 a2).wf = true) (y3 : s3.size ≤ 140737488351232) :
    Calls Try.prog 11 #[.int .u64 a0, .int .u64 a1, .int .i64 a2, .string s3] w fun e w' => e = .returned (.bool true) ∧ Below w.heap.size w w' := by
  obtain ⟨m, hm, hm64⟩ : ∃ n : Nat, a0 = (n : Int) ∧ n < 18446744073709551616 := ⟨a0.toNat, by
    simp [Lit.wf, IntKind.min, IntKind.max, IntKind.bits, IntKind.signed] at wf0
    omega⟩
  obtain ⟨n, hn, hn64⟩ : ∃ n : Nat, a1 = (n : Int) ∧ n < 18446744073709551616 := ⟨a1.toNat, by
    simp [Lit.wf, IntKind.min, IntKind.max, IntKind.bits, IntKind.signed] at wf1
    omega⟩
  subst hm hn
  obtain ⟨c, hc, hc65⟩ := around_name a2 65 (by omega)
  have hAc := fun W => Around_at a2 65 c hc wf2 (by omega) (by omega) W
  have hcl : clampN (c : Int) 64 = c := by unfold clampN; omega
  have hw := fun (x : Nat) (hx : x < 18446744073709551616) p W F (K : Holds W (bwH p [] :: F)) => bBits p [] x hx (c : Int) (by simp) W K
  simp only [hcl, List.nil_append] at hw
  have hlow := fun (x : Nat) (hx : x < 18446744073709551616) W => low_calls x hx (c : Int) W
  rw [hcl] at hlow
  have hdn := fun (x : Nat) p W F (K : Holds W (bwH p (bitsN x c) :: F)) => bDone p (bitsN x c) (by rw [bitsN_length]; omega) W K
  have hrb := fun (x : Nat) p W F (K : Holds W (rdH p (pack (bitsN x c)) 0 0 :: F)) => rBits p (pack (bitsN x c)) (pack_u8 _) 0 0 (c : Int) (by rw [pack_length, bitsN_length]; unfold nbytes; omega) (by omega) W K
  simp only [hcl, bitsR_pack] at hrb
  have hre := fun (x : Nat) p W F (K : Holds W (rdH p (pack (bitsN x c)) c 0 :: F)) => rEndB p (pack (bitsN x c)) (pack_u8 _) c 0 (by rw [pack_length, bitsN_length]; unfold nbytes; omega) (by rw [pack_length, bitsN_length]; unfold nbytes; omega) W K
  simp only [endB_pack_at] at hre
  have hwm := hw m hm64
  have hwn := hw n hn64
  have hlm := hlow m hm64
  have hln := hlow n hn64
  have hdm := hdn m
  have hdn' := hdn n
  have hrm := hrb m
  have hrn := hrb n
  have hem := hre m
  have hen := hre n
  have hinj := pack_bits_inj m n c
  have hXl : (pack (bitsN m c)).length = nbytes c := by rw [pack_length, bitsN_length]
  have hYl : (pack (bitsN n c)).length = nbytes c := by rw [pack_length, bitsN_length]
  have hX8 : Hid (AllU8' (pack (bitsN m c))) := pack_u8 _
  have hY8 : Hid (AllU8' (pack (bitsN n c))) := pack_u8 _
  clear hw hlow hdn hrb hre wf0 wf1 wf2 hc hcl
  generalize bitsN m c = S1 at *
  generalize bitsN n c = S2 at *
  generalize pack S1 = X at *
  generalize pack S2 = Y at *
  generalize m % 2 ^ c = p at *
  generalize n % 2 ^ c = q at *
  have hnb : nbytes c ≤ 8 := by unfold nbytes; omega
  have hX : X.length ≤ 8 := by omega
  have hY : Y.length ≤ 8 := by omega
  have hXY : Hid (X.length = Y.length) := by show _ = _; omega
  have Hinj := Lib.hid hinj
  clear hinj hXl hYl hnb
  have hz := shortS_size s3 20
  obtain ⟨E, hE⟩ : ∃ E : List Int, Hid ((encN X.length ++ X) ++ (encN Y.length ++ Y) = E) := ⟨_, Lib.hid rfl⟩
  have hE8 : Hid (AllU8' E) := by
    intro y hy
    rw [← hE.out] at hy
    rcases List.mem_append.1 hy with h | h <;> rcases List.mem_append.1 h with h | h
    · exact encN_u8 _ y h
    · exact hX8.out y h
    · exact encN_u8 _ y h
    · exact hY8.out y h
  have hEl : E.length ≤ 40 := by
    have h1 := encN_len 9 X.length (by simp only [Nat.reducePow, Nat.reduceAdd]; omega)
    have h2 := encN_len 9 Y.length (by simp only [Nat.reducePow, Nat.reduceAdd]; omega)
    rw [← hE.out]
    simp only [List.length_append]
    omega
  have hraw1 := rawS_at X (encN Y.length ++ Y) (by omega)
  have hraw2 := rawS_at Y [] (by omega)
  rw [List.append_nil] at hraw2
  rw [hE.out] at hraw1
  have H0 := (Holds.start w).bwNew
  have Q0 := (Calm.refl w).alloc (.cells #[.slice none 0 0, .int .i64 0] 31)
  go_enter Try.func11, Try.ntmps11
  go_wp2_with fail
  refine (hAc w).mono ?_
  rintro e _ ⟨rfl, rfl⟩
  clear hAc
  go_wp2_with fail
  generalize w.heap.size = x at *
  generalize w.alloc (.cells #[.slice none 0 0, .int .i64 0] 31) = w0 at *
  refine (hwm x w0 _ H0).mono ?_
  rintro e w2 ⟨rfl, H2, Q2⟩
  have H3 := H2.bwNew
  have Q3 := (Q0.trans Q2).alloc (.cells #[.slice none 0 0, .int .i64 0] 31)
  clear H0 Q0 H2 Q2
  go_wp2_with fail
  generalize w2.heap.size = y at *
  generalize w2.alloc (.cells #[.slice none 0 0, .int .i64 0] 31) = w3 at *
  refine (hwn y w3 _ H3).mono ?_
  rintro e w5 ⟨rfl, H5, Q5⟩
  have H6 := H5.wrNew
  have Q6 := (Q3.trans Q5).alloc (.cells #[.slice none 0 0] 63)
  clear hwm hwn H3 Q3 H5 Q5
  go_wp2_with fail
  generalize w5.heap.size = v at *
  generalize w5.alloc (.cells #[.slice none 0 0] 63) = w6 at *
  refine (hdm x w6 _ H6.f3).mono ?_
  rintro e w7 ⟨A7, c7, rfl, H7, hc7, Q7⟩
  go_wp2_with fail
  refine (wRaw v [] A7 c7 X hX8.out (by omega) (by simp) w7 H7.f3 (Rd.row _)).mono ?_
  rintro e w8 ⟨rfl, H8, Q8⟩
  rw [List.nil_append] at H8
  have Q9 := (Q6.trans Q7).trans Q8
  clear H6 Q6 H7 Q7 Q8
  go_wp2_with fail
  refine (hdn' y w8 _ H8.f4).mono ?_
  rintro e w9 ⟨A9, c9, rfl, H9, hc9, Q10⟩
  go_wp2_with fail
  refine (wRaw v (encN X.length ++ X) A9 c9 Y hY8.out (by omega) (by have := congrArg List.length hE.out; simp only [List.length_append] at this ⊢; omega) w9 H9.f3 (Rd.row _)).mono ?_
  rintro e w10 ⟨rfl, H10, Q11⟩
  rw [hE.out] at H10
  have Q12 := (Q9.trans Q10).trans Q11
  clear H8 H9 Q9 Q10 Q11 hdm hdn'
  go_wp2_with fail
  refine (wDone v E (by omega) w10 H10).mono ?_
  rintro e w11 ⟨A11, c11, rfl, H11, hc11, Q13⟩
  go_wp2_with fail
  refine (read_calls A11 c11 E (by omega) w11 H11 H11.row'.2.2).mono ?_
  rintro e w12 ⟨r, AL, rfl, R12, Q14⟩
  have Q15 := (Q12.trans Q13).trans Q14
  clear H10 H11 Q12 Q13 Q14
  have hr1 := rRaw r E 0 hE8.out (by omega) w12 (G := [viewH .u8 AL E]) (Sub.head _ _) R12
  rw [hraw1] at hr1
  have Hraw2 := Lib.hid hraw2
  clear hraw1 hraw2
  go_wp2_with fail
  refine hr1.mono ?_
  rintro e w13 ⟨A13, c13, rfl, hc13, R13, Q16⟩
  have hr2 := rRaw r (encN Y.length ++ Y) 0 (fun z hz => hE8.out z (by rw [← hE.out]; exact List.mem_append_right _ hz)) (by have := congrArg List.length hE.out; simp only [List.length_append] at this ⊢; omega) w13 (G := [viewH .u8 AL E]) ((Sub.head _ _).cons _) R13
  rw [Hraw2.out] at hr2
  clear hr1
  go_wp2_with fail
  refine hr2.mono ?_
  rintro e w14 ⟨A14, c14, rfl, hc14, R14, Q17⟩
  have H14 := R14.holds
  have Q18 := (Q15.trans Q16).trans Q17
  clear hr2 R12 R13 R14 Q15 Q16 Q17
  dsimp only at H14 hc13 hc14 ⊢
  go_wp2_with fail
  refine (bRead A13 c13 X (by omega) w14 H14 H14.drop.drop.row'.2.2).mono ?_
  rintro e w15 ⟨rp, rfl, H15, Q19⟩
  go_wp2_with fail
  refine (bRead A14 c14 Y (by omega) w15 H15 H15.drop.drop.row'.2.2).mono ?_
  rintro e w16 ⟨rq, rfl, H16, Q20⟩
  clear H14 H15
  go_wp2_with fail
  refine (hrm rp w16 _ H16.f2).mono ?_
  rintro e w17 ⟨rfl, H17, Q21⟩
  go_wp2_with fail
  refine (hrn rq w17 _ H17.f2).mono ?_
  rintro e w18 ⟨rfl, H18, Q22⟩
  have Q23 := (((Q18.trans Q19).trans Q20).trans Q21).trans Q22
  clear H16 H17 Q18 Q19 Q20 Q21 Q22 hrm hrn
  dsimp only at H18 ⊢
  go_wp2_with fail
  refine (Short_calls s3 y3 20 (by omega) w18).mono ?_
  rintro e _ ⟨rfl, rfl⟩
  have hE1 := rEnd r [] 0 w18 (RdS.of H18.f3)
  rw [show endE [] 0 = 0 from rfl] at hE1
  obtain ⟨s, hs⟩ : ∃ s : ByteArray, shortS s3 20 = s := ⟨_, rfl⟩
  rw [hs] at hz ⊢
  have hhash := hash_short (s := s) (by omega) hX8.out hY8.out hXY.out hX
  have Hhash := Lib.hid hhash
  clear hs hhash
  go_wp2_with fail
  refine hE1.mono ?_
  rintro e _ ⟨rfl, rfl⟩
  go_wp2_with fail
  refine (hlm w18).mono ?_
  rintro e _ ⟨rfl, rfl⟩
  go_wp2_with fail
  refine (hln w18).mono ?_
  rintro e _ ⟨rfl, rfl⟩
  go_wp2_with fail
  refine (hem rp w18 _ H18.f2).mono ?_
  rintro e w19 ⟨rfl, H19, Q24⟩
  go_wp2_with fail
  refine (hen rq w19 _ H19.f2).mono ?_
  rintro e w20 ⟨rfl, H20, Q25⟩
  clear hE1 hlm hln hem hen H18 H19
  go_wp2_with fail
  refine (Hx.Bytes_calls s (by omega) A13 c13 X hX8.out (by omega) w20 (H20.drop.drop.drop.drop.row'.2.2) hc13).mono ?_
  rintro e w21 ⟨rfl, B21⟩
  have H21 := H20.below B21
  go_wp2_with fail
  refine (Hx.Bytes_calls s (by omega) A14 c14 Y hY8.out (by omega) w21 (H21.drop.drop.drop.row'.2.2) hc14).mono ?_
  rintro e w22 ⟨rfl, B22⟩
  have H22 := H21.below B22
  have Q26 := (((Q23.trans Q24).trans Q25).below B21).below B22
  clear H20 H21 Q23 Q24 Q25 B21 B22
  obtain ⟨hx, hhx⟩ : ∃ z : Int, Hid (Hx.sumI (bytesOf s) (Hx.bytesL X) = z) := ⟨_, Lib.hid rfl⟩
  obtain ⟨hy, hhy⟩ : ∃ z : Int, Hid (Hx.sumI (bytesOf s) (Hx.bytesL Y) = z) := ⟨_, Lib.hid rfl⟩
  rw [hhx.out, hhy.out] at Hhash
  rw [hhx.out, hhy.out]
  by_cases hpq : p = q
  focus
    have e1 : hx = hy := Hhash.out.2 (Hinj.out.2 hpq)
    subst hpq
    subst e1
    go_wp2_with fail
  rotate_left
  focus
    have e1 : ¬ hx = hy := fun h => hpq (Hinj.out.1 (Hhash.out.1 h))
    have b1 : (hx == hy) = false := beq_eq_false_iff_ne.2 e1
    have b2 : ((p : Int) == (q : Int)) = false := beq_eq_false_iff_ne.2 (by omega)
    go_wp2_with fail
  rotate_left
  all_goals
    refine (lives_calls w22 H22).mono ?_
    rintro e w23 ⟨rfl, H23, Q27⟩
    have HB := Lib.hid (H23.drop.drop.drop.drop.drop.drop.drop.drop.drop.drop.drop.drop.old (Q26.trans Q27))
    go_wp2
    go_ret
    exact ⟨rfl, HB.out⟩
end Go.Proofs.Ytkkhpdbognaioaa
