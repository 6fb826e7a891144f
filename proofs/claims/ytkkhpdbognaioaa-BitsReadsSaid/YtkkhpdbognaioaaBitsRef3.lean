/- The contracts of the reference's Pack and Unpack. -/
import Derived.Test.YtkkhpdbognaioaaBitsOps
namespace Go.Proofs.Ytkkhpdbognaioaa
set_option linter.unusedVariables false
set_option linter.unusedSimpArgs false
open Go.RowKit Go.Shelf Go.Proofs.YtkkhpdbognaioaaW.PrintWords Go.Proofs.YtkkhpdbognaioaaW.PrintLast Go.Proofs.YtkkhpdbognaioaaW.PrintMore

theorem packX_false (l : List Bool) : pack (l ++ [false]) = packX l := by
  by_cases h : l.length % 8 = 8
  · omega
  rw [pack_push, byteOf_snoc _ _ (by rw [List.length_drop]; omega)]
  have h1 := packX_last l
  have hz : byteOf (l.drop (8 * (l.length / 8))) + ((b2n false * 2 ^ (7 - (l.drop (8 * (l.length / 8))).length) : Nat) : Int) = byteOf (l.drop (8 * (l.length / 8))) := by simp [b2n]
  rw [hz]
  apply List.ext_getElem?
  intro j
  rw [List.getElem?_set]
  split
  · rename_i hj
    rw [← hj, h1, if_pos (by rw [packX_length]; omega)]
  · rfl
theorem packX_true (l : List Bool) {x : Int} (hx : (packX l)[l.length / 8]? = some x) : pack (l ++ [true]) = (packX l).set (l.length / 8) (x + ((2 ^ (7 - l.length % 8) : Nat) : Int)) := by
  have h1 := packX_last l
  rw [hx] at h1
  have h2 := Option.some.inj h1
  have hd : (l.drop (8 * (l.length / 8))).length = l.length % 8 := by rw [List.length_drop]; omega
  rw [pack_push, byteOf_snoc _ _ (by omega), ← h2, hd]
  simp [b2n]
theorem packX_top (l : List Bool) {x : Int} (hx : (packX l)[l.length / 8]? = some x) : 0 ≤ x ∧ x + ((2 ^ (7 - l.length % 8) : Nat) : Int) < 256 := by
  have h1 := packX_last l
  rw [hx] at h1
  have h2 := Option.some.inj h1
  have hd : (l.drop (8 * (l.length / 8))).length = l.length % 8 := by rw [List.length_drop]; omega
  have h3 := byteOf_snoc (l.drop (8 * (l.length / 8))) true (by omega)
  have h4 := byteOf_u8 (l.drop (8 * (l.length / 8)) ++ [true]) (by rw [List.length_append, hd]; simp; omega)
  have h5 := byteOf_u8 (l.drop (8 * (l.length / 8))) (by omega)
  rw [h3, hd] at h4
  simp only [b2n, if_true, Nat.one_mul] at h4
  rw [h2]
  omega
/-- One element of a row of truth values that F alone lets read. -/
theorem Rd.boolAt {F : List Hp} {A : Option Addr} {L : List Bool} (h : Rd Kd.bool F A L.length L) {i : Nat} (hi : i < L.length) {w : World} (hw : Holds w F) : ∃ ad, A = some ad ∧ w.cell? (ad.add i) = some (.bool (L[i]?.getD false)) := by
  obtain ⟨ad, e, hc⟩ := Kd.at_bool (h w hw) (i : Int) (by omega) (by omega)
  refine ⟨ad, e, ?_⟩
  rw [Int.toNat_natCast] at hc
  rw [hc]
  simp [rdOf, List.getD_eq_getElem?_getD]

theorem rowFacts {W : World} {A : Option Addr} {c q : Nat} {B X : List Int} {x : Int} {e : TypeId} {F : List Hp} (K : Holds W (rowH (Kd.int .u8) e (.slice A B.length c) B :: F)) (hBX : X = B) (hl : X.length = q + 1) (hx : X[q]? = some x) :
    ∃ g, A = some ⟨g, 0, none⟩ ∧ Hid (B.length = q + 1) ∧ W.cell? ⟨g, q, none⟩ = some (.int .u8 x) ∧ W.frozen? ⟨g, q, none⟩ = false ∧ g < W.heap.size := by
  subst hBX
  obtain ⟨g, rfl, hg⟩ := K.rowAddr (by omega)
  obtain ⟨d1, d2⟩ := K.rowCell q (by omega)
  refine ⟨g, rfl, hl, ?_, d2, hg⟩
  rw [d1]
  have : X[q]'(by omega) = x := by
    rw [List.getElem?_eq_getElem (by omega)] at hx
    exact Option.some.inj hx
  rw [this]

set_option maxRecDepth 100000 in
set_option maxHeartbeats 4000000 in
theorem xPack (A : Option Addr) (c : Nat) (L : List Bool) (hl : L.length ≤ 10000000) (w : World) {F : List Hp} (H : Holds w F) (hR : Rd Kd.bool F A L.length L) :
    Calls Try.prog 19 #[.slice A L.length c] w fun e w' => ∃ A' c', e = .returned (.slice A' (pack L).length c') ∧ Holds w' (rowH (Kd.int .u8) 5 (.slice A' (pack L).length c') (pack L) :: F) ∧ Calm w w' := by
  have HR := Lib.hid hR
  clear hR
  go_enter Try.func19, Try.ntmps19
  go_wp2
  go_loopw [3, 4] (fun o iv wr => ∃ (i : Nat) (out : List Int) (A1 : Option Addr) (c1 : Nat), i ≤ L.length ∧ iv = .int .i64 (i : Int) ∧ o = .slice A1 out.length c1 ∧ Hid (out = pack (L.take i)) ∧ Holds wr (rowH (Kd.int .u8) 5 (.slice A1 out.length c1) out :: F) ∧ Calm w wr) (fun _ iv _ => L.length - (intOf iv).toNat)
  case atStart => exact ⟨0, [], none, 0, Nat.zero_le _, rfl, rfl, by show _ = _; rw [List.take_zero]; rfl, H.nilRow (Kd.int .u8) 5, Calm.refl _⟩
  case round =>
    obtain ⟨i, out, A1, c1, hi, rfl, rfl, hout, H1, Q1⟩ := hrel
    by_cases hlt : i < L.length
    · have hii : (i : Int) < (L.length : Int) := by omega
      obtain ⟨ad, hA, hcell⟩ := HR.out.boolAt hlt H1.drop
      subst hA
      have hcF : Hid (∀ W, Holds W F → W.cell? (ad.add i) = some (.bool (L[i]?.getD false))) := fun W hW => by
        obtain ⟨ad', e, h⟩ := HR.out.boolAt hlt hW
        cases e
        exact h
      have hti : (L.take i).length = i := by rw [List.length_take]; omega
      have htk : L.take (i + 1) = L.take i ++ [L[i]?.getD false] := by rw [List.take_succ_eq_append_getElem hlt, List.getElem?_eq_getElem hlt]; rfl
      have hol : out.length = nbytes i := by rw [hout.out, pack_length, hti]
      have hol6 : out.length ≤ 10000000 := by rw [hol]; unfold nbytes; omega
      have hXl := packX_length (L.take i)
      obtain ⟨x, hx⟩ : ∃ x, (packX (L.take i))[(L.take i).length / 8]? = some x := ⟨_, packX_last _⟩
      have hT := packX_true _ hx
      have hT2 := packX_top _ hx
      have hF := packX_false (L.take i)
      have hXe : packX (L.take i) = if i % 8 = 0 then out ++ [0] else out := by unfold packX; rw [hti, hout.out]
      obtain ⟨b, hb⟩ : ∃ b, Hid (L[i]?.getD false = b) := ⟨_, Lib.hid rfl⟩
      rw [hb.out] at hcF htk hcell
      rw [hti] at hT hT2 hXl hx
      have Htk := Lib.hid htk
      have HT := Lib.hid hT
      have HT2 := Lib.hid hT2
      have HF := Lib.hid hF
      have HX := Lib.hid hXl
      have Hx := Lib.hid hx
      have HXe := Lib.hid hXe
      have Hol := Lib.hid hol
      clear htk hT hF hXl hx hXe hol hti hT2
      have hl1 : (out.length + 1) * 1 ≤ 140737488355328 := by omega
      cases b
      · have hnew : Hid (packX (L.take i) = pack (L.take (i + 1))) := by show _ = _; rw [Htk.out, HF.out]
        by_cases h0 : i % 8 = 0
        · have h0i : ((i : Int) % 8 == 0) = true := by simp; omega
          have hXe := HXe.out
          rw [if_pos h0] at hXe
          have HXE := Lib.hid hXe
          clear hXe
          go_wp2_with (at_builtin; go_must (refine H_append_int .u8 rfl (.tmp 14) (.tmp 15) 29 5 1 rfl Try.underlying29 info_u8 (by decide) (.slice A1 out.length c1) out 0 rfl rfl H1 hl1 ?_; intro B A2 c2 w1 hB1 K1 k1 Q2; have hc1 := hcF.out w1 K1.drop))
          go_roundw
          case rel => exact ⟨i + 1, B, A2, c2, by omega, by go_num, rfl, by show _ = _; rw [← hnew.out, HXE.out, hB1.out], K1, Q1.trans Q2⟩
          case measure => simp [intOf]; omega
        · have h0i : ((i : Int) % 8 == 0) = false := by simp; omega
          have hXe := HXe.out
          rw [if_neg h0] at hXe
          have HXE := Lib.hid hXe
          clear hXe
          go_wp2
          go_roundw
          case rel => exact ⟨i + 1, out, A1, c1, by omega, by go_num, rfl, by show _ = _; rw [← hnew.out, HXE.out], H1, Q1⟩
          case measure => simp [intOf]; omega
      · have hT2 := HT2.out
        by_cases h0 : i % 8 = 0
        · have h0i : ((i : Int) % 8 == 0) = true := by simp; omega
          have hXe := HXe.out
          rw [if_pos h0] at hXe
          have HXE := Lib.hid hXe
          have hv : Hid ((x + 128) % 256 = x + ((2 ^ (7 - i % 8) : Nat) : Int)) := by
            show _ = _
            rw [h0] at hT2 ⊢
            simp at hT2 ⊢
            omega
          clear hXe hT2
          go_wp2_with (at_builtin; go_must (refine H_append_int .u8 rfl (.tmp 14) (.tmp 15) 29 5 1 rfl Try.underlying29 info_u8 (by decide) (.slice A1 out.length c1) out 0 rfl rfl H1 hl1 ?_; intro B A2 c2 w1 hB1 K1 k1 Q2; have hc1 := hcF.out w1 K1.drop; have hBX0 := HXE.out; rw [← hB1.out] at hBX0; have hBX := Lib.hid hBX0; clear hBX0; have e0 := rowFacts K1 hBX.out HX.out Hx.out; obtain ⟨g, rfl, q0, q1, q2, q3⟩ := e0; have q0' := q0.out))
          have K2 := K1.rowPut (i / 8) (x + ((2 ^ (7 - i % 8) : Nat) : Int))
          have hlist : Hid (B.set (i / 8) (x + ((2 ^ (7 - i % 8) : Nat) : Int)) = pack (L.take (i + 1))) := by show _ = _; rw [Htk.out, HT.out, hBX.out]
          have hlen : Hid (i / 8 + 1 = (B.set (i / 8) (x + ((2 ^ (7 - i % 8) : Nat) : Int))).length) := by show _ = _; rw [List.length_set, q0.out]
          rw [q0.out, hlen.out] at K2
          go_roundw
          case rel => exact ⟨i + 1, _, _, c2, by omega, by go_num, by rw [hlen.out], hlist, by rw [hv.out]; exact K2, (Q1.trans Q2).setCell _ _⟩
          case measure => simp [intOf]; omega
        · have h0i : ((i : Int) % 8 == 0) = false := by simp; omega
          have hXe := HXe.out
          rw [if_neg h0] at hXe
          have hBX := Lib.hid hXe
          clear hXe
          obtain ⟨g, rfl, q0, q1, q2, q3⟩ := rowFacts H1 hBX.out HX.out Hx.out
          have q0' := q0.out
          have hv : Hid ((x + 2 ^ (7 - i % 8)) % 256 = x + ((2 ^ (7 - i % 8) : Nat) : Int)) := by
            show _ = _
            rw [show ((2 : Int) ^ (7 - i % 8)) = ((2 ^ (7 - i % 8) : Nat) : Int) by simp]
            generalize (2 ^ (7 - i % 8) : Nat) = P at *
            omega
          clear hT2
          go_wp2
          have K2 := H1.rowPut (i / 8) (x + ((2 ^ (7 - i % 8) : Nat) : Int))
          have hlist : Hid (out.set (i / 8) (x + ((2 ^ (7 - i % 8) : Nat) : Int)) = pack (L.take (i + 1))) := by show _ = _; rw [Htk.out, HT.out, hBX.out]
          have hlen : Hid (i / 8 + 1 = (out.set (i / 8) (x + ((2 ^ (7 - i % 8) : Nat) : Int))).length) := by show _ = _; rw [List.length_set, q0.out]
          rw [q0.out, hlen.out] at K2
          go_roundw
          case rel => exact ⟨i + 1, _, _, c1, by omega, by go_num, by rw [List.length_set], hlist, by rw [hv.out]; exact K2, (Q1).setCell _ _⟩
          case measure => simp [intOf]; omega
    · obtain rfl : i = L.length := by omega
      have hh := hout.out
      rw [List.take_length] at hh
      subst hh
      go_wp2
      go_ret
      exact ⟨A1, c1, rfl, H1, Q1⟩

set_option maxRecDepth 100000 in
set_option maxHeartbeats 4000000 in
theorem xUnpack (A : Option Addr) (c : Nat) (B : List Int) (h8 : AllU8' B) (hl : B.length ≤ 1000000) (w : World) {F : List Hp} (H : Holds w F) (hR : Rd (Kd.int .u8) F A B.length B) :
    Calls Try.prog 23 #[.slice A B.length c] w fun e w' => ∃ A' c', e = .returned (.slice A' (unpack B).length c') ∧ Holds w' (rowH Kd.bool 4 (.slice A' (unpack B).length c') (unpack B) :: F) ∧ (unpack B).length ≤ c' ∧ Calm w w' := by
  have HR := Lib.hid hR
  have H8 := Lib.hid h8
  clear hR h8
  go_enter Try.func23, Try.ntmps23
  go_wp2
  go_loopw [3, 4] (fun o iv wr => ∃ (i : Nat) (out : List Bool) (A1 : Option Addr) (c1 : Nat), i ≤ B.length ∧ iv = .int .i64 (i : Int) ∧ o = .slice A1 out.length c1 ∧ Hid (out = unpack (B.take i)) ∧ Holds wr (rowH Kd.bool 4 (.slice A1 out.length c1) out :: F) ∧ Calm w wr) (fun _ iv _ => B.length - (intOf iv).toNat)
  case atStart => exact ⟨0, [], none, 0, Nat.zero_le _, rfl, rfl, by show _ = _; rw [List.take_zero]; rfl, H.nilRow Kd.bool 4, Calm.refl _⟩
  case round =>
    obtain ⟨i, out, A1, c1, hi, rfl, rfl, hout, H1, Q1⟩ := hrel
    by_cases hlt : i < B.length
    · have hii : (i : Int) < (B.length : Int) := by omega
      obtain ⟨ad, hA, hcell⟩ := at_nat (HR.out wr H1.drop) hlt
      subst hA
      have hx8 := H8.out B[i] (List.getElem_mem hlt)
      have hnew : Hid (unpack (B.take (i + 1)) = out ++ bitsN (B[i]).toNat 8) := by
        show _ = _
        rw [List.take_succ_eq_append_getElem hlt, unpack_append, hout.out]
        simp [unpack]
      have hol : out.length ≤ 8000000 := by rw [hout.out, unpack_length, List.length_take]; omega
      rw [show B[i]?.getD 0 = B[i] by simp [hlt]] at hcell
      obtain ⟨x, hx⟩ : ∃ x : Nat, Hid (B[i] = (x : Int) ∧ B[i].toNat = x ∧ x < 256) := ⟨B[i].toNat, by refine ⟨?_, ?_, ?_⟩ <;> omega⟩
      rw [hx.out.1] at hcell
      rw [hx.out.2.1] at hnew
      have hx256 := hx.out.2.2
      have hxB := fun W F (K : Holds W F) => xBits x (by omega) 8 W K
      rw [show clampN 8 64 = 8 from rfl] at hxB
      have hb8 := bitsN_length x 8
      obtain ⟨Z, hZ⟩ : ∃ Z, Hid (bitsN x 8 = Z) := ⟨_, Lib.hid rfl⟩
      rw [hZ.out] at hxB hnew hb8
      have hl1 : (out.length + Z.length) * 1 ≤ 140737488355328 := by omega
      clear hx8 hb8
      go_wp2_with fail
      refine (hxB wr _ H1).mono ?_
      rintro e w1 ⟨A2, c2, rfl, H2, hc2, Q2⟩
      go_wp2_with (at_builtin; go_must (refine H_append_move Kd.bool rfl (.tmp 11) (.tmp 17) 32 4 _ 1 rfl Try.underlying32 info_bool rfl (by decide) (by decide) (.slice A1 out.length c1) (.slice A2 Z.length c2) out Z rfl rfl H2 hl1 ?_; intro B3 A3 c3 w3 hB3 K3 k3 Q3))
      go_roundw
      case rel => exact ⟨i + 1, B3, A3, c3, by omega, by go_num, rfl, by show _ = _; rw [hnew.out, hB3.out], K3, (Q1.trans Q2).trans Q3⟩
      case measure => simp [intOf]; omega
    · obtain rfl : i = B.length := by omega
      have hh := hout.out
      rw [List.take_length] at hh
      subst hh
      go_wp2
      go_ret
      exact ⟨A1, c1, rfl, H1, H1.row'.2.1, Q1⟩
end Go.Proofs.Ytkkhpdbognaioaa
