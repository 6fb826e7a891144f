/- The law WireRound: reading the bytes of a Writer returns the values that were written. -/
import Derived.Test.YthkmfmcofkcjeaaWireRead
import Derived.Test.YthkmfmcofkcjeaaWireWrites
namespace Go.Proofs.Ythkmfmcofkcjeaa
set_option linter.unusedVariables false
set_option linter.unusedSimpArgs false
open Go.RowKit Go.Shelf Go.Proofs.YthkmfmcofkcjeaaW.PrintWords Go.Proofs.YthkmfmcofkcjeaaW.PrintLast Go.Proofs.YthkmfmcofkcjeaaW.PrintMore

theorem drop_enc (vs : List Val) (i : Nat) (h : i < vs.length) : encVs (vs.drop i) = encV vs[i] ++ encVs (vs.drop (i + 1)) := by
  rw [List.drop_eq_getElem_cons h, encVs]
theorem encVs_u8 : ∀ vs : List Val, (∀ v ∈ vs, VOk v) → U8s (encVs vs)
  | [], _ => fun x hx => by simp [encVs] at hx
  | v :: vs, h => fun x hx => by
    rcases List.mem_append.1 hx with hx | hx
    · exact encV_u8 v (h v (by simp)).b8 x hx
    · exact encVs_u8 vs (fun y hy => h y (by simp [hy])) x hx

set_option maxRecDepth 100000 in
set_option maxHeartbeats 8000000 in
theorem WireRound_walk (a0 : Option Addr) (len0 cap0 : Nat) (z0 : List Int) (a1 a2 : Int) (w : World)
    (w0 : IsRow .i64 w a0 len0 cap0 z0) (y0 : len0 * 8 ≤ 140737488351232) (wf1 : (Lit.int .u64 a1).wf = true) (wf2 : (Lit.int .i64 a2).wf = true) :
    Calls Try.prog 7 #[.slice a0 len0 cap0, .int .u64 a1, .int .i64 a2] w fun e w' => e = .returned (.bool true) ∧ Below w.heap.size w w' := by
  obtain ⟨l, rfl, hlc, hCl, hwl⟩ := row_in w0
  have hu := wf_u64 wf1
  have hn := wf_range wf2
  have hl64 : ∀ x ∈ l, I64 x := fun x hx => wf_range (hwl x hx)
  clear w0 wf1 wf2 hwl
  have HU := Lib.hid hu
  have HN := Lib.hid hn
  have HL := Lib.hid hl64
  clear hu hn hl64
  have H0 := Holds.start w
  go_enter Try.func7, Try.ntmps7
  go_wp2_with fail
  refine (Vals_calls a0 cap0 l HL.out (by omega) w H0 (Rd.old_int hCl [])).mono ?_
  rintro e w1 ⟨A1, c1, vs, rfl, hvl, hvs, H1, hc1, Q1⟩
  have e5 := (((H1.eltsNil valK).snocVal0 0 a1 0).snocVal0 1 0 a2).litRow 47 (by simp)
  have Q5 := Q1.alloc (.cells ([] ++ valCells 0 a1 0 (.slice none 0 0) (.slice none 0 0) ++ valCells 1 0 a2 (.slice none 0 0) (.slice none 0 0)).toArray 47)
  go_wp2_with (first | fail | (at_builtin; go_must (refine H_append_move valK rfl (.tmp 11) (.tmp 16) 35 47 _ 72 rfl Try.underlying35 info_val rfl (by decide) (by decide) (.slice A1 vs.length c1) (.slice (some ⟨w1.heap.size, 0, none⟩) 2 2) vs _ rfl rfl e5 (by simp; omega) ?_; intro all A4 c4 w4 hall K1 k1 Q6)))
  have hVS : Hid (∀ v ∈ all, VS v) := by
    intro v hv
    have hI : I64 0 := by unfold I64; omega
    have h8 : U8s [] := fun x hx => by simp at hx
    rw [hall.out] at hv
    rcases List.mem_append.1 hv with hv | hv
    · exact hvs v hv
    · simp only [List.nil_append, List.cons_append, List.mem_cons, List.not_mem_nil, or_false] at hv
      rcases hv with rfl | rfl
      · exact ⟨⟨by simp, by simp, HU.out.1, HU.out.2, hI, h8, by simp, by simp, by simp, by simp, by simp, by simp, by simp, by simp⟩, by simp, by simp⟩
      · exact ⟨⟨by simp, by simp, by simp, by simp, HN.out, h8, by simp, by simp, by simp, by simp, by simp, by simp, by simp, by simp⟩, by simp, by simp⟩
  have hal : all.length ≤ 10 := by rw [hall.out]; simp; omega
  have hOk : Hid (∀ v ∈ all, VOk v) := fun v hv => (hVS.out v hv).1
  have hTk : Hid (∀ m, (encVs (all.take m)).length ≤ 50000000000000) := VS.takes hVS.out (by omega)
  have hEl : Hid ((encVs all).length ≤ 10000) := by have := VS.lens all hVS.out; show _ ≤ _; omega
  have hE8 : Hid (U8s (encVs all)) := encVs_u8 all hOk.out
  obtain ⟨inner, K2⟩ := K1.pin
  have Q7 := Q5.trans Q6
  clear K1 e5 Q5 Q6 H0 hvs H1 Q1
  have henc := encode_calls A4 all.length c4 c4 all.length all inner hOk.out (Nat.le_refl _) (by omega) hTk.out w4 K2
  rw [List.take_length] at henc
  obtain ⟨E, hE⟩ : ∃ E : List Int, Hid (encVs all = E) := ⟨_, Lib.hid rfl⟩
  rw [hE.out] at henc hEl hE8
  have hEl' := hEl.out
  refine henc.mono ?_
  rintro e w5 ⟨A5, k5, rfl, H5, hk5, Q8⟩
  go_wp2_with fail
  refine (read_calls A5 k5 E (by omega) w5 H5.drop (H5.row'.2.2)).mono ?_
  rintro e w6 ⟨r, AL, rfl, R6, Q9⟩
  have Q10 := (Q7.trans Q8).trans Q9
  have hVV := Lib.hid (H5.f2.valsAt)
  clear H5 Q7 Q8 Q9 K2 hEl' henc
  go_wp2
  go_loopw [9] (fun iv wr => ∃ i : Nat, i ≤ all.length ∧ iv = .int .i64 (i : Int) ∧ RdS 79 [viewH .u8 AL E] (viewH .u8 AL E :: pinH valK 47 (.slice A4 all.length c4) all inner :: [oldH w]) r wr (encVs (all.drop i)) 0 ∧ Calm w wr) (fun iv _ => all.length - (intOf iv).toNat)
  case atStart => exact ⟨0, Nat.zero_le _, rfl, by rw [List.drop_zero, hE.out]; exact R6, Q10⟩
  case round =>
    clear R6 Q10
    obtain ⟨i, hi, rfl, R1, Q1⟩ := hrel
    by_cases hlt : i < all.length
    · obtain ⟨g, A1, c1, A2, c2, rfl, hd, h1, h2, h3, h4⟩ := hVV.out i hlt
      have hx := hOk.out all[i] (List.getElem_mem hlt)
      have hii : (i : Int) < (all.length : Int) := by omega
      have hde := drop_enc all i hlt
      have hvr := vRd_enc hx (encVs (all.drop (i + 1)))
      rw [← hde] at hvr
      have h8i : U8s (encVs (all.drop i)) := encVs_u8 _ (fun v hv => hOk.out v (List.mem_of_mem_drop hv))
      have hli : (encVs (all.drop i)).length ≤ 1000000000 := by
        have := VS.lens (all.drop i) (fun v hv => hVS.out v (List.mem_of_mem_drop hv))
        rw [List.length_drop] at this
        omega
      clear hde
      have hkk := hx.k0
      have hkk5 := hx.k5
      have hbl := hx.bl
      have hll := hx.ll
      have hread := fun (W : World) (H : RdS 79 [viewH .u8 AL E] (viewH .u8 AL E :: pinH valK 47 (.slice (some ⟨g, 0, none⟩) all.length c4) all inner :: [oldH w]) r W (encVs (all.drop i)) 0) => lread r all[i].kind hkk hkk5 (encVs (all.drop i)) 0 h8i hli W (Sub.head _ _) H
      rw [vS_ok, hvr] at hread
      have hsame := Same_eq all[i]
      have R0 := R1.other (fun B h => h.drew)
      obtain ⟨d0, d1, d2, d3, d4⟩ := hd wr.drew (R0.frame.drop.sub (l := [_]))
      have Hd := Lib.hid hd
      clear hd hx hvr h8i hli
      generalize all[i] = x at *
      go_wp2
      go_region_with (first | (go_at_call 23; refine (hread _ R0).mono ?_; rintro e w6 ⟨B1, k1, B2, k2, rfl, hk1, hk2, R6, Q6⟩; obtain ⟨d0', d1', d2', d3', d4'⟩ := Hd.out w6 (R6.frame.drop.drop.drop.sub (l := [_]))) | (go_at_call 22; refine (hsame B1 k1 B2 k2 A1 c1 A2 c2 hbl hll w6 R6.holds (R6.frame.viewC) (R6.frame.drop.viewC) (h3 _ (R6.frame.drop.drop.drop.sub (l := [_]))) (h4 _ (R6.frame.drop.drop.drop.sub (l := [_])))).mono ?_; rintro e w8 ⟨rfl, H8, Q8⟩))
      all_goals
        go_wp2
        go_roundw
        case rel => exact ⟨i + 1, by omega, by go_num, RdS.of (H8.f2.drop.f2.drop), ((Q1.drew.trans Q6).trans Q8)⟩
        case measure => simp [intOf]; omega
    · obtain rfl : i = all.length := by omega
      rw [List.drop_length] at R1
      go_wp2_with fail
      refine (rEnd r (encVs []) 0 wr R1).mono ?_
      rintro e _ ⟨rfl, rfl⟩
      rw [show endE (encVs []) 0 = 0 from rfl]
      go_wp2_with fail
      refine (lives_calls wr R1.frame).mono ?_
      rintro e w8 ⟨rfl, H8, Q8⟩
      have HB := Lib.hid (H8.drop.drop.old (Q1.trans Q8))
      go_wp2
      go_ret
      exact ⟨rfl, HB.out⟩
end Go.Proofs.Ythkmfmcofkcjeaa
