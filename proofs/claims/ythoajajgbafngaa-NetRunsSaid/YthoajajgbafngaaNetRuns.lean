/- The law NetRuns: every result and Len are the specified ones. -/
import Derived.Test.YthoajajgbafngaaNetGen
namespace Go.Proofs.Ythoajajgbafngaa
set_option linter.unusedVariables false
set_option linter.unusedSimpArgs false
open Go.RowKit Go.Shelf Go.Proofs.YthoajajgbafngaaW.PrintWords Go.Proofs.YthoajajgbafngaaW.PrintLast Go.Proofs.YthoajajgbafngaaW.PrintMore

theorem eraseC_sub {L : List MsgC} {i : Nat} {P : MsgC → Prop} (h : ∀ m ∈ L, P m) : ∀ m ∈ L.eraseIdx i, P m := fun m hm => h m (List.mem_of_mem_eraseIdx hm)
theorem sendLC_sub {gs : List Int} {L : List MsgC} {m : MsgC} {P : MsgC → Prop} (h : ∀ m ∈ L, P m) (hm : P m) : ∀ x ∈ sendLC gs L m, P x := by
  unfold sendLC
  split
  · split
    · exact h
    · intro x hx
      rcases List.mem_append.1 hx with hx | hx
      · exact h x hx
      · rw [List.mem_singleton.1 hx]; exact hm
  · exact h
theorem copyLC_sub {L : List MsgC} {i : Int} {P : MsgC → Prop} (h : ∀ m ∈ L, P m) : ∀ x ∈ copyLC L i, P x := by
  unfold copyLC
  split
  · split
    · exact h
    · intro x hx
      rcases List.mem_append.1 hx with hx | hx
      · exact h x hx
      · exact h x (List.mem_of_getElem? (by simpa using hx))
  · exact h
theorem dropLC_sub {L : List MsgC} {i : Int} {P : MsgC → Prop} (h : ∀ m ∈ L, P m) : ∀ x ∈ dropLC L i, P x := by
  unfold dropLC
  split
  · exact eraseC_sub h
  · exact h
theorem takeLC_sub {gs : List Int} {L : List MsgC} {i : Int} {P : MsgC → Prop} (h : ∀ m ∈ L, P m) : ∀ x ∈ takeLC gs L i, P x := by
  unfold takeLC
  split
  · split
    · exact eraseC_sub h
    · exact h
  · exact h
theorem takeC_sub {gs : List Int} {L : List MsgC} {i : Int} {P : MsgC → Prop} (h : ∀ m ∈ L, P m) (h0 : P zeroC) : P (takeC gs L i) := by
  unfold takeC
  split
  · rename_i hs
    split
    · obtain ⟨k, _, _, hg⟩ := inRC_get hs
      exact h _ (List.mem_of_getElem? hg)
    · exact h0
  · exact h0
/-- The state behind some calls. -/
structure RunOk (ops : List OpN) (gs : List Int) (L : List MsgC) : Prop where
  ok : NetOk gs (L.map MsgC.msg)
  from_ : ∀ m ∈ L, ∃ o ∈ ops, o.m = m
theorem RunOk.len {ops : List OpN} {gs : List Int} {L : List MsgC} (h : RunOk ops gs L) : L.length ≤ 1000 := by
  have := h.ok.many
  rwa [List.length_map] at this

set_option maxRecDepth 100000 in
set_option maxHeartbeats 16000000 in
theorem NetRuns_walk (a0 : Int) (a1 : Option Addr) (len1 cap1 : Nat) (z1 : List Int) (w : World) (wf0 : (Lit.int .i64 a0).wf = true) (w1 : IsRow .i64 w a1 len1 cap1 z1) (y1 : len1 * 8 ≤ 140737488351232) :
    Calls Try.prog 3 #[.int .i64 a0, .slice a1 len1 cap1] w fun e w' => e = .returned (.bool true) ∧ Below w.heap.size w w' := by
  obtain ⟨l, rfl, hlc, hC, hwf⟩ := row_in w1
  have Hwf := Lib.hid hwf
  clear w1 hwf
  go_enter Try.func3, Try.ntmps3
  go_wp2_with fail
  refine (nmade a0 wf0 w (Holds.start w)).mono ?_
  rintro e v1 ⟨p, k, rfl, hk1, hk6, H1, Q1⟩
  go_wp2_with fail
  refine (xNew k (by omega) v1 H1).mono ?_
  rintro e v2 ⟨q, rfl, H2, Q2⟩
  go_wp2_with fail
  refine (Ops_calls a1 cap1 l k hk1 hk6 Hwf.out y1 v2 H2 (((Rd.old_int hC []).cons _).cons _)).mono ?_
  rintro e v3 ⟨A, c, ops, rfl, hol, hops, H3, hoc, Q3⟩
  have Hops := Lib.hid hops
  have Q4 := (Q1.trans Q2).trans Q3
  have hok0 : RunOk ops (List.replicate k 0) [] := ⟨NetOk.new k (by omega), fun m hm => by simp at hm⟩
  have H4 := H3.f4.f4
  clear hops H1 H2 H3 Q1 Q2 Q3 wf0
  go_wp2
  go_loopw [9] (fun iv wr => ∃ (i : Nat) (gs : List Int) (L : List MsgC), i ≤ ops.length ∧ iv = .int .i64 (i : Int) ∧ RunOk ops gs L ∧ Holds wr [xnetH q gs L, netH p gs (L.map MsgC.msg), rowH opnK 34 (.slice A ops.length c) ops, opsH ops, oldH w] ∧ Calm w wr) (fun iv _ => ops.length - (intOf iv).toNat)
  case atStart => exact ⟨0, _, [], by omega, rfl, hok0, H4, Q4⟩
  case round =>
    clear H4 Q4 hok0
    obtain ⟨i, gs, L, hi, rfl, hok, H1, Q1⟩ := hrel
    by_cases hlt : i < ops.length
    · have hii : (i : Int) < (ops.length : Int) := by omega
      obtain ⟨g, rfl, hgl, hcl⟩ := H1.f3.flatAt i hlt
      have hmem : ops[i] ∈ ops := List.getElem_mem hlt
      have hopk := Hops.out _ hmem
      generalize ops[i] = o at *
      obtain ⟨kind, iv, ⟨mf, mt, mA, mc, mb⟩, gA, gc, gg⟩ := o
      have hg30 : gg.length ≤ 30 := hopk.g30
      have hgcc : gg.length ≤ gc := hopk.gc
      have s0 : wr.cell? ⟨g, i * 6, none⟩ = some (.int .i64 kind) := hcl 0 _ rfl
      have s1 : wr.cell? ⟨g, i * 6 + 1, none⟩ = some (.int .i64 iv) := hcl 1 _ rfl
      have s2 : wr.cell? ⟨g, i * 6 + 2, none⟩ = some (.int .i64 mf) := hcl 2 _ rfl
      have s3 : wr.cell? ⟨g, i * 6 + 3, none⟩ = some (.int .i64 mt) := hcl 3 _ rfl
      have s4 : wr.cell? ⟨g, i * 6 + 4, none⟩ = some (.slice mA mb.length mc) := hcl 4 _ rfl
      have s5 : wr.cell? ⟨g, i * 6 + 5, none⟩ = some (.slice gA gg.length gc) := hcl 5 _ rfl
      clear hcl
      have HO := H1.box 34 #[.int .i64 kind, .int .i64 iv, .int .i64 mf, .int .i64 mt, .slice mA mb.length mc, .slice gA gg.length gc]
      have QO := Q1.alloc (.cells #[.int .i64 kind, .int .i64 iv, .int .i64 mf, .int .i64 mt, .slice mA mb.length mc, .slice gA gg.length gc] 34)
      have hRb : Rd (Kd.int .u8) [opsH ops, oldH w] mA mb.length mb := Rd.opB hmem _
      have hRg : Rd (Kd.int .i64) [opsH ops, oldH w] gA gg.length gg := Rd.opG hmem _
      go_upto_block 2 with (fail)
      generalize wr.heap.size = ob at *
      generalize wr.alloc (.cells #[.int .i64 kind, .int .i64 iv, .int .i64 mf, .int .i64 mt, .slice mA mb.length mc, .slice gA gg.length gc] 34) = W at *
      have c1 := HO.c 1 (.int .i64 iv) rfl
      have c2 := HO.c 2 (.int .i64 mf) rfl
      have c3 := HO.c 3 (.int .i64 mt) rfl
      have c4 := HO.c 4 (.slice mA mb.length mc) rfl
      have c5 := HO.c 5 (.slice gA gg.length gc) rfl
      clear s0 s1 s2 s3 s4 s5 H1 Q1
      go_cut [11] (fun s w' => s = .bool true ∧ ∃ (gs1 : List Int) (L1 : List MsgC), RunOk ops gs1 L1 ∧ Holds w' [xnetH q gs1 L1, netH p gs1 (L1.map MsgC.msg), rowH opnK 34 (.slice (some ⟨g, 0, none⟩) ops.length c) ops, opsH ops, oldH w] ∧ Calm w w')
      case first =>
        by_cases k0 : kind = 0
        · have k0b : (kind == 0) = true := by rw [k0]; rfl
          clear k0
          have hs1 := nSend p gs (L.map MsgC.msg) ⟨mf, mt, mb⟩ mA mc hok.ok W.drew HO.drew.f3 (((hRb.cons _).cons _).cons _)
          have hs2 := fun W2 F2 (K : Holds W2 (xnetH q gs L :: F2)) => xSend q gs L ⟨mf, mt, mA, mc, mb⟩ hok.ok.nodes hok.len W2 K
          obtain ⟨E, hE⟩ : ∃ E, Hid (sendE gs (L.map MsgC.msg) ⟨mf, mt, mb⟩ = E) := ⟨_, Lib.hid rfl⟩
          have Hmm : Hid (sendL gs (L.map MsgC.msg) ⟨mf, mt, mb⟩ = (sendLC gs L ⟨mf, mt, mA, mc, mb⟩).map MsgC.msg) := (sendLC_map gs L ⟨mf, mt, mA, mc, mb⟩).symm
          have hok2 : RunOk ops (gs) (sendLC gs L ⟨mf, mt, mA, mc, mb⟩) := ⟨by rw [← Hmm.out]; exact hok.ok.send _, sendLC_sub hok.from_ ⟨_, hmem, rfl⟩⟩
          simp only [MsgC.msg, hE.out] at hs1 hs2
          rw [Hmm.out] at hs1
          have x2 : W.drew.cell? ⟨ob, 2, none⟩ = some (.int .i64 mf) := c2
          have x3 : W.drew.cell? ⟨ob, 3, none⟩ = some (.int .i64 mt) := c3
          have x4 : W.drew.cell? ⟨ob, 4, none⟩ = some (.slice mA mb.length mc) := c4
          go_wp2_with fail
          go_region_held3 (fun w' => w'.cell? ⟨ob, 2, none⟩ = some (.int .i64 mf) ∧ w'.cell? ⟨ob, 3, none⟩ = some (.int .i64 mt) ∧ w'.cell? ⟨ob, 4, none⟩ = some (.slice mA mb.length mc))
            (first | exact ⟨x2, x3, x4⟩ | exact ⟨y2, y3, y4⟩ | exact ⟨z2, z3, z4⟩)
            (first | (go_at_call 12; refine hs1.mono ?_; rintro e w2 ⟨rfl, HA, QA⟩; have y2 := HA.f2.c 2 (.int .i64 mf) rfl; have y3 := HA.f2.c 3 (.int .i64 mt) rfl; have y4 := HA.f2.c 4 (.slice mA mb.length mc) rfl) | (go_at_call 13; refine (hs2 _ _ HA.f3).mono ?_; rintro e w3 ⟨rfl, HC, QC⟩; have z2 := HC.f3.c 2 (.int .i64 mf) rfl; have z3 := HC.f3.c 3 (.int .i64 mt) rfl; have z4 := HC.f3.c 4 (.slice mA mb.length mc) rfl))
          go_wp2
          go_meet
          case rel => exact ⟨rfl, _, _, hok2, HC.f3.drop, (QO.drew.trans QA).trans QC⟩
        · have k0b : (kind == 0) = false := by simpa using k0
          by_cases k1 : kind = 1
          · have k1b : (kind == 1) = true := by rw [k1]; rfl
            clear k1
            have hs1 := nTake p gs (L.map MsgC.msg) iv hok.ok W HO.f3
            have hs2 := fun W2 F2 (K : Holds W2 (xnetH q gs L :: F2)) => xTake q gs L iv hok.len hok.ok W2 K
            obtain ⟨E, hE⟩ : ∃ E, Hid (takeE gs (L.map MsgC.msg) iv = E) := ⟨_, Lib.hid rfl⟩
            have Hmm : Hid (takeL gs (L.map MsgC.msg) iv = (takeLC gs L iv).map MsgC.msg) := (takeLC_map gs L iv).symm
            have hok2 : RunOk ops gs (takeLC gs L iv) := ⟨by rw [← Hmm.out]; exact hok.ok.take _, takeLC_sub hok.from_⟩
            have hRn : Rd (Kd.int .u8) [opsH ops, oldH w] (takeC gs L iv).A (takeC gs L iv).b.length (takeC gs L iv).b := takeC_sub (P := fun m => Rd (Kd.int .u8) [opsH ops, oldH w] m.A m.b.length m.b) (fun m hm => by
              obtain ⟨o', ho', rfl⟩ := hok.from_ m hm
              exact Rd.opB ho' _) (Rd.nil _ _)
            have hbn : (takeC gs L iv).b.length ≤ 100 := takeC_sub (P := fun m => m.b.length ≤ 100) (fun m hm => by
              obtain ⟨o', ho', rfl⟩ := hok.from_ m hm
              have := (Hops.out _ ho').b2
              omega) (by simp [zeroC])
            simp only [← takeC_map, hE.out, Hmm.out] at hs1 hs2
            generalize takeC gs L iv = n at *
            obtain ⟨nf, nt, nA, nc, nb⟩ := n
            simp only [MsgC.msg] at hs1 hs2 hRn hbn
            go_wp2_with fail
            refine hs1.mono ?_
            rintro e w2 ⟨A2, c2', rfl, HA, QA⟩
            have HA2 := HA.box 32 #[.int .i64 nf, .int .i64 nt, .slice A2 nb.length c2']
            have QA2 := (QO.trans QA).alloc (.cells #[.int .i64 nf, .int .i64 nt, .slice A2 nb.length c2'] 32)
            have y1 := HA2.f4.c 1 (.int .i64 iv) rfl
            clear hs1 c1 c2 c3 c4 c5
            go_wp2_with fail
            refine (hs2 _ _ HA2.f5).mono ?_
            rintro e w3 ⟨rfl, HC, QC⟩
            have HC2 := HC.box 32 #[.int .i64 nf, .int .i64 nt, .slice nA nb.length nc]
            have QC2 := (QA2.trans QC).alloc (.cells #[.int .i64 nf, .int .i64 nt, .slice nA nb.length nc] 32)
            have z0 := HC2.c 0 (.int .i64 nf) rfl
            have z1 := HC2.c 1 (.int .i64 nt) rfl
            have z2 := HC2.c 2 (.slice nA nb.length nc) rfl
            have x0 := HC2.f3.c 0 (.int .i64 nf) rfl
            have x1 := HC2.f3.c 1 (.int .i64 nt) rfl
            have x2 := HC2.f3.c 2 (.slice A2 nb.length c2') rfl
            have hsm := xSame ⟨nf, nt, A2, c2', nb⟩ ⟨nf, nt, nA, nc, nb⟩ (by show nb.length ≤ _; omega) _ HC2 ((((Rd.row _).cons _).cons _).cons _) (((((((hRn.cons _).cons _).cons _).cons _).cons _).cons _).cons _)
            rw [show sameM (MsgC.msg ⟨nf, nt, A2, c2', nb⟩) (MsgC.msg ⟨nf, nt, nA, nc, nb⟩) = true from sameM_refl _] at hsm
            clear hs2 y1
            go_wp2_with fail
            refine hsm.mono ?_
            rintro e w4 ⟨rfl, HD, QD⟩
            go_wp2
            go_meet
            case rel => exact ⟨rfl, _, _, hok2, ((HD.drop.f3.drop).f2.drop).f3.drop, QC2.trans QD⟩
          · have k1b : (kind == 1) = false := by simpa using k1
            by_cases k2 : kind = 2
            · have k2b : (kind == 2) = true := by rw [k2]; rfl
              clear k2
              have hs1 := nCopy p gs (L.map MsgC.msg) iv hok.ok W.drew HO.drew.f3
              have hs2 := fun W2 F2 (K : Holds W2 (xnetH q gs L :: F2)) => xCopy q gs L iv hok.len W2 K
              obtain ⟨E, hE⟩ : ∃ E, Hid (copyE (L.map MsgC.msg) iv = E) := ⟨_, Lib.hid rfl⟩
              have Hmm : Hid (copyL (L.map MsgC.msg) iv = (copyLC L iv).map MsgC.msg) := (copyLC_map L iv).symm
              have hok2 : RunOk ops (gs) (copyLC L iv) := ⟨by rw [← Hmm.out]; exact hok.ok.copy _, copyLC_sub hok.from_⟩
              simp only [MsgC.msg, hE.out] at hs1 hs2
              rw [Hmm.out] at hs1
              have x1 : W.drew.cell? ⟨ob, 1, none⟩ = some (.int .i64 iv) := c1
              go_wp2_with fail
              go_region_held3 (fun w' => w'.cell? ⟨ob, 1, none⟩ = some (.int .i64 iv))
                (first | exact x1 | exact y1 | exact z1)
                (first | (go_at_call 17; refine hs1.mono ?_; rintro e w2 ⟨rfl, HA, QA⟩; have y1 := HA.f2.c 1 (.int .i64 iv) rfl) | (go_at_call 18; refine (hs2 _ _ HA.f3).mono ?_; rintro e w3 ⟨rfl, HC, QC⟩; have z1 := HC.f3.c 1 (.int .i64 iv) rfl))
              go_wp2
              go_meet
              case rel => exact ⟨rfl, _, _, hok2, HC.f3.drop, (QO.drew.trans QA).trans QC⟩
            · have k2b : (kind == 2) = false := by simpa using k2
              by_cases k3 : kind = 3
              · have k3b : (kind == 3) = true := by rw [k3]; rfl
                clear k3
                have hs1 := nDrop p gs (L.map MsgC.msg) iv hok.ok W.drew HO.drew.f3
                have hs2 := fun W2 F2 (K : Holds W2 (xnetH q gs L :: F2)) => xDrop q gs L iv hok.len W2 K
                obtain ⟨E, hE⟩ : ∃ E, Hid (dropE (L.map MsgC.msg) iv = E) := ⟨_, Lib.hid rfl⟩
                have Hmm : Hid (dropL (L.map MsgC.msg) iv = (dropLC L iv).map MsgC.msg) := (dropLC_map L iv).symm
                have hok2 : RunOk ops (gs) (dropLC L iv) := ⟨by rw [← Hmm.out]; exact hok.ok.drop _, dropLC_sub hok.from_⟩
                simp only [MsgC.msg, hE.out] at hs1 hs2
                rw [Hmm.out] at hs1
                have x1 : W.drew.cell? ⟨ob, 1, none⟩ = some (.int .i64 iv) := c1
                go_wp2_with fail
                go_region_held3 (fun w' => w'.cell? ⟨ob, 1, none⟩ = some (.int .i64 iv))
                  (first | exact x1 | exact y1 | exact z1)
                  (first | (go_at_call 19; refine hs1.mono ?_; rintro e w2 ⟨rfl, HA, QA⟩; have y1 := HA.f2.c 1 (.int .i64 iv) rfl) | (go_at_call 20; refine (hs2 _ _ HA.f3).mono ?_; rintro e w3 ⟨rfl, HC, QC⟩; have z1 := HC.f3.c 1 (.int .i64 iv) rfl))
                go_wp2
                go_meet
                case rel => exact ⟨rfl, _, _, hok2, HC.f3.drop, (QO.drew.trans QA).trans QC⟩
              · have k3b : (kind == 3) = false := by simpa using k3
                have hs1 := nPart p gs gg (L.map MsgC.msg) gA gc W.drew HO.drew.f3 (((hRg.cons _).cons _).cons _)
                have hs2 := fun W2 F2 (K : Holds W2 (xnetH q gs L :: F2)) hRR => xPart q gs gg L gA gc (by omega) hgcc W2 K hRR
                obtain ⟨E, hE⟩ : ∃ E, Hid (partE gs gg = E) := ⟨_, Lib.hid rfl⟩
                have Hmm : Hid (True) := trivial
                have hok2 : RunOk ops (partG gs gg) (L) := ⟨hok.ok.part, hok.from_⟩
                simp only [MsgC.msg, hE.out] at hs1 hs2
                skip
                have x5 : W.drew.cell? ⟨ob, 5, none⟩ = some (.slice gA gg.length gc) := c5
                go_wp2_with fail
                go_region_held3 (fun w' => w'.cell? ⟨ob, 5, none⟩ = some (.slice gA gg.length gc))
                  (first | exact x5 | exact y5 | exact z5)
                  (first | (go_at_call 21; refine hs1.mono ?_; rintro e w2 ⟨rfl, HA, QA⟩; have y5 := HA.f2.c 5 (.slice gA gg.length gc) rfl) | (go_at_call 22; refine (hs2 _ _ HA.f3 (((hRg.cons _).cons _).cons _)).mono ?_; rintro e w3 ⟨rfl, HC, QC⟩; have z5 := HC.f3.c 5 (.slice gA gg.length gc) rfl))
                go_wp2
                go_meet
                case rel => exact ⟨rfl, _, _, hok2, HC.f3.drop, (QO.drew.trans QA).trans QC⟩
      case rest =>
        clear c1 c2 c3 c4 c5 HO QO hRb hRg hopk
        obtain ⟨rfl, gs1, L1, hok1, H1, Q1⟩ := hcut
        obtain ⟨xA, xc, LA, Lc, HX⟩ := H1.xnOpen
        have HN := HX.f4.drew
        have n1 : wc.drew.cell? ⟨q, 1, none⟩ = some (.slice LA L1.length Lc) := HX.c 1 _ rfl
        have hlen := nLen p gs1 (L1.map MsgC.msg) wc.drew HN
        rw [List.length_map] at hlen
        go_wp2_with fail
        go_region_held3 (fun w' => w'.cell? ⟨q, 1, none⟩ = some (.slice LA L1.length Lc))
          (first | exact n1 | exact n2)
          ((go_at_call 23; refine hlen.mono ?_; rintro e w2 ⟨rfl, HA, QA⟩; have n2 := HA.f2.c 1 (.slice LA L1.length Lc) rfl))
        have HZ := HA.b4.xnShut
        go_wp2
        go_roundw
        case rel => exact ⟨i + 1, gs1, L1, by omega, by go_num, hok1, HZ, Q1.drew.trans QA⟩
        case measure => simp [intOf]; omega
    · obtain rfl : i = ops.length := by omega
      go_wp2_with fail
      refine (nlives wr H1).mono ?_
      rintro e w6 ⟨rfl, H6, Q6⟩
      have HB := Lib.hid (H6.drop.drop.drop.drop.old (Q1.trans Q6))
      go_wp2
      go_ret
      exact ⟨rfl, HB.out⟩
end Go.Proofs.Ythoajajgbafngaa
