/- The law NetConserves: as many messages are sent or copied as are taken, dropped or in transit, and every message that is taken was sent. -/
import Derived.Test.YthoajajgbafngaaNetGen
namespace Go.Proofs.Ythoajajgbafngaa
set_option linter.unusedVariables false
set_option linter.unusedSimpArgs false
open Go.RowKit Go.Shelf Go.Proofs.YthoajajgbafngaaW.PrintWords Go.Proofs.YthoajajgbafngaaW.PrintLast Go.Proofs.YthoajajgbafngaaW.PrintMore

theorem send_zero {gs : List Int} {ms : List Msg} {m : Msg} (h : sendE gs ms m = 0) : sendL gs ms m = ms ++ [m] := by
  unfold sendE at h
  unfold sendL
  split at h
  · rename_i hs
    rw [if_pos hs]
    split at h
    · exact absurd h (by decide)
    · rename_i hl
      rw [if_neg hl]
  · exact absurd h (by decide)
theorem send_other {gs : List Int} {ms : List Msg} {m : Msg} (h : sendE gs ms m ≠ 0) : sendL gs ms m = ms := by
  unfold sendE at h
  unfold sendL
  split at h
  · rename_i hs
    rw [if_pos hs]
    split at h
    · rename_i hl
      rw [if_pos hl]
    · exact absurd rfl h
  · rename_i hs
    rw [if_neg hs]
theorem copy_zero {ms : List Msg} {i : Int} (h : copyE ms i = 0) : copyL ms i = ms ++ [atM ms i] ∧ atM ms i ∈ ms := by
  unfold copyE at h
  unfold copyL
  split at h
  · rename_i hs
    rw [if_pos hs]
    split at h
    · exact absurd h (by decide)
    · rename_i hl
      rw [if_neg hl]
      refine ⟨?_, atM_mem hs⟩
      obtain ⟨k, rfl, hk, hg⟩ := inR_get hs
      rw [Int.toNat_natCast, hg]
      rfl
  · exact absurd h (by decide)
theorem copy_other {ms : List Msg} {i : Int} (h : copyE ms i ≠ 0) : copyL ms i = ms := by
  unfold copyE at h
  unfold copyL
  split at h
  · rename_i hs
    rw [if_pos hs]
    split at h
    · rename_i hl
      rw [if_pos hl]
    · exact absurd rfl h
  · rename_i hs
    rw [if_neg hs]
theorem erase_len {ms : List Msg} {i : Int} (hs : inR ms i = true) : (ms.eraseIdx i.toNat).length + 1 = ms.length := by
  obtain ⟨h0, h1⟩ := inR_iff.1 hs
  rw [List.length_eraseIdx, if_pos (by omega)]
  omega
theorem drop_zero {ms : List Msg} {i : Int} (h : dropE ms i = 0) : (dropL ms i).length + 1 = ms.length ∧ ∀ m ∈ dropL ms i, m ∈ ms := by
  unfold dropE at h
  unfold dropL
  split at h
  · rename_i hs
    rw [if_pos hs]
    exact ⟨erase_len hs, fun m hm => List.mem_of_mem_eraseIdx hm⟩
  · exact absurd h (by decide)
theorem drop_other {ms : List Msg} {i : Int} (h : dropE ms i ≠ 0) : dropL ms i = ms := by
  unfold dropE at h
  unfold dropL
  split at h
  · exact absurd rfl h
  · rename_i hs
    rw [if_neg hs]
theorem take_zero {gs : List Int} {ms : List Msg} {i : Int} (h : takeE gs ms i = 0) : (takeL gs ms i).length + 1 = ms.length ∧ (∀ m ∈ takeL gs ms i, m ∈ ms) ∧ takeM gs ms i ∈ ms := by
  unfold takeE at h
  unfold takeL takeM
  split at h
  · rename_i hs
    rw [if_pos hs, if_pos hs]
    split at h
    · rename_i ho
      rw [if_pos ho, if_pos ho]
      exact ⟨erase_len hs, fun m hm => List.mem_of_mem_eraseIdx hm, atM_mem hs⟩
    · exact absurd h (by decide)
  · exact absurd h (by decide)
theorem take_other {gs : List Int} {ms : List Msg} {i : Int} (h : takeE gs ms i ≠ 0) : takeL gs ms i = ms := by
  unfold takeE at h
  unfold takeL
  split at h
  · rename_i hs
    rw [if_pos hs]
    split at h
    · exact absurd rfl h
    · rename_i ho
      rw [if_neg ho]
  · rename_i hs
    rw [if_neg hs]
structure ConsOk (ops : List OpN) (gs : List Int) (ms : List Msg) (sent : List MsgC) : Prop where
  ok : NetOk gs ms
  from_ : ∀ m ∈ sent, ∃ o ∈ ops, o.m = m
  have_ : ∀ m ∈ ms, ∃ s ∈ sent, s.msg = m
def knownB (sent : List MsgC) (x : Msg) (j : Nat) : Bool := (sent.take j).any (fun s => sameM s.msg x)
theorem knownB_succ {sent : List MsgC} {x : Msg} {j : Nat} (h : j < sent.length) : knownB sent x (j + 1) = (knownB sent x j || sameM sent[j].msg x) := by
  unfold knownB
  rw [List.take_succ_eq_append_getElem h, List.any_append]
  simp
theorem knownB_all {sent : List MsgC} {x : Msg} (h : ∃ s ∈ sent, s.msg = x) : knownB sent x sent.length = true := by
  obtain ⟨s, hs, rfl⟩ := h
  unfold knownB
  rw [List.take_length, List.any_eq_true]
  exact ⟨s, hs, sameM_refl _⟩

set_option maxRecDepth 100000 in
set_option maxHeartbeats 16000000 in
theorem NetConserves_walk (a0 : Int) (a1 : Option Addr) (len1 cap1 : Nat) (z1 : List Int) (w : World) (wf0 : (Lit.int .i64 a0).wf = true) (w1 : IsRow .i64 w a1 len1 cap1 z1) (y1 : len1 * 8 ≤ 140737488351232) :
    Calls Try.prog 5 #[.int .i64 a0, .slice a1 len1 cap1] w fun e w' => e = .returned (.bool true) ∧ Below w.heap.size w w' := by
  obtain ⟨l, rfl, hlc, hC, hwf⟩ := row_in w1
  have Hwf := Lib.hid hwf
  clear w1 hwf
  go_enter Try.func5, Try.ntmps5
  go_wp2_with fail
  refine (nmade a0 wf0 w (Holds.start w)).mono ?_
  rintro e v1 ⟨p, k, rfl, hk1, hk6, H1, Q1⟩
  go_wp2_with fail
  refine (Ops_calls a1 cap1 l k hk1 hk6 Hwf.out y1 v1 H1 ((Rd.old_int hC []).cons _)).mono ?_
  rintro e v3 ⟨A, c, ops, rfl, hol, hops, H3, hoc, Q3⟩
  have Hops := Lib.hid hops
  have Q4 := Q1.trans Q3
  have hok0 : ConsOk ops (List.replicate k 0) [] [] := ⟨NetOk.new k (by omega), fun m hm => by simp at hm, fun m hm => by simp at hm⟩
  have H4 := (H3.nilRow msgK 32).f4
  clear hops H1 H3 Q1 Q3 wf0
  go_wp2
  go_loopw [8, 9, 10, 11] (fun av bv sv iv wr => ∃ (i ni no : Nat) (gs : List Int) (ms : List Msg) (sent : List MsgC) (sA : Option Addr) (sc : Nat), i ≤ ops.length ∧ av = .int .i64 (ni : Int) ∧ bv = .int .i64 (no : Int) ∧ sv = .slice sA sent.length sc ∧ iv = .int .i64 (i : Int) ∧ ni ≤ i ∧ ni = no + ms.length ∧ sent.length ≤ i ∧ ConsOk ops gs ms sent ∧ Holds wr [netH p gs ms, rowH msgK 32 (.slice sA sent.length sc) sent, rowH opnK 34 (.slice A ops.length c) ops, opsH ops, oldH w] ∧ Calm w wr) (fun _ _ _ iv _ => ops.length - (intOf iv).toNat)
  case atStart => exact ⟨0, 0, 0, _, [], [], none, 0, by omega, rfl, rfl, rfl, rfl, by omega, rfl, by simp, hok0, H4, Q4⟩
  case round =>
    clear H4 Q4 hok0
    obtain ⟨i, ni, no, gs, ms, sent, sA, sc, hi, rfl, rfl, rfl, rfl, hni, hnn, hsl, hok, H1, Q1⟩ := hrel
    have hnn' : no ≤ ni := by omega
    have Hnn := Lib.hid hnn
    clear hnn
    by_cases hlt : i < ops.length
    · have hii : (i : Int) < (ops.length : Int) := by omega
      obtain ⟨g, rfl, hgl, hcl⟩ := H1.f3.flatAt i hlt
      have hmem : ops[i] ∈ ops := List.getElem_mem hlt
      have hopk := Hops.out _ hmem
      generalize ops[i] = o at *
      obtain ⟨kind, iv, ⟨mf, mt, mA, mc, mb⟩, gA, gc, gg⟩ := o
      have hg30 : gg.length ≤ 30 := hopk.g30
      have s0 : wr.cell? ⟨g, i * 6, none⟩ = some (.int .i64 kind) := hcl 0 _ rfl
      have s1 : wr.cell? ⟨g, i * 6 + 1, none⟩ = some (.int .i64 iv) := hcl 1 _ rfl
      have s2 : wr.cell? ⟨g, i * 6 + 2, none⟩ = some (.int .i64 mf) := hcl 2 _ rfl
      have s3 : wr.cell? ⟨g, i * 6 + 3, none⟩ = some (.int .i64 mt) := hcl 3 _ rfl
      have s4 : wr.cell? ⟨g, i * 6 + 4, none⟩ = some (.slice mA mb.length mc) := hcl 4 _ rfl
      have s5 : wr.cell? ⟨g, i * 6 + 5, none⟩ = some (.slice gA gg.length gc) := hcl 5 _ rfl
      clear hcl
      have HO := (H1.box 34 #[.int .i64 kind, .int .i64 iv, .int .i64 mf, .int .i64 mt, .slice mA mb.length mc, .slice gA gg.length gc]).f2
      have QO := Q1.alloc (.cells #[.int .i64 kind, .int .i64 iv, .int .i64 mf, .int .i64 mt, .slice mA mb.length mc, .slice gA gg.length gc] 34)
      have hRb : Rd (Kd.int .u8) [opsH ops, oldH w] mA mb.length mb := Rd.opB hmem _
      have hRg : Rd (Kd.int .i64) [opsH ops, oldH w] gA gg.length gg := Rd.opG hmem _
      go_upto_block 2 with (fail)
      generalize wr.heap.size = ob at *
      generalize wr.alloc (.cells #[.int .i64 kind, .int .i64 iv, .int .i64 mf, .int .i64 mt, .slice mA mb.length mc, .slice gA gg.length gc] 34) = W at *
      have c1 := HO.f2.c 1 (.int .i64 iv) rfl
      have c2 := HO.f2.c 2 (.int .i64 mf) rfl
      have c3 := HO.f2.c 3 (.int .i64 mt) rfl
      have c4 := HO.f2.c 4 (.slice mA mb.length mc) rfl
      have c5 := HO.f2.c 5 (.slice gA gg.length gc) rfl
      clear s0 s1 s2 s3 s4 s5 H1 Q1
      go_cut [8, 9, 10] (fun av bv sv w' => ∃ (ni no : Nat) (gs1 : List Int) (ms1 : List Msg) (sent1 : List MsgC) (sA1 : Option Addr) (sc1 : Nat), av = .int .i64 (ni : Int) ∧ bv = .int .i64 (no : Int) ∧ sv = .slice sA1 sent1.length sc1 ∧ ni ≤ i + 1 ∧ Hid (ni = no + ms1.length) ∧ sent1.length ≤ i + 1 ∧ ConsOk ops gs1 ms1 sent1 ∧ Holds w' [netH p gs1 ms1, rowH msgK 32 (.slice sA1 sent1.length sc1) sent1, rowH opnK 34 (.slice (some ⟨g, 0, none⟩) ops.length c) ops, opsH ops, oldH w] ∧ Calm w w')
      case first =>
        by_cases k0 : kind = 0
        · have k0b : (kind == 0) = true := by rw [k0]; rfl
          clear k0
          have hs1 := nSend p gs ms ⟨mf, mt, mb⟩ mA mc hok.ok W HO ((((hRb.cons _).cons _).cons _))
          have hok1 := hok.ok.send ⟨mf, mt, mb⟩
          by_cases hE : sendE gs ms ⟨mf, mt, mb⟩ = 0
          · rw [send_zero hE] at hs1 hok1
            rw [hE] at hs1
            have hok2 : ConsOk ops gs (ms ++ [⟨mf, mt, mb⟩]) (sent ++ [⟨mf, mt, mA, mc, mb⟩]) := ⟨hok1, fun m hm => by
              rcases List.mem_append.1 hm with h | h
              · exact hok.from_ m h
              · exact ⟨_, hmem, (List.mem_singleton.1 h).symm⟩, fun m hm => by
              rcases List.mem_append.1 hm with h | h
              · obtain ⟨s, hs, e⟩ := hok.have_ m h
                exact ⟨s, List.mem_append_left _ hs, e⟩
              · exact ⟨_, List.mem_append_right _ (List.mem_singleton_self _), (List.mem_singleton.1 h).symm⟩⟩
            have hl1 : (sent.length + 1) * 40 ≤ 140737488355328 := by omega
            have Hok2 := Lib.hid hok2
            clear hE hok1 hok2
            go_wp2_with fail
            refine hs1.mono ?_
            rintro e w2 ⟨rfl, HA, QA⟩
            have y2 := HA.f2.c 2 (.int .i64 mf) rfl
            have y3 := HA.f2.c 3 (.int .i64 mt) rfl
            have y4 := HA.f2.c 4 (.slice mA mb.length mc) rfl
            have HE := HA.f3.eltFlat (sz := 3) (f := MsgC.cells) ⟨mf, mt, mA, mc, mb⟩ rfl (MsgC.one _)
            clear hs1 c1 c2 c3 c4 c5
            go_wp2_with (at_builtin; go_must (refine H_append_b msgK rfl (.tmp 52) (.tmp 55) 43 32 _ 40 rfl Try.underlying43 info_msgC rfl (by decide) (by decide) (.slice sA sent.length sc) sent ⟨mf, mt, mA, mc, mb⟩ (MsgC.cells ⟨mf, mt, mA, mc, mb⟩) _ rfl rfl (by simp) HE hl1 ?_; intro B1 A1 c1 w3 hB1 K1 k1 Q2))
            go_meet
            case rel => exact ⟨ni + 1, no, gs, _, B1, A1, c1, by go_num, rfl, rfl, by omega, by show _ = _; have := Hnn.out; rw [List.length_append, List.length_singleton]; omega, by rw [hB1.out]; simp; omega, by rw [hB1.out]; exact Hok2.out, K1.f2.f3.drop, (QO.trans QA).trans Q2⟩
          · rw [send_other hE] at hs1
            have hEb : (sendE gs ms ⟨mf, mt, mb⟩ == 0) = false := by simpa using hE
            obtain ⟨E, hEE⟩ : ∃ E, sendE gs ms ⟨mf, mt, mb⟩ = E := ⟨_, rfl⟩
            simp only [hEE] at hs1 hEb
            clear hE hEE hok1
            go_wp2_with fail
            refine hs1.mono ?_
            rintro e w2 ⟨rfl, HA, QA⟩
            clear hs1 c1 c2 c3 c4 c5
            go_wp2
            go_meet
            case rel => exact ⟨ni, no, gs, ms, sent, sA, sc, rfl, rfl, rfl, by omega, Hnn, by omega, hok, HA.f2.drop, QO.trans QA⟩
        · have k0b : (kind == 0) = false := by simpa using k0
          clear k0
          by_cases k1 : kind = 1
          · have k1b : (kind == 1) = true := by rw [k1]; rfl
            clear k1
            have hs1 := nTake p gs ms iv hok.ok W HO
            have hok1 := hok.ok.take iv
            by_cases hE : takeE gs ms iv = 0
            · obtain ⟨hz, hin, hm⟩ := take_zero hE
              rw [hE] at hs1
              have hkn := knownB_all (hok.have_ _ hm)
              have hok2 : ConsOk ops gs (takeL gs ms iv) sent := ⟨hok1, hok.from_, fun m hm => hok.have_ m (hin m hm)⟩
              have Hok2 := Lib.hid hok2
              have Hz := Lib.hid hz
              have Hkn := Lib.hid hkn
              clear hE hok1 hok2 hz hin hm hkn
              generalize takeL gs ms iv = ms1 at *
              generalize takeM gs ms iv = x at *
              obtain ⟨xf, xt, xb⟩ := x
              have hno : (no : Int) ≤ 30 := by omega
              go_wp2_with fail
              refine hs1.mono ?_
              rintro e w2 ⟨A2, c2', rfl, HA, QA⟩
              dsimp only at HA ⊢
              have HX := HA.box 32 #[.int .i64 xf, .int .i64 xt, .slice A2 xb.length c2']
              have QX := (QO.trans QA).alloc (.cells #[.int .i64 xf, .int .i64 xt, .slice A2 xb.length c2'] 32)
              clear hs1 c1 c2 c3 c4 c5
              go_wp2
              generalize w2.heap.size = xb0 at *
              generalize w2.alloc (.cells #[.int .i64 xf, .int .i64 xt, .slice A2 xb.length c2'] 32) = w3 at *
              obtain ⟨wo, hwo⟩ : ∃ wo, wo = wr := ⟨_, rfl⟩
              go_loopw [15, 16] (fun kv jv wr => ∃ j : Nat, j ≤ sent.length ∧ kv = .bool (knownB sent ⟨xf, xt, xb⟩ j) ∧ jv = .int .i64 (j : Int) ∧ Holds wr [blkH xb0 32 #[.int .i64 xf, .int .i64 xt, .slice A2 xb.length c2'], rowH (Kd.int .u8) 5 (.slice A2 xb.length c2') xb, netH p gs ms1, blkH ob 34 #[.int .i64 kind, .int .i64 iv, .int .i64 mf, .int .i64 mt, .slice mA mb.length mc, .slice gA gg.length gc], rowH msgK 32 (.slice sA sent.length sc) sent, rowH opnK 34 (.slice (some ⟨g, 0, none⟩) ops.length c) ops, opsH ops, oldH w] ∧ Calm w wr) (fun _ jv _ => sent.length - (intOf jv).toNat)
              case atStart => exact ⟨0, by omega, rfl, rfl, HX, QX⟩
              case round =>
                clear HX QX
                obtain ⟨j, hj, rfl, rfl, H1, Q1⟩ := hrel
                by_cases hjl : j < sent.length
                · have hji : (j : Int) < (sent.length : Int) := by omega
                  have hks := knownB_succ (x := ⟨xf, xt, xb⟩) hjl
                  have hat := fun W F (K : Holds W (rowH msgK 32 (.slice sA sent.length sc) sent :: F)) => K.flatAt j hjl
                  obtain ⟨o', ho', hoe⟩ := hok.from_ sent[j] (List.getElem_mem hjl)
                  have hRs : Rd (Kd.int .u8) [opsH ops, oldH w] sent[j].A sent[j].b.length sent[j].b := by rw [← hoe]; exact Rd.opB ho' _
                  have hbs : sent[j].b.length ≤ 10 := by rw [← hoe]; exact (Hops.out _ ho').b2
                  clear hoe ho'
                  generalize sent[j] = s at *
                  obtain ⟨sf, st, sA', sc', sb⟩ := s
                  obtain ⟨gsn, rfl, hgsl, hcs⟩ := hat wr _ H1.f5
                  have y0 : wr.cell? ⟨gsn, j * 3, none⟩ = some (.int .i64 sf) := hcs 0 _ rfl
                  have y1 : wr.cell? ⟨gsn, j * 3 + 1, none⟩ = some (.int .i64 st) := hcs 1 _ rfl
                  have y2 : wr.cell? ⟨gsn, j * 3 + 2, none⟩ = some (.slice sA' sb.length sc') := hcs 2 _ rfl
                  have x0 := H1.c 0 (.int .i64 xf) rfl
                  have x1 := H1.c 1 (.int .i64 xt) rfl
                  have x2 := H1.c 2 (.slice A2 xb.length c2') rfl
                  cases hkb : knownB sent ⟨xf, xt, xb⟩ j
                  · rw [hkb, Bool.false_or] at hks
                    have hsm := xSame ⟨sf, st, sA', sc', sb⟩ ⟨xf, xt, A2, c2', xb⟩ (by show sb.length ≤ _; have : sb.length ≤ 10 := hbs; omega) wr.drew H1.drew ((((((hRs.cons _).cons _).cons _).cons _).cons _).cons _) ((Rd.row _).cons _)
                    obtain ⟨kb, Hkb⟩ : ∃ kb, Hid (kb = knownB sent ⟨xf, xt, xb⟩ (j + 1)) := ⟨_, Lib.hid rfl⟩
                    rw [show sameM (MsgC.msg ⟨sf, st, sA', sc', sb⟩) (MsgC.msg ⟨xf, xt, A2, c2', xb⟩) = kb from (Hkb.out.trans hks).symm] at hsm
                    have Hat := Lib.hid hat
                    clear hks hkb hat hcs hRs
                    go_wp2_with fail
                    go_region_held3 (fun w' => w'.cell? ⟨gsn, j * 3, none⟩ = some (.int .i64 sf) ∧ w'.cell? ⟨gsn, j * 3 + 1, none⟩ = some (.int .i64 st) ∧ w'.cell? ⟨gsn, j * 3 + 2, none⟩ = some (.slice sA' sb.length sc') ∧ w'.cell? ⟨xb0, 0, none⟩ = some (.int .i64 xf) ∧ w'.cell? ⟨xb0, 1, none⟩ = some (.int .i64 xt) ∧ w'.cell? ⟨xb0, 2, none⟩ = some (.slice A2 xb.length c2'))
                      (first | exact ⟨y0, y1, y2, x0, x1, x2⟩ | exact ⟨z0, z1, z2, u0, u1, u2⟩)
                      ((go_at_call 16; refine hsm.mono ?_; rintro e w4 ⟨rfl, HD, QD⟩; obtain ⟨g', hg', hgl', hcs'⟩ := Hat.out w4 _ HD.f5; cases hg'; have z0 : w4.cell? ⟨gsn, j * 3, none⟩ = some (.int .i64 sf) := hcs' 0 _ rfl; have z1 : w4.cell? ⟨gsn, j * 3 + 1, none⟩ = some (.int .i64 st) := hcs' 1 _ rfl; have z2 : w4.cell? ⟨gsn, j * 3 + 2, none⟩ = some (.slice sA' sb.length sc') := hcs' 2 _ rfl; have u0 := HD.c 0 (.int .i64 xf) rfl; have u1 := HD.c 1 (.int .i64 xt) rfl; have u2 := HD.c 2 (.slice A2 xb.length c2') rfl))
                    go_wp2
                    go_roundw
                    case rel => exact ⟨j + 1, by omega, by rw [Hkb.out], by go_num, HD, Q1.drew.trans QD⟩
                    case measure => simp [intOf]; omega
                  · rw [hkb, Bool.true_or] at hks
                    clear hat hcs hRs
                    go_wp2_with fail
                    go_region
                    go_wp2
                    go_roundw
                    case rel => exact ⟨j + 1, by omega, by rw [hks], by go_num, H1.drew, Q1.drew⟩
                    case measure => simp [intOf]; omega
                · obtain rfl : j = sent.length := by omega
                  rw [Hkn.out]
                  go_wp2
                  go_meet
                  case rel => exact ⟨ni, no + 1, gs, ms1, sent, sA, sc, rfl, by go_num, rfl, by omega, by show _ = _; have := Hnn.out; have := Hz.out; omega, by omega, Hok2.out, H1.drop.drop.f2.drop, Q1⟩
            · rw [take_other hE] at hs1
              have hEb : (takeE gs ms iv == 0) = false := by simpa using hE
              obtain ⟨E, hEE⟩ : ∃ E, takeE gs ms iv = E := ⟨_, rfl⟩
              simp only [hEE] at hs1 hEb
              clear hE hEE hok1
              generalize takeM gs ms iv = x at *
              obtain ⟨xf, xt, xb⟩ := x
              go_wp2_with fail
              refine hs1.mono ?_
              rintro e w2 ⟨A2, c2', rfl, HA, QA⟩
              dsimp only at HA ⊢
              have HX := HA.box 32 #[.int .i64 xf, .int .i64 xt, .slice A2 xb.length c2']
              have QX := (QO.trans QA).alloc (.cells #[.int .i64 xf, .int .i64 xt, .slice A2 xb.length c2'] 32)
              clear hs1 c1 c2 c3 c4 c5
              go_wp2
              go_meet
              case rel => exact ⟨ni, no, gs, ms, sent, sA, sc, rfl, rfl, rfl, by omega, Hnn, by omega, hok, HX.drop.drop.f2.drop, QX⟩
          · have k1b : (kind == 1) = false := by simpa using k1
            clear k1
            by_cases k2 : kind = 2
            · have k2b : (kind == 2) = true := by rw [k2]; rfl
              clear k2
              have hs1 := nCopy p gs ms iv hok.ok W HO
              have hok1 := hok.ok.copy iv
              by_cases hE : copyE ms iv = 0
              · obtain ⟨hz, hin⟩ := copy_zero hE
                rw [hz] at hs1 hok1
                rw [hE] at hs1
                have hok2 : ConsOk ops gs (ms ++ [atM ms iv]) sent := ⟨hok1, hok.from_, fun m hm => by
                  rcases List.mem_append.1 hm with h | h
                  · exact hok.have_ m h
                  · rw [List.mem_singleton.1 h]; exact hok.have_ _ hin⟩
                have Hok2 := Lib.hid hok2
                clear hE hok1 hok2 hz hin
                go_wp2_with fail
                refine hs1.mono ?_
                rintro e w2 ⟨rfl, HA, QA⟩
                clear hs1 c1 c2 c3 c4 c5
                go_wp2
                go_meet
                case rel => exact ⟨ni + 1, no, gs, _, sent, sA, sc, by go_num, rfl, rfl, by omega, by show _ = _; have := Hnn.out; rw [List.length_append, List.length_singleton]; omega, by omega, Hok2.out, HA.f2.drop, QO.trans QA⟩
              · rw [copy_other hE] at hs1
                have hEb : (copyE ms iv == 0) = false := by simpa using hE
                obtain ⟨E, hEE⟩ : ∃ E, copyE ms iv = E := ⟨_, rfl⟩
                simp only [hEE] at hs1 hEb
                clear hE hEE hok1
                go_wp2_with fail
                refine hs1.mono ?_
                rintro e w2 ⟨rfl, HA, QA⟩
                clear hs1 c1 c2 c3 c4 c5
                go_wp2
                go_meet
                case rel => exact ⟨ni, no, gs, ms, sent, sA, sc, rfl, rfl, rfl, by omega, Hnn, by omega, hok, HA.f2.drop, QO.trans QA⟩
            · have k2b : (kind == 2) = false := by simpa using k2
              clear k2
              by_cases k3 : kind = 3
              · have k3b : (kind == 3) = true := by rw [k3]; rfl
                clear k3
                have hs1 := nDrop p gs ms iv hok.ok W HO
                have hok1 := hok.ok.drop iv
                by_cases hE : dropE ms iv = 0
                · obtain ⟨hz, hin⟩ := drop_zero hE
                  rw [hE] at hs1
                  have hok2 : ConsOk ops gs (dropL ms iv) sent := ⟨hok1, hok.from_, fun m hm => hok.have_ m (hin m hm)⟩
                  have Hok2 := Lib.hid hok2
                  have Hz := Lib.hid hz
                  clear hE hok1 hok2 hz hin
                  generalize dropL ms iv = ms1 at *
                  go_wp2_with fail
                  refine hs1.mono ?_
                  rintro e w2 ⟨rfl, HA, QA⟩
                  clear hs1 c1 c2 c3 c4 c5
                  have hno : (no : Int) ≤ 30 := by omega
                  go_wp2
                  go_meet
                  case rel => exact ⟨ni, no + 1, gs, ms1, sent, sA, sc, rfl, by go_num, rfl, by omega, by show _ = _; have := Hnn.out; have := Hz.out; omega, by omega, Hok2.out, HA.f2.drop, QO.trans QA⟩
                · rw [drop_other hE] at hs1
                  have hEb : (dropE ms iv == 0) = false := by simpa using hE
                  obtain ⟨E, hEE⟩ : ∃ E, dropE ms iv = E := ⟨_, rfl⟩
                  simp only [hEE] at hs1 hEb
                  clear hE hEE hok1
                  go_wp2_with fail
                  refine hs1.mono ?_
                  rintro e w2 ⟨rfl, HA, QA⟩
                  clear hs1 c1 c2 c3 c4 c5
                  go_wp2
                  go_meet
                  case rel => exact ⟨ni, no, gs, ms, sent, sA, sc, rfl, rfl, rfl, by omega, Hnn, by omega, hok, HA.f2.drop, QO.trans QA⟩
              · have k3b : (kind == 3) = false := by simpa using k3
                clear k3
                have hs1 := nPart p gs gg ms gA gc W HO (((hRg.cons _).cons _).cons _)
                go_wp2_with fail
                refine hs1.mono ?_
                rintro e w2 ⟨rfl, HA, QA⟩
                clear hs1 c1 c2 c3 c4 c5
                go_wp2
                go_meet
                case rel => exact ⟨ni, no, partG gs gg, ms, sent, sA, sc, rfl, rfl, rfl, by omega, Hnn, by omega, ⟨hok.ok.part, hok.from_, hok.have_⟩, HA.f2.drop, QO.trans QA⟩
      case rest =>
        clear c1 c2 c3 c4 c5 HO QO hRb hRg hopk
        obtain ⟨ni1, no1, gs1, ms1, sent1, sA1, sc1, rfl, rfl, rfl, hni1, hnn1, hsl1, hok1, H1, Q1⟩ := hcut
        have hlen := nLen p gs1 ms1 wc H1
        have hdiff : (ni1 : Int) - (no1 : Int) = (ms1.length : Int) := by have := hnn1.out; omega
        have hno1 : (no1 : Int) ≤ 30 := by have := hnn1.out; omega
        have hni30 : (ni1 : Int) ≤ 30 := by omega
        go_wp2_with fail
        refine hlen.mono ?_
        rintro e w2 ⟨rfl, HA, QA⟩
        go_wp2
        go_roundw
        case rel => exact ⟨i + 1, ni1, no1, gs1, ms1, sent1, sA1, sc1, by omega, rfl, rfl, rfl, by go_num, hni1, hnn1.out, hsl1, hok1, HA, Q1.trans QA⟩
        case measure => simp [intOf]; omega
    · obtain rfl : i = ops.length := by omega
      go_wp2_with fail
      refine (nlives wr H1).mono ?_
      rintro e w6 ⟨rfl, H6, Q6⟩
      have HB := Lib.hid (H6.drop.drop.drop.drop.old (Q1.trans Q6))
      go_wp2
      go_ret
      exact ⟨rfl, HB.out⟩
end Go.Proofs.Ythoajajgbafngaa
