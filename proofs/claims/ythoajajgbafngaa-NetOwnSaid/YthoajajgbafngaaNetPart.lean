/- The law NetPartition. -/
import Derived.Test.YthoajajgbafngaaNetArgs
namespace Go.Proofs.Ythoajajgbafngaa
set_option linter.unusedVariables false
set_option linter.unusedSimpArgs false
open Go.RowKit Go.Shelf Go.Proofs.YthoajajgbafngaaW.PrintWords Go.Proofs.YthoajajgbafngaaW.PrintLast Go.Proofs.YthoajajgbafngaaW.PrintMore

theorem row_of_R {w : World} {base : Nat} {ok : Nat → Prop} {A : Option Addr} {n c : Nat} {r : List Int} (h : (Kd.int .i64).R 3 w base ok (.slice A n c) r) (h0 : 0 < r.length) : ∃ gx cur, A = some ⟨gx, 0, none⟩ ∧ base ≤ gx ∧ w.heap[gx]? = some (.cells cur 3 (0, 0)) ∧ n ≤ c ∧ cur.size = c := by
  obtain ⟨_, h | ⟨g, cap, cur, hv, hb, hg, hnc, _, hcs, _⟩⟩ := Kd.own_of_R h
  · omega
  · injection hv with e1 e2 e3
    subst e1 e2 e3
    exact ⟨g, cur, rfl, hb, hg, hnc, by omega⟩

theorem cells_of_kd {w : World} {gx : Nat} {cur : Array Value} {n : Nat} {l : List Int} (hc : w.heap[gx]? = some (.cells cur 3 (0, 0))) (h : (Kd.int .i64).C w (some ⟨gx, 0, none⟩) n l) : ∀ j, j < n → cur[j]? = some (.int .i64 (l[j]?.getD 0)) := fun j hj => by
  obtain ⟨ad, e, hcell⟩ := at_nat h hj
  cases e
  rw [Addr.add_lit, Nat.zero_add, cell_of_row w gx j cur _ (0, 0) hc] at hcell
  exact hcell
theorem kd_of_cells {w : World} {gx : Nat} {cur : Array Value} {n : Nat} {l : List Int} (hl : l.length = n) (hn : n ≤ 1000000) (hc : w.heap[gx]? = some (.cells cur 3 (0, 0))) (h : ∀ j, j < n → cur[j]? = some (.int .i64 (l[j]?.getD 0))) : (Kd.int .i64).C w (some ⟨gx, 0, none⟩) n l := by
  refine Kd.C_of_reads (d := (0 : Int)) (h1 := fun _ => rfl) (show ReadsInt w .i64 _ n l from ⟨hl, by omega, fun _ => ⟨_, rfl, fun j hj => ?_⟩⟩)
  rw [Addr.add_lit, Nat.zero_add, cell_of_row w gx j cur _ (0, 0) hc, h j hj, List.getD_eq_getElem?_getD]

theorem Kept.three (w : World) (x : Nat) (a b c : Value) : Kept (fun i => i = x) w (((w.setCell ⟨x, 0, none⟩ a).setCell ⟨x, 1, none⟩ b).setCell ⟨x, 2, none⟩ c) := by
  have h1 := Kept.setCell (S := fun i => i = x) (p := ⟨x, 0, none⟩) (Kept.refl _ w) (Or.inl rfl) a
  have h2 := Kept.setCell (S := fun i => i = x) (p := ⟨x, 1, none⟩) h1 (Or.inl rfl) b
  exact Kept.setCell (S := fun i => i = x) (p := ⟨x, 2, none⟩) h2 (Or.inl rfl) c

theorem Ints_n (A : Option Addr) (c : Nat) (l : List Int) (m : Nat) (hm : l.length = m) (most : Int) (r : List Int) (n : Nat) (hn : r.length = n) (hr : Hid (l.take most.toNat = r)) (h0 : 0 ≤ most) (hl : l.length * 8 ≤ 140737488351232) (w : World) (hC : (Kd.int .i64).C w A m l) (hc : l.length ≤ c) :
    Calls Try.prog 27 #[.slice A m c, .int .i64 most] w fun e w' => ∃ A' c', e = .returned (.slice A' n c') ∧ n ≤ c' ∧ (Kd.int .i64).R 3 w' w.heap.size (fun _ => True) (.slice A' n c') r ∧ Below w.heap.size w w' := by
  subst hn hm
  exact Ints_at A c l most r hr h0 hl w hC hc

theorem Part_ok_n (p gb : Nat) (lv : Value) (gs xs : List Int) (ms : List Msg) (bl : List Nat) (A : Option Addr) (n c : Nat) (hn' : xs.length = n) (w : World) (hN : NetAt w p gb lv gs ms bl) (hn : xs.length = gs.length) (hC : (Kd.int .i64).C w A n xs) :
    Calls Try.prog 21 #[.pointer (some ⟨p, 0, none⟩), .slice A n c] w fun e w' => e = .returned (.int .i64 0) ∧ NetAt w' p gb lv xs ms bl ∧ Kept (· = gb) w w' := by
  subst hn'
  exact Part_ok p gb lv gs xs ms bl A c w hN hn hC

theorem NetB.part {b : Nat} {W W' : World} {p gb : Nat} {lv : Value} {gs xs : List Int} {ms : List Msg} {bl : List Nat} (h : NetB b W p gb lv gs ms bl) (hb : b ≤ W.heap.size) (hN : NetAt W' p gb lv xs ms bl) (hk : Kept (· = gb) W W') : NetB b W' p gb lv xs ms bl ∧ Below b W W' :=
  ⟨⟨hN, h.p_, h.g_, h.l_⟩, hk.below hb (fun k e => e ▸ h.g_)⟩

set_option maxRecDepth 100000 in
set_option maxHeartbeats 8000000 in
theorem NetPartition_walk (a0 : Option Addr) (len0 cap0 : Nat) (z0 : List Int) (a1 a2 : Int) (w : World) (w0 : IsRow .i64 w a0 len0 cap0 z0) (y0 : len0 * 8 ≤ 140737488351232) (wf1 : (Lit.int .i64 a1).wf = true) (wf2 : (Lit.int .i64 a2).wf = true) :
    Calls Try.prog 7 #[.slice a0 len0 cap0, .int .i64 a1, .int .i64 a2] w fun e w' => e = .returned (.bool true) ∧ Below w.heap.size w w' := by
  obtain ⟨l, rfl, hlc, hC, -⟩ := row_in w0
  clear w0
  have km : ∀ W : World, (Instr.makeSlice 22 (.int .i64 6) (.int .i64 6)).run Try.prog W = .ok (.slice (some ⟨W.heap.size, 0, none⟩) 6 6) (W.alloc (.cells (madeCells #[.int .i64 0] 6) 3)) := print_make (P := Try.prog) 22 3 .i64 8 Try.underlying22 info_int (by omega) 6 (by omega)
  obtain ⟨ka, hka, hka6⟩ := around_name a1 6 (by omega)
  obtain ⟨kb, hkb, hkb6⟩ := around_name a2 6 (by omega)
  obtain ⟨r, hr, hr6, hrl, -⟩ := take_name l 6
  go_enter Try.func7, Try.ntmps7
  go_wp2_with fail
  refine (New_ok 6 w (by omega) (by omega)).mono ?_
  rintro e w1 ⟨p, gb, rfl, hN, hB, hp, hg⟩
  have hN1 : NetB w.heap.size w1 p gb (.slice none 0 0) [0, 0, 0, 0, 0, 0] [] [] := ⟨hN, hp, hg, fun k h => by cases h⟩
  clear hN hp hg
  go_wp2_with fail
  refine (Around_at a1 6 ka hka wf1 (by omega) (by omega) w1).mono ?_
  rintro e _ ⟨rfl, rfl⟩
  go_wp2_with fail
  refine (Around_at a2 6 kb hkb wf2 (by omega) (by omega) w1).mono ?_
  rintro e _ ⟨rfl, rfl⟩
  go_wp2_with fail
  have hB0 := (Below.refl w1.heap.size w1).alloc (Nat.le_refl _) (.cells #[.int .u8 9] 5)
  have hN0 := hN1.below hB0
  have hs : sendOk [0, 0, 0, 0, 0, 0] ⟨(ka : Int), (kb : Int), [9]⟩ = true := by simp [sendOk, atOk]; omega
  refine (Send_all p gb _ [0, 0, 0, 0, 0, 0] [] [] ⟨(ka : Int), (kb : Int), [9]⟩ _ 1 _ hN0.at_ (by decide) (by decide) (kd_const w1 9 (0, 0))).mono ?_
  rintro e w2 ⟨-, -, h⟩
  obtain ⟨lv, k0, rfl, hN2, hk2, hat2, hf2⟩ := h hs (by decide)
  obtain ⟨hN2', hB2⟩ := hN0.step (by have := hB.size; simp; omega) hN2 hk2 hat2
  have hB2' : Below w.heap.size w w2 := (hB.trans (hB0.mono hB.size)).trans hB2
  have hC2 := Kd.C_below hC hB2'
  clear h hN2 hk2 hat2 hN0 hB0 hB2 hN1 hB hs hC
  go_wp2_with fail
  refine (Ints_at a0 cap0 l 6 r hr (by omega) y0 w2 hC2 hlc).mono ?_
  rintro e w3 ⟨A', c', rfl, hrc, hR, hB3⟩
  have hN3 := hN2'.below hB3
  have hB3' := bthen hB2' hB3
  have hgw2 : gb < w2.heap.size := hN2'.at_.grp.lt
  have hCr := (Kd.R_reads' hR).2.2
  clear hC2 hN2' hB3
  by_cases h6 : r.length < 6
  · have h6i : (r.length : Int) < 6 := by omega
    go_wp2_with fail
    refine (Part_arg p gb _ _ _ _ A' r.length c' w3 hN3.at_ (by simp; omega)).mono ?_
    rintro e w4 ⟨rfl, hB4⟩
    have hN4 := hN3.below hB4
    have hB4' := bthen hB3' hB4
    have hgw4 : gb < w4.heap.size := hN4.at_.grp.lt
    clear hN3 hB3' hB4 hCr hR
    go_wp2_with fail
    obtain ⟨gs, hgs⟩ : ∃ gs : List Int, gs = [0, 0, 0, 0, 0, 0] := ⟨_, rfl⟩
    have hgl : gs.length = 6 := by rw [hgs]; rfl
    have hblk := Blk.new w4 3 #[.int .i64 0, .int .i64 0, .int .i64 0, .int .i64 0, .int .i64 0, .int .i64 0]
    have hCg : (Kd.int .i64).C (w4.alloc (.cells #[.int .i64 0, .int .i64 0, .int .i64 0, .int .i64 0, .int .i64 0, .int .i64 0] 3)) (some ⟨w4.heap.size, 0, none⟩) 6 gs := by
      have h := Blk.kd (k := .i64) (l := [0, 0, 0, 0, 0, 0]) hblk (by decide)
      rw [← hgs] at h
      rw [hgl] at h
      exact h
    have hB0 := (Below.refl w4.heap.size w4).alloc (Nat.le_refl _) (.cells #[.int .i64 0, .int .i64 0, .int .i64 0, .int .i64 0, .int .i64 0, .int .i64 0] 3)
    have hNW := hN4.below hB0
    have hBW := hB4'.trans (hB0.mono hB4'.size)
    have hgx : w.heap.size ≤ w4.heap.size := hB4'.size
    have hcur : ∃ cur, (w4.alloc (.cells #[.int .i64 0, .int .i64 0, .int .i64 0, .int .i64 0, .int .i64 0, .int .i64 0] 3)).heap[w4.heap.size]? = some (.cells cur 3 (0, 0)) ∧ 6 ≤ cur.size := ⟨_, hblk, by decide⟩
    generalize hx : w4.heap.size = gx at *
    generalize w4.alloc (.cells #[.int .i64 0, .int .i64 0, .int .i64 0, .int .i64 0, .int .i64 0, .int .i64 0] 3) = W at *
    obtain ⟨cur, hcur, hcs⟩ := hcur
    have hgne : gb ≠ gx := by omega
    clear hblk hB0 hN4 hB4' hgw4 hgw2 hx h6 h6i hr6 hrl
    have hM1 : NetB w.heap.size W p gb lv gs _ _ := hgs ▸ hNW
    have hgc := cells_of_kd hcur hCg
    have hE1' := hBW
    have hcur1 := hcur
    clear hNW hBW hCg hcur hgs
    generalize W = v1 at *
    have hgx1 : gx < v1.heap.size := (Array.getElem?_eq_some_iff.1 hcur1).1
    refine (Ints_n (some ⟨gx, 0, none⟩) 6 gs 6 hgl 6 gs 6 hgl (show _ = _ from List.take_of_length_le (by rw [hgl]; decide)) (by omega) (by omega) v1 (kd_of_cells hgl (by omega) hcur1 hgc) (by omega)).mono ?_
    rintro e v2 ⟨A2, c2, rfl, hc2, hR2, hE2⟩
    obtain ⟨ox, ocur, rfl, hox, hocur, -, -⟩ := row_of_R hR2 (by omega)
    have hoc := cells_of_kd hocur (Kd.R_reads' hR2).2.2
    have hcur2 := (hE2.block gx hgx1).trans hcur1
    have hM2 := hM1.below hE2
    have hE2' := bthen hE1' hE2
    clear hR2 hE2 hM1 hE1' hcur1 hgc
    go_wp2
    go_loopw [13] (fun v wr => ∃ (k : Nat) (cur' : Array Value), k ≤ 6 ∧ v = .int .i64 (k : Int) ∧ wr.heap[gx]? = some (.cells cur' 3 (0, 0)) ∧ 6 ≤ cur'.size ∧ Kept (· = gx) v2 wr) (fun v _ => 6 - (intOf v).toNat)
    case atStart => exact ⟨0, cur, by omega, rfl, hcur2, hcs, Kept.refl _ _⟩
    case round =>
      obtain ⟨k, cur', hk6, rfl, hc', hcs', hkp⟩ := hrel
      by_cases hlt : k < 6
      · have hlti : (k : Int) < 6 := by omega
        have hcl : wr.cell? ⟨gx, k, none⟩ = some (cur'[k]'(by omega)) := by rw [cell_of_row wr gx k cur' _ (0, 0) hc']; simp
        have hfz : wr.frozen? ⟨gx, k, none⟩ = false := frozen_of_row wr gx k cur' _ hc'
        go_wp2
        go_roundw
        case rel => exact ⟨k + 1, cur'.setIfInBounds k (.int .i64 (k : Int)), by omega, by go_num, blk_set hc' k _, by simpa using hcs', hkp.setCell (Or.inl rfl) _⟩
        case measure => simp [intOf]; omega
      · obtain rfl : k = 6 := by omega
        have hgb2 : Blk v2 gx 3 cur := hcur2
        have hM3 := hM2.kept hkp (hM2.at_.blk.ne_ hgb2 (by decide)) hgne (fun b hb e => own_blk_ne hM2.at_.row hgb2 (by decide) (e ▸ hb)) (fun b hb e => hM2.at_.bne hgb2 (by decide) b hb e)
        have hne : ox ≠ gx := by omega
        have hob3 : Blk wr ox 3 ocur := hkp.blk hocur hne
        have hE3 : Below w.heap.size w wr := hE2'.trans (hkp.below hE2'.size (fun k e => e ▸ hgx))
        have hkal : ka < gs.length := by omega
        have hkbl : kb < gs.length := by omega
        have hoa0 := hoc ka (by omega)
        have hob0 := hoc kb (by omega)
        rw [List.getElem?_eq_getElem hkal, Option.getD_some] at hoa0
        rw [List.getElem?_eq_getElem hkbl, Option.getD_some] at hob0
        clear hgb2 hM2 hocur hE2' hkp hc' hcs' hcur2 hoc hlt hk6
        by_cases heq : gs[ka] = gs[kb]
        · have hneb : (gs[ka] == gs[kb]) = true := beq_iff_eq.2 heq
          go_wp2_with fail
          refine (Take_ok p gb lv gs _ _ 0 ⟨(ka : Int), (kb : Int), [9]⟩ ka kb wr hM3.at_ (by simp) (by omega) rfl rfl rfl hkal hkbl heq).mono ?_
          rintro e v4 ⟨lv4, kk, hkk, rfl, hN4, hk4, hat4⟩
          clear heq
          obtain ⟨hM4, hE4⟩ := hM3.same hE3.size hN4 hk4 hat4
          have hM4' : NetB w.heap.size v4 p gb lv4 gs [] [] := hM4
          have hob4 : Blk v4 ox 3 ocur := hob3.kept hk4 (fun h => by rcases h with e | e; exact hM3.at_.blk.ne_ hob3 (by decide) e.symm; exact own_blk_ne hM3.at_.row hob3 (by decide) e.symm)
          have hca := (hob4.cell ka).trans hoa0
          have hcb := (hob4.cell kb).trans hob0
          have hE4' := hE3.trans hE4
          have hox4 := hob4.lt
          clear hN4 hk4 hat4 hE4 hM4 hM3 hob3 hE3 hkk hob4
          go_wp2
          repeat (go_quiet (fail); try go_wp2_with fail)
          rename Nat => nq
          have hB5 := pw_below_drewN ((Below.refl v4.heap.size v4).alloc (Nat.le_refl _) (.cells #[.int .i64 (ka : Int), .int .i64 (kb : Int), .slice (some ⟨kk, 0, none⟩) 1 1] 32)) nq
          refine (Len_calls p gb lv4 _ _ _ _ (hM4'.below hB5).at_).mono ?_
          rintro e v5 ⟨rfl, hB6⟩
          go_wp2_with fail
          refine (lives_calls _).mono ?_
          rintro e v6 ⟨rfl, hB7⟩
          have HB := Lib.hid (bthen (bthen (bthen hE4' hB5) hB6) hB7)
          clear hB5 hB6 hB7
          go_wp2
          go_ret
          exact ⟨rfl, HB.out⟩
        · have hneb : (gs[ka] == gs[kb]) = false := beq_eq_false_iff_ne.2 heq
          go_wp2_with fail
          refine (Take_state p gb lv gs _ _ 0 ⟨(ka : Int), (kb : Int), [9]⟩ ka kb wr hM3.at_ (by simp) (by omega) rfl rfl rfl hkal hkbl heq).mono ?_
          rintro e v4 ⟨rfl, hB4⟩
          clear heq
          have hM4 := hM3.below hB4
          have hob4 := hob3.below hB4 hob3.lt
          have hca := (hob4.cell ka).trans hoa0
          have hcb := (hob4.cell kb).trans hob0
          have hE4' := bthen hE3 hB4
          have hox4 := hob4.lt
          clear hB4 hM3 hob3 hE3 hob4
          go_wp2
          repeat (go_quiet (fail); try go_wp2_with fail)
          rename Nat => nq
          have hB5 := pw_below_drewN ((Below.refl v4.heap.size v4).alloc (Nat.le_refl _) (.cells #[.int .i64 0, .int .i64 0, .slice none 0 0] 32)) nq
          have hbx : Blk ((v4.alloc (.cells #[.int .i64 0, .int .i64 0, .slice none 0 0] 32)).drewN nq) v4.heap.size 32 #[.int .i64 0, .int .i64 0, .slice none 0 0] := (Blk.new v4 _ _).drewN nq
          have hlo : ∀ b, lv.ownBlock = some b → b ≠ v4.heap.size := fun b hb e => by have := own_lt hM4.at_.row b hb; omega
          have hxb : w.heap.size ≤ v4.heap.size := hE4'.size
          refine (Len_calls p gb lv _ _ _ _ (hM4.below hB5).at_).mono ?_
          rintro e v5 ⟨rfl, hB6⟩
          have hM6 := (hM4.below hB5).below hB6
          have hbx6 := hbx.below hB6 hbx.lt
          have hE6 := bthen (bthen hE4' hB5) hB6
          generalize v4.heap.size = bx at *
          clear hM4 hbx hB5 hB6 hE4' hca hcb
          go_wp2_with fail
          have hB7 := (Below.refl v5.heap.size v5).alloc (Nat.le_refl _) (.cells (madeCells #[.int .i64 0] 6) 3)
          have hrow7 : Blk (v5.alloc (.cells (madeCells #[.int .i64 0] 6) 3)) v5.heap.size 3 (nums .i64 [0, 0, 0, 0, 0, 0]).toArray := by
            have := Blk.new v5 3 (madeCells #[.int .i64 0] 6)
            rw [made_nums] at this
            rw [made_nums]
            exact this
          have hM7 := hM6.below hB7
          have hbx7 := hbx6.below hB7 hbx6.lt
          have hE7 := bthen hE6 hB7
          refine (Part_ok_n p gb lv gs [0, 0, 0, 0, 0, 0] _ _ _ 6 6 rfl _ hM7.at_ (by rw [hgl]; rfl) (hrow7.kd (by decide))).mono ?_
          rintro e v8 ⟨rfl, hN8, hk8⟩
          obtain ⟨hM8, hE8⟩ := hM7.part hE7.size hN8 hk8
          have hbx8 := hbx7.kept hk8 (fun e => hbx7.ne_ hM7.at_.grp (by decide) e)
          have hE8' := hE7.trans hE8
          clear hM6 hbx6 hE6 hB7 hrow7 hM7 hbx7 hE7 hN8 hk8 hE8
          go_wp2_with fail
          refine (Take_ok p gb lv [0, 0, 0, 0, 0, 0] _ _ 0 ⟨(ka : Int), (kb : Int), [9]⟩ ka kb v8 hM8.at_ (by simp) (by simp) rfl rfl rfl hka6 hkb6 (by have h : ∀ j (hj : j < 6), [(0 : Int), 0, 0, 0, 0, 0][j] = 0 := (by decide); rw [h ka hka6, h kb hkb6])).mono ?_
          rintro e v9 ⟨lv9, kk, hkk, rfl, hN9, hk9, hat9⟩
          have hbx9 := hbx8.kept hk9 (fun h => by rcases h with e | e; exact hM8.at_.blk.ne_ hbx8 (by decide) e.symm; exact hlo _ e.symm rfl)
          obtain ⟨hM9, hE9⟩ := hM8.same hE8'.size hN9 hk9 hat9
          have hM9' : NetB w.heap.size v9 p gb lv9 [0, 0, 0, 0, 0, 0] [] [] := hM9
          have hE9' := hE8'.trans hE9
          have c0 := hbx9.cell 0
          have c1 := hbx9.cell 1
          have c2 := hbx9.cell 2
          have f0 := hbx9.frozen 0
          have f1 := hbx9.frozen 1
          have f2 := hbx9.frozen 2
          have xlt := hbx9.lt
          simp only [List.getElem?_toArray, List.getElem?_cons_succ, List.getElem?_cons_zero] at c0 c1 c2
          have Hat9 := Lib.hid hat9
          clear hM8 hbx8 hE8' hN9 hk9 hat9 hM9 hE9 hkk
          go_wp2_with fail
          have hkx := Kept.three v9 bx (.int .i64 (ka : Int)) (.int .i64 (kb : Int)) (.slice (some ⟨kk, 0, none⟩) 1 1)
          have hM10 := hM9'.kept hkx (hM9'.at_.blk.ne_ hbx9 (by decide)) (hM9'.at_.grp.ne_ hbx9 (by decide)) (fun b hb e => hlo b (Hat9.out ▸ hb) e) (fun b hb e => by cases hb)
          have hE10 : Below w.heap.size w _ := hE9'.trans (hkx.below hE9'.size (fun k e => e ▸ hxb))
          refine (Len_calls p gb lv9 _ _ _ _ hM10.at_).mono ?_
          rintro e v11 ⟨rfl, hB11⟩
          go_wp2_with fail
          refine (lives_calls _).mono ?_
          rintro e v12 ⟨rfl, hB12⟩
          have HB := Lib.hid (bthen (bthen hE10 hB11) hB12)
          clear hB11 hB12 hE10
          go_wp2
          go_ret
          exact ⟨rfl, HB.out⟩
  · have h6i : ¬ (r.length : Int) < 6 := by omega
    have hgl : r.length = 6 := by omega
    obtain ⟨gx, cur, rfl, hgx2, hcur, hcc, hcs⟩ := row_of_R hR (by omega)
    have hgne : gb ≠ gx := by omega
    have hgx : w.heap.size ≤ gx := Nat.le_trans hB2'.size hgx2
    have hBW := hB3'
    have hNW := hN3
    go_wp2_with fail
    try simp only [hgl]
    rw [hgl] at hCr hcc
    have hCg := hCr
    have hcs : 6 ≤ cur.size := by omega
    clear hCr hN3 hB3' hR hgw2 h6 h6i hr6 hrl hr hB2'
    generalize w3 = W at *
    generalize r = gs at *
    refine (Part_ok_n p gb lv _ gs _ _ _ 6 c' hgl W hNW.at_ hgl hCg).mono ?_
    rintro e v1 ⟨rfl, hNv, hkv⟩
    obtain ⟨hM1, hE1⟩ := hNW.part hBW.size hNv hkv
    have hgc := cells_of_kd hcur hCg
    have hcur1 := hkv.blk hcur (fun e => hgne e.symm)
    have hE1' := hBW.trans hE1
    clear hNv hkv hNW hBW hE1 hCg hcur
    have hgx1 : gx < v1.heap.size := (Array.getElem?_eq_some_iff.1 hcur1).1
    go_wp2_with fail
    refine (Ints_n (some ⟨gx, 0, none⟩) c' gs 6 hgl 6 gs 6 hgl (show _ = _ from List.take_of_length_le (by rw [hgl]; decide)) (by omega) (by omega) v1 (kd_of_cells hgl (by omega) hcur1 hgc) (by omega)).mono ?_
    rintro e v2 ⟨A2, c2, rfl, hc2, hR2, hE2⟩
    obtain ⟨ox, ocur, rfl, hox, hocur, -, -⟩ := row_of_R hR2 (by omega)
    have hoc := cells_of_kd hocur (Kd.R_reads' hR2).2.2
    have hcur2 := (hE2.block gx hgx1).trans hcur1
    have hM2 := hM1.below hE2
    have hE2' := bthen hE1' hE2
    clear hR2 hE2 hM1 hE1' hcur1 hgc
    go_wp2
    go_loopw [13] (fun v wr => ∃ (k : Nat) (cur' : Array Value), k ≤ 6 ∧ v = .int .i64 (k : Int) ∧ wr.heap[gx]? = some (.cells cur' 3 (0, 0)) ∧ 6 ≤ cur'.size ∧ Kept (· = gx) v2 wr) (fun v _ => 6 - (intOf v).toNat)
    case atStart => exact ⟨0, cur, by omega, rfl, hcur2, hcs, Kept.refl _ _⟩
    case round =>
      obtain ⟨k, cur', hk6, rfl, hc', hcs', hkp⟩ := hrel
      by_cases hlt : k < 6
      · have hlti : (k : Int) < 6 := by omega
        have hcl : wr.cell? ⟨gx, k, none⟩ = some (cur'[k]'(by omega)) := by rw [cell_of_row wr gx k cur' _ (0, 0) hc']; simp
        have hfz : wr.frozen? ⟨gx, k, none⟩ = false := frozen_of_row wr gx k cur' _ hc'
        go_wp2
        go_roundw
        case rel => exact ⟨k + 1, cur'.setIfInBounds k (.int .i64 (k : Int)), by omega, by go_num, blk_set hc' k _, by simpa using hcs', hkp.setCell (Or.inl rfl) _⟩
        case measure => simp [intOf]; omega
      · obtain rfl : k = 6 := by omega
        have hgb2 : Blk v2 gx 3 cur := hcur2
        have hM3 := hM2.kept hkp (hM2.at_.blk.ne_ hgb2 (by decide)) hgne (fun b hb e => own_blk_ne hM2.at_.row hgb2 (by decide) (e ▸ hb)) (fun b hb e => hM2.at_.bne hgb2 (by decide) b hb e)
        have hne : ox ≠ gx := by omega
        have hob3 : Blk wr ox 3 ocur := hkp.blk hocur hne
        have hE3 : Below w.heap.size w wr := hE2'.trans (hkp.below hE2'.size (fun k e => e ▸ hgx))
        have hkal : ka < gs.length := by omega
        have hkbl : kb < gs.length := by omega
        have hoa0 := hoc ka (by omega)
        have hob0 := hoc kb (by omega)
        rw [List.getElem?_eq_getElem hkal, Option.getD_some] at hoa0
        rw [List.getElem?_eq_getElem hkbl, Option.getD_some] at hob0
        clear hgb2 hM2 hocur hE2' hkp hc' hcs' hcur2 hoc hlt hk6
        by_cases heq : gs[ka] = gs[kb]
        · have hneb : (gs[ka] == gs[kb]) = true := beq_iff_eq.2 heq
          go_wp2_with fail
          refine (Take_ok p gb lv gs _ _ 0 ⟨(ka : Int), (kb : Int), [9]⟩ ka kb wr hM3.at_ (by simp) (by omega) rfl rfl rfl hkal hkbl heq).mono ?_
          rintro e v4 ⟨lv4, kk, hkk, rfl, hN4, hk4, hat4⟩
          clear heq
          obtain ⟨hM4, hE4⟩ := hM3.same hE3.size hN4 hk4 hat4
          have hM4' : NetB w.heap.size v4 p gb lv4 gs [] [] := hM4
          have hob4 : Blk v4 ox 3 ocur := hob3.kept hk4 (fun h => by rcases h with e | e; exact hM3.at_.blk.ne_ hob3 (by decide) e.symm; exact own_blk_ne hM3.at_.row hob3 (by decide) e.symm)
          have hca := (hob4.cell ka).trans hoa0
          have hcb := (hob4.cell kb).trans hob0
          have hE4' := hE3.trans hE4
          have hox4 := hob4.lt
          clear hN4 hk4 hat4 hE4 hM4 hM3 hob3 hE3 hkk hob4
          go_wp2
          repeat (go_quiet (fail); try go_wp2_with fail)
          rename Nat => nq
          have hB5 := pw_below_drewN ((Below.refl v4.heap.size v4).alloc (Nat.le_refl _) (.cells #[.int .i64 (ka : Int), .int .i64 (kb : Int), .slice (some ⟨kk, 0, none⟩) 1 1] 32)) nq
          refine (Len_calls p gb lv4 _ _ _ _ (hM4'.below hB5).at_).mono ?_
          rintro e v5 ⟨rfl, hB6⟩
          go_wp2_with fail
          refine (lives_calls _).mono ?_
          rintro e v6 ⟨rfl, hB7⟩
          have HB := Lib.hid (bthen (bthen (bthen hE4' hB5) hB6) hB7)
          clear hB5 hB6 hB7
          go_wp2
          go_ret
          exact ⟨rfl, HB.out⟩
        · have hneb : (gs[ka] == gs[kb]) = false := beq_eq_false_iff_ne.2 heq
          go_wp2_with fail
          refine (Take_state p gb lv gs _ _ 0 ⟨(ka : Int), (kb : Int), [9]⟩ ka kb wr hM3.at_ (by simp) (by omega) rfl rfl rfl hkal hkbl heq).mono ?_
          rintro e v4 ⟨rfl, hB4⟩
          clear heq
          have hM4 := hM3.below hB4
          have hob4 := hob3.below hB4 hob3.lt
          have hca := (hob4.cell ka).trans hoa0
          have hcb := (hob4.cell kb).trans hob0
          have hE4' := bthen hE3 hB4
          have hox4 := hob4.lt
          clear hB4 hM3 hob3 hE3 hob4
          go_wp2
          repeat (go_quiet (fail); try go_wp2_with fail)
          rename Nat => nq
          have hB5 := pw_below_drewN ((Below.refl v4.heap.size v4).alloc (Nat.le_refl _) (.cells #[.int .i64 0, .int .i64 0, .slice none 0 0] 32)) nq
          have hbx : Blk ((v4.alloc (.cells #[.int .i64 0, .int .i64 0, .slice none 0 0] 32)).drewN nq) v4.heap.size 32 #[.int .i64 0, .int .i64 0, .slice none 0 0] := (Blk.new v4 _ _).drewN nq
          have hlo : ∀ b, lv.ownBlock = some b → b ≠ v4.heap.size := fun b hb e => by have := own_lt hM4.at_.row b hb; omega
          have hxb : w.heap.size ≤ v4.heap.size := hE4'.size
          refine (Len_calls p gb lv _ _ _ _ (hM4.below hB5).at_).mono ?_
          rintro e v5 ⟨rfl, hB6⟩
          have hM6 := (hM4.below hB5).below hB6
          have hbx6 := hbx.below hB6 hbx.lt
          have hE6 := bthen (bthen hE4' hB5) hB6
          generalize v4.heap.size = bx at *
          clear hM4 hbx hB5 hB6 hE4' hca hcb
          go_wp2_with fail
          have hB7 := (Below.refl v5.heap.size v5).alloc (Nat.le_refl _) (.cells (madeCells #[.int .i64 0] 6) 3)
          have hrow7 : Blk (v5.alloc (.cells (madeCells #[.int .i64 0] 6) 3)) v5.heap.size 3 (nums .i64 [0, 0, 0, 0, 0, 0]).toArray := by
            have := Blk.new v5 3 (madeCells #[.int .i64 0] 6)
            rw [made_nums] at this
            rw [made_nums]
            exact this
          have hM7 := hM6.below hB7
          have hbx7 := hbx6.below hB7 hbx6.lt
          have hE7 := bthen hE6 hB7
          refine (Part_ok_n p gb lv gs [0, 0, 0, 0, 0, 0] _ _ _ 6 6 rfl _ hM7.at_ (by rw [hgl]; rfl) (hrow7.kd (by decide))).mono ?_
          rintro e v8 ⟨rfl, hN8, hk8⟩
          obtain ⟨hM8, hE8⟩ := hM7.part hE7.size hN8 hk8
          have hbx8 := hbx7.kept hk8 (fun e => hbx7.ne_ hM7.at_.grp (by decide) e)
          have hE8' := hE7.trans hE8
          clear hM6 hbx6 hE6 hB7 hrow7 hM7 hbx7 hE7 hN8 hk8 hE8
          go_wp2_with fail
          refine (Take_ok p gb lv [0, 0, 0, 0, 0, 0] _ _ 0 ⟨(ka : Int), (kb : Int), [9]⟩ ka kb v8 hM8.at_ (by simp) (by simp) rfl rfl rfl hka6 hkb6 (by have h : ∀ j (hj : j < 6), [(0 : Int), 0, 0, 0, 0, 0][j] = 0 := (by decide); rw [h ka hka6, h kb hkb6])).mono ?_
          rintro e v9 ⟨lv9, kk, hkk, rfl, hN9, hk9, hat9⟩
          have hbx9 := hbx8.kept hk9 (fun h => by rcases h with e | e; exact hM8.at_.blk.ne_ hbx8 (by decide) e.symm; exact hlo _ e.symm rfl)
          obtain ⟨hM9, hE9⟩ := hM8.same hE8'.size hN9 hk9 hat9
          have hM9' : NetB w.heap.size v9 p gb lv9 [0, 0, 0, 0, 0, 0] [] [] := hM9
          have hE9' := hE8'.trans hE9
          have c0 := hbx9.cell 0
          have c1 := hbx9.cell 1
          have c2 := hbx9.cell 2
          have f0 := hbx9.frozen 0
          have f1 := hbx9.frozen 1
          have f2 := hbx9.frozen 2
          have xlt := hbx9.lt
          simp only [List.getElem?_toArray, List.getElem?_cons_succ, List.getElem?_cons_zero] at c0 c1 c2
          have Hat9 := Lib.hid hat9
          clear hM8 hbx8 hE8' hN9 hk9 hat9 hM9 hE9 hkk
          go_wp2_with fail
          have hkx := Kept.three v9 bx (.int .i64 (ka : Int)) (.int .i64 (kb : Int)) (.slice (some ⟨kk, 0, none⟩) 1 1)
          have hM10 := hM9'.kept hkx (hM9'.at_.blk.ne_ hbx9 (by decide)) (hM9'.at_.grp.ne_ hbx9 (by decide)) (fun b hb e => hlo b (Hat9.out ▸ hb) e) (fun b hb e => by cases hb)
          have hE10 : Below w.heap.size w _ := hE9'.trans (hkx.below hE9'.size (fun k e => e ▸ hxb))
          refine (Len_calls p gb lv9 _ _ _ _ hM10.at_).mono ?_
          rintro e v11 ⟨rfl, hB11⟩
          go_wp2_with fail
          refine (lives_calls _).mono ?_
          rintro e v12 ⟨rfl, hB12⟩
          have HB := Lib.hid (bthen (bthen hE10 hB11) hB12)
          clear hB11 hB12 hE10
          go_wp2
          go_ret
          exact ⟨rfl, HB.out⟩
end Go.Proofs.Ythoajajgbafngaa
