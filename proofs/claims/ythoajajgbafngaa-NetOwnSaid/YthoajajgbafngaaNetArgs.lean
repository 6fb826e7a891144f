/- The law NetArguments. -/
import Derived.Test.YthoajajgbafngaaNetLives
namespace Go.Proofs.Ythoajajgbafngaa
set_option linter.unusedVariables false
set_option linter.unusedSimpArgs false
open Go.RowKit Go.Shelf Go.Proofs.YthoajajgbafngaaW.PrintWords Go.Proofs.YthoajajgbafngaaW.PrintLast Go.Proofs.YthoajajgbafngaaW.PrintMore

set_option maxRecDepth 100000 in
set_option maxHeartbeats 4000000 in
theorem NetArguments_none (nodes frm to_ : Int) (long : Bool) (i : Int) (w : World) (hn : nodes < 1 ∨ 16 < nodes) :
    Calls Try.prog 4 #[.int .i64 nodes, .int .i64 frm, .int .i64 to_, .bool long, .int .i64 i] w fun e w' => e = .returned (.bool true) ∧ Below w.heap.size w w' := by
  by_cases h1 : nodes < 1
  · go_enter Try.func4, Try.ntmps4
    go_wp2_with fail
    refine (New_arg nodes w hn).mono ?_
    rintro e w1 ⟨rfl, hB⟩
    go_wp2_with fail
    refine (lives_calls _).mono ?_
    rintro e w2 ⟨rfl, hB2⟩
    have HB := Lib.hid (bthen hB hB2)
    clear hB hB2
    go_wp2
    go_ret
    exact ⟨rfl, HB.out⟩
  · have h2 : 16 < nodes := by omega
    go_enter Try.func4, Try.ntmps4
    go_wp2_with fail
    refine (New_arg nodes w hn).mono ?_
    rintro e w1 ⟨rfl, hB⟩
    go_wp2_with fail
    refine (lives_calls _).mono ?_
    rintro e w2 ⟨rfl, hB2⟩
    have HB := Lib.hid (bthen hB hB2)
    clear hB hB2
    go_wp2
    go_ret
    exact ⟨rfl, HB.out⟩

set_option maxRecDepth 100000 in
set_option maxHeartbeats 4000000 in
theorem NetArguments_bad (nodes : Nat) (frm to_ : Int) (long : Bool) (i : Int) (w : World) (hn : 1 ≤ nodes) (hn2 : nodes ≤ 16) (hbad : frm < 0 ∨ (nodes : Int) ≤ frm ∨ to_ < 0 ∨ (nodes : Int) ≤ to_) :
    Calls Try.prog 4 #[.int .i64 (nodes : Int), .int .i64 frm, .int .i64 to_, .bool long, .int .i64 i] w fun e w' => e = .returned (.bool true) ∧ Below w.heap.size w w' := by
  have hs : Hid (sendOk (List.replicate nodes 0) ⟨frm, to_, [1]⟩ = false) := by
    show _ = _
    simp only [sendOk, atOk, List.length_replicate]
    rcases hbad with h | h | h | h <;> simp <;> omega
  have hi0 : ¬ (nodes : Int) < 1 := by omega
  have hi1 : ¬ (16 : Int) < (nodes : Int) := by omega
  go_enter Try.func4, Try.ntmps4
  go_wp2_with fail
  refine (New_ok nodes w hn hn2).mono ?_
  rintro e w1 ⟨p, gb, rfl, hN, hB, hp, hg⟩
  go_wp2_with fail
  have hB0 := ((Below.refl w1.heap.size w1).alloc (Nat.le_refl _) (.cells #[.int .u8 1] 5)).alloc (by simp) (.cells #[.int .i64 frm, .int .i64 to_, .slice (some ⟨w1.heap.size, 0, none⟩) 1 1] 32)
  have hN0 := hN.below hB0
  refine (Send_all p gb _ _ [] [] ⟨frm, to_, [1]⟩ _ 1 _ hN0 (by simp; omega) (by decide) (Kd.C_below (kd_const w1 1 (0, 0)) ((Below.refl _ _).alloc (Nat.le_refl _) _))).mono ?_
  rintro e w2 ⟨h, -, -⟩
  obtain ⟨rfl, hB2⟩ := h hs.out
  have hN2 := hN0.below hB2
  have hB2' := bthen (bthen hB hB0) hB2
  clear h hN0 hB2 hB0 hN hB
  by_cases h1 : frm < 0
  all_goals try by_cases h2 : (nodes : Int) ≤ frm
  all_goals try by_cases h3 : to_ < 0
  all_goals try have h4 : (nodes : Int) ≤ to_ := by omega
  all_goals
    go_wp2_with fail
    refine (Len_calls p gb _ _ _ _ w2 hN2).mono ?_
    rintro e w3 ⟨rfl, hB3⟩
    go_wp2_with fail
    refine (lives_calls _).mono ?_
    rintro e w4 ⟨rfl, hB4⟩
    have HB := Lib.hid (bthen (bthen hB2' hB3) hB4)
    clear hB3 hB4
    go_wp2
    go_ret
    exact ⟨rfl, HB.out⟩

theorem made_nums (k : IntKind) (n : Nat) : madeCells #[Value.int k 0] n = (nums k (List.replicate n 0)).toArray := by
  apply Array.toList_inj.1
  rw [toList_madeCells_one]
  simp [nums]
theorem NetAt.bne {w : World} {p gb : Nat} {lv : Value} {gs : List Int} {ms : List Msg} {bl : List Nat} (hN : NetAt w p gb lv gs ms bl) {x : Nat} {t : TypeId} {cs : Array Value} (hx : Blk w x t cs) (ht : 5 ≠ t) : ∀ b ∈ bl, b ≠ x := fun b hb => by
  obtain ⟨i, hi, rfl⟩ := List.getElem_of_mem hb
  obtain ⟨m', hm'⟩ : ∃ m', ms[i]? = some m' := ⟨ms[i]'(by have := hN.len; omega), by simp⟩
  exact (hN.msg i m' _ hm' (by simp [hi])).ne_ hx ht
theorem replicate_push {α : Type} (k : Nat) (m : α) : List.replicate k m ++ [m] = List.replicate (k + 1) m := by rw [List.replicate_succ']

set_option maxRecDepth 100000 in
set_option maxHeartbeats 8000000 in
theorem NetArguments_good (nodes : Nat) (frm to_ : Int) (long : Bool) (i : Int) (w : World) (hn : 1 ≤ nodes) (hn2 : nodes ≤ 16) (h1 : ¬ frm < 0) (h2 : ¬ (nodes : Int) ≤ frm) (h3 : ¬ to_ < 0) (h4 : ¬ (nodes : Int) ≤ to_) :
    Calls Try.prog 4 #[.int .i64 (nodes : Int), .int .i64 frm, .int .i64 to_, .bool long, .int .i64 i] w fun e w' => e = .returned (.bool true) ∧ Below w.heap.size w w' := by
  have hs : Hid (sendOk (List.replicate nodes 0) ⟨frm, to_, [1]⟩ = true) := by
    show _ = _
    simp only [sendOk, atOk, List.length_replicate]
    simp
    omega
  have hi0 : ¬ (nodes : Int) < 1 := by omega
  have hi1 : ¬ (16 : Int) < (nodes : Int) := by omega
  have km : ∀ W : World, (Instr.makeSlice 30 (.int .i64 65537) (.int .i64 65537)).run Try.prog W = .ok (.slice (some ⟨W.heap.size, 0, none⟩) 65537 65537) (W.alloc (.cells (madeCells #[.int .u8 0] 65537) 5)) := print_make (P := Try.prog) 30 5 .u8 1 Try.underlying30 info_u8 (by omega) 65537 (by omega)
  go_enter Try.func4, Try.ntmps4
  go_wp2_with fail
  refine (New_ok nodes w hn hn2).mono ?_
  rintro e w1 ⟨p, gb, rfl, hN, hB, hp, hg⟩
  have hN1 : NetB w.heap.size w1 p gb (.slice none 0 0) (List.replicate nodes 0) [] [] := ⟨hN, hp, hg, fun k h => by cases h⟩
  go_wp2_with fail
  have hbox := Blk.new (w1.alloc (.cells #[.int .u8 1] 5)) 32 #[.int .i64 frm, .int .i64 to_, .slice (some ⟨w1.heap.size, 0, none⟩) 1 1]
  rw [World.size_alloc] at hbox
  have hrow : Blk _ _ _ _ := (Blk.new w1 5 #[.int .u8 1]).alloc (.cells #[.int .i64 frm, .int .i64 to_, .slice (some ⟨w1.heap.size, 0, none⟩) 1 1] 32)
  have hB0 := ((Below.refl w1.heap.size w1).alloc (Nat.le_refl _) (.cells #[.int .u8 1] 5)).alloc (by simp) (.cells #[.int .i64 frm, .int .i64 to_, .slice (some ⟨w1.heap.size, 0, none⟩) 1 1] 32)
  have hN0 := hN1.below hB0
  refine (Send_all p gb _ _ [] [] ⟨frm, to_, [1]⟩ _ 1 _ hN0.at_ (by simp; omega) (by decide) (Kd.C_below (kd_const w1 1 (0, 0)) ((Below.refl _ _).alloc (Nat.le_refl _) _))).mono ?_
  rintro e w2 ⟨-, -, h⟩
  obtain ⟨lv2, k0, rfl, hN2, hk2, hat2, hf2⟩ := h hs.out (by decide)
  have hgt : p < w1.heap.size := hN.blk.lt
  have hbox2 := hbox.kept hk2 (fun h => by rcases h with e | e; omega; cases e)
  have hrow2 := hrow.kept hk2 (fun h => by rcases h with e | e; omega; cases e)
  have hne2 : lv2.ownBlock ≠ some (w1.heap.size + 1) := fun e => by
    rcases hat2 with h | ⟨b, h, hb⟩
    · rw [h] at e; cases e
    · rw [h] at e; cases e; simp at hb; omega
  obtain ⟨hN2', hB2⟩ := hN0.step (by have := hB.size; simp; omega) hN2 hk2 hat2
  have hB2' : Below w.heap.size w w2 := (hB.trans (hB0.mono hB.size)).trans hB2
  have hxw : w.heap.size ≤ w1.heap.size + 1 := by have := hB.size; omega
  generalize hx : w1.heap.size + 1 = x at *
  clear h hN2 hk2 hat2 hN0 hB0 hB2 hN1 hB hN hp hg hbox hrow hf2
  have b0 := hbox2.cell 0
  have b1 := hbox2.cell 1
  have b2 := hbox2.cell 2
  have f2 := hbox2.frozen 2
  have hxlt := hbox2.lt
  simp only [List.getElem?_toArray, List.getElem?_cons_succ, List.getElem?_cons_zero] at b0 b1 b2
  cases long
  · -- the calls
    clear km
    go_wp2
    go_loopw [15] (fun v wr => ∃ (k : Nat) (lv : Value) (bl : List Nat), 1 ≤ k ∧ k ≤ 1000 ∧ v = .int .i64 (k : Int) ∧ NetB w.heap.size wr p gb lv (List.replicate nodes 0) (List.replicate k ⟨frm, to_, [1]⟩) bl ∧ Blk wr x 32 #[.int .i64 frm, .int .i64 to_, .slice (some ⟨w1.heap.size, 0, none⟩) 1 1] ∧ Blk wr w1.heap.size 5 #[.int .u8 1] ∧ lv.ownBlock ≠ some x ∧ Below w.heap.size w wr) (fun v _ => 1000 - (intOf v).toNat)
    case atStart => exact ⟨1, lv2, [k0], by omega, by omega, rfl, hN2', hbox2, hrow2, hne2, hB2'⟩
    case round =>
      obtain ⟨k, lv, bl, hk1, hk2, rfl, hN, hbx, hrw, hne, hB⟩ := hrel
      by_cases hlt : k < 1000
      · have hlti : (k : Int) < 1000 := by omega
        go_wp2_with fail
        refine (Copy_ok p gb lv _ _ _ 0 ⟨frm, to_, [1]⟩ wr hN.at_ (by simpa using hlt) (by rw [List.getElem?_replicate, if_pos (by omega)]) (by simp)).mono ?_
        rintro e w4 ⟨lv4, k4, rfl, hN4, hk4, hat4, hf4⟩
        rw [replicate_push] at hN4
        have hbx4 := hbx.kept hk4 (fun h => by rcases h with e | e; exact hN.at_.blk.ne_ hbx (by decide) e.symm; exact hne e.symm)
        have hrw4 := hrw.kept hk4 (fun h => by rcases h with e | e; exact hN.at_.blk.ne_ hrw (by decide) e.symm; exact own_blk_ne hN.at_.row hrw (by decide) e.symm)
        have hne4 : lv4.ownBlock ≠ some x := fun e => by
          rcases hat4 with h | ⟨b, h, hb⟩
          · exact hne (h ▸ e)
          · rw [h] at e; cases e; have := hbx.lt; omega
        obtain ⟨hN4', hB4⟩ := hN.step hB.size hN4 hk4 hat4
        have hrel : Hid (NetB w.heap.size w4 p gb lv4 (List.replicate nodes 0) (List.replicate (k + 1) ⟨frm, to_, [1]⟩) (bl ++ [k4]) ∧ Blk w4 x 32 #[.int .i64 frm, .int .i64 to_, .slice (some ⟨w1.heap.size, 0, none⟩) 1 1] ∧ Blk w4 w1.heap.size 5 #[.int .u8 1] ∧ lv4.ownBlock ≠ some x ∧ Below w.heap.size w w4) := ⟨hN4', hbx4, hrw4, hne4, hB.trans hB4⟩
        clear hN4 hk4 hat4 hbx4 hrw4 hne4 hN4' hB4 hN hbx hrw hne hB
        go_wp2
        go_roundw
        case rel => exact ⟨k + 1, lv4, _, by omega, by omega, by go_num, hrel.out⟩
        case measure => simp [intOf]; omega
      · obtain rfl : k = 1000 := by omega
        obtain ⟨ms, hms⟩ : ∃ ms, ms = List.replicate 1000 (⟨frm, to_, [1]⟩ : Msg) := ⟨_, rfl⟩
        have hml : ms.length = 1000 := by rw [hms, List.length_replicate]
        rw [← hms] at hN
        clear hms
        have hmB : ((ms.length : Int) == 1000) = true := beq_iff_eq.2 (by omega)
        have hmB' : ((ms.length : Int) != 1000) = false := by rw [bne, hmB]; rfl
        have Hml := Lib.hid hml
        clear hml
        go_wp2_with fail
        refine (Len_calls p gb _ _ _ _ _ hN.at_).mono ?_
        rintro e w3 ⟨rfl, hB3⟩
        have hN3 := hN.below hB3
        have hbx3 := hbx.below hB3 hbx.lt
        have hrw3 := hrw.below hB3 hrw.lt
        have hB3' := bthen hB hB3
        clear hN hbx hrw hB hB3
        go_wp2_with fail
        refine (Copy_full p gb lv _ ms bl 0 w3 hN3.at_ (by have := Hml.out; omega) (by have := Hml.out; omega) (by have := Hml.out; omega)).mono ?_
        rintro e w4 ⟨rfl, hB4⟩
        have hN4 := hN3.below hB4
        have hbx4 := hbx3.below hB4 hbx3.lt
        have hrw4 := hrw3.below hB4 hrw3.lt
        have hB4' := bthen hB3' hB4
        clear hN3 hbx3 hrw3 hB3' hB4
        have c0 := hbx4.cell 0
        have c1 := hbx4.cell 1
        have c2 := hbx4.cell 2
        have xlt := hbx4.lt
        simp only [List.getElem?_toArray, List.getElem?_cons_succ, List.getElem?_cons_zero] at c0 c1 c2
        go_wp2_with fail
        refine (Send_all p gb lv _ ms bl ⟨frm, to_, [1]⟩ _ 1 w4 hN4.at_ (by simp; omega) (by have := Hml.out; omega) (hrw4.kd (k := .u8) (l := [1]) (by decide))).mono ?_
        rintro e w5 ⟨-, h, -⟩
        obtain ⟨rfl, hB5⟩ := h hs.out (by have := Hml.out; omega)
        have hN5 := hN4.below hB5
        have hbx5 := hbx4.below hB5 hbx4.lt
        have hrw5 := hrw4.below hB5 hrw4.lt
        have hB5' := bthen hB4' hB5
        clear hN4 hbx4 hrw4 hB4' hB5 h c0 c1 c2 xlt
        by_cases hin : i < 0 ∨ 1000 ≤ i
        · go_wp2_with fail
          refine (Drop_none p gb lv _ ms bl i w5 hN5.at_ (by have := Hml.out; omega) (by have := Hml.out; omega)).mono ?_
          rintro e w6 ⟨rfl, hB6⟩
          have hN6 := hN5.below hB6
          have hB6' := bthen hB5' hB6
          clear hN5 hbx5 hrw5 hB5' hB6
          by_cases hi2 : i < 0
          all_goals try have hi3 : 1000 ≤ i := by omega
          all_goals
            go_wp2_with fail
            refine (Len_calls p gb _ _ _ _ _ hN6.at_).mono ?_
            rintro e w7 ⟨rfl, hB7⟩
            go_wp2_with fail
            refine (lives_calls _).mono ?_
            rintro e w8 ⟨rfl, hB8⟩
            have HB := Lib.hid (bthen (bthen hB6' hB7) hB8)
            clear hB7 hB8
            go_wp2
            go_ret
            exact ⟨rfl, HB.out⟩
        · have hi2 : ¬ i < 0 := by omega
          have hi3 : ¬ 1000 ≤ i := by omega
          clear hin
          obtain ⟨j, rfl⟩ := Int.eq_ofNat_of_zero_le (show 0 ≤ i by omega)
          have hj : j < 1000 := by omega
          go_wp2_with fail
          refine (Drop_ok p gb lv _ ms bl j w5 hN5.at_ (by have := Hml.out; omega) (by have := Hml.out; omega)).mono ?_
          rintro e w6 ⟨lv6, rfl, hN6, hk6, hat6⟩
          have hbx6 := hbx5.kept hk6 (fun h => by rcases h with e | e; exact hN5.at_.blk.ne_ hbx5 (by decide) e.symm; exact hne e.symm)
          have hrw6 := hrw5.kept hk6 (fun h => by rcases h with e | e; exact hN5.at_.blk.ne_ hrw5 (by decide) e.symm; exact own_blk_ne hN5.at_.row hrw5 (by decide) e.symm)
          obtain ⟨hN6', hB6⟩ := hN5.same hB5'.size hN6 hk6 hat6
          have hB6' := hB5'.trans hB6
          have hel : Hid ((ms.eraseIdx j).length = 999) := by show _ = _; rw [List.length_eraseIdx, if_pos (by have := Hml.out; omega), Hml.out]
          generalize ms.eraseIdx j = ms6 at *
          generalize bl.eraseIdx j = bl6 at *
          have c0 := hbx6.cell 0
          have c1 := hbx6.cell 1
          have c2 := hbx6.cell 2
          have xlt := hbx6.lt
          simp only [List.getElem?_toArray, List.getElem?_cons_succ, List.getElem?_cons_zero] at c0 c1 c2
          clear hN5 hbx5 hrw5 hB5' hB6 hN6 hk6 hat6 hmB hmB'
          go_wp2_with fail
          refine (Send_all p gb lv6 _ ms6 bl6 ⟨frm, to_, [1]⟩ _ 1 w6 hN6'.at_ (by simp; omega) (by have := hel.out; omega) (hrw6.kd (k := .u8) (l := [1]) (by decide))).mono ?_
          rintro e w7 ⟨-, -, h⟩
          obtain ⟨lv7, k7, rfl, hN7, hk7, hat7, hf7⟩ := h hs.out (by have := hel.out; omega)
          obtain ⟨hN7', hB7⟩ := hN6'.step hB6'.size hN7 hk7 hat7
          have hB7' := hB6'.trans hB7
          have hmB : (((ms6 ++ [(⟨frm, to_, [1]⟩ : Msg)]).length : Int) == 1000) = true := beq_iff_eq.2 (by have := hel.out; rw [List.length_append, List.length_singleton, this]; rfl)
          generalize ms6 ++ [(⟨frm, to_, [1]⟩ : Msg)] = ms7 at *
          clear h hN7 hk7 hat7 hB7 hN6' hB6' c0 c1 c2 xlt
          go_wp2_with fail
          refine (Len_calls p gb _ _ _ _ _ hN7'.at_).mono ?_
          rintro e w8 ⟨rfl, hB8⟩
          go_wp2_with fail
          refine (lives_calls _).mono ?_
          rintro e w9 ⟨rfl, hB9⟩
          have HB := Lib.hid (bthen (bthen hB7' hB8) hB9)
          clear hB8 hB9
          go_wp2
          go_ret
          exact ⟨rfl, HB.out⟩
  · go_wp2_with fail
    have hmade := made_nums .u8 65537
    obtain ⟨z, hz⟩ : ∃ z : List Int, z = List.replicate 65537 0 := ⟨_, rfl⟩
    have hzl : z.length = 65537 := by rw [hz, List.length_replicate]
    rw [← hz] at hmade
    generalize hS : w2.setCell ⟨x, 2, none⟩ (.slice (some ⟨w2.heap.size, 0, none⟩) 65537 65537) = S2
    have hS2 : S2.heap.size = w2.heap.size := by rw [← hS]; simp
    have hzb := Blk.new S2 5 (nums .u8 z).toArray
    rw [← hmade, hS2] at hzb
    rw [hmade] at hzb
    have hC := hzb.kd (by rw [hzl]; decide)
    rw [← hmade] at hC
    have hxp : p ≠ x := hN2'.at_.blk.ne_ hbox2 (by decide)
    have hxg : gb ≠ x := hN2'.at_.grp.ne_ hbox2 (by decide)
    have hN3 := ((hN2'.kept (S := (· = x)) (hS ▸ Kept.setCell (S := (· = x)) (p := ⟨x, 2, none⟩) (Kept.refl _ _) (Or.inl rfl) (.slice (some ⟨w2.heap.size, 0, none⟩) 65537 65537)) hxp hxg (fun k hk e => hne2 (e ▸ hk)) (fun k hk e => hN2'.at_.bne hbox2 (by decide) k hk e))).below ((Below.refl _ S2).alloc (Nat.le_refl _) (.cells (madeCells #[.int .u8 0] 65537) 5))
    have hBS : Below w.heap.size w S2 := hS ▸ (hB2'.setCell (p := ⟨x, 2, none⟩) hxw (.slice (some ⟨w2.heap.size, 0, none⟩) 65537 65537))
    have hs2 : sendOk (List.replicate nodes 0) ⟨frm, to_, z⟩ = false := by
      simp [sendOk, hzl]
    rw [← hzl] at *
    refine (Send_all p gb _ _ _ _ ⟨frm, to_, z⟩ _ z.length _ hN3.at_ (by simp; omega) (by simp) hC).mono ?_
    rintro e w3 ⟨h, -, -⟩
    obtain ⟨rfl, hB3⟩ := h hs2
    have hN4 := hN3.below hB3
    have hB4 : Below w.heap.size w w3 := (hBS.alloc hBS.size _).trans (hB3.mono (by have := hBS.size; simp; omega))
    have Hzl := Lib.hid hzl
    clear h hN3 hB3 hC hzb hmade hz hs2 km hzl hBS hS
    go_wp2_with fail
    refine (Len_calls p gb _ _ _ _ _ hN4.at_).mono ?_
    rintro e w5 ⟨rfl, hB5⟩
    go_wp2_with fail
    refine (lives_calls _).mono ?_
    rintro e w6 ⟨rfl, hB6⟩
    have HB := Lib.hid (bthen (bthen hB4 hB5) hB6)
    clear hB4 hB5 hB6
    go_wp2
    go_ret
    exact ⟨rfl, HB.out⟩

theorem NetArguments_walk (a0 a1 a2 : Int) (a3 : Bool) (a4 : Int) (w : World) (w0 : (Lit.int .i64 a0).wf = true) (w1 : (Lit.int .i64 a1).wf = true) (w2 : (Lit.int .i64 a2).wf = true) (w4 : (Lit.int .i64 a4).wf = true) :
    Calls Try.prog 4 #[.int .i64 a0, .int .i64 a1, .int .i64 a2, .bool a3, .int .i64 a4] w fun e w' => e = .returned (.bool true) ∧ Below w.heap.size w w' := by
  by_cases hn : a0 < 1 ∨ 16 < a0
  · exact NetArguments_none a0 a1 a2 a3 a4 w hn
  · obtain ⟨n, rfl⟩ := Int.eq_ofNat_of_zero_le (show 0 ≤ a0 by omega)
    by_cases hbad : a1 < 0 ∨ (n : Int) ≤ a1 ∨ a2 < 0 ∨ (n : Int) ≤ a2
    · exact NetArguments_bad n a1 a2 a3 a4 w (by omega) (by omega) hbad
    · exact NetArguments_good n a1 a2 a3 a4 w (by omega) (by omega) (by omega) (by omega) (by omega) (by omega)
end Go.Proofs.Ythoajajgbafngaa
