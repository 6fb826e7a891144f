/- The contracts of the methods of package net. -/
import Derived.Test.YthoajajgbafngaaODel
namespace Go.Proofs.Ythoajajgbafngaa.Old
set_option linter.unusedVariables false
set_option linter.unusedSimpArgs false
open Go.RowKit Go.Shelf Go.Proofs.YthoajajgbafngaaW.PrintWords Go.Proofs.YthoajajgbafngaaW.PrintLast Go.Proofs.YthoajajgbafngaaW.PrintMore

theorem msgCells_one : ∀ (ms : List Msg) (bl : List Nat), ∀ u ∈ msgCells ms bl, u.oneCell' = true
  | [], _, u, h => by simp [msgCells] at h
  | _ :: _, [], u, h => by simp [msgCells] at h
  | m :: ms, k :: bl, u, h => by
    simp only [msgCells, List.mem_cons] at h
    rcases h with rfl | rfl | rfl | h
    · rfl
    · rfl
    · rfl
    · exact msgCells_one ms bl u h
theorem msgCells_erase : ∀ (ms : List Msg) (bl : List Nat) (i : Nat), bl.length = ms.length → i < ms.length → msgCells (ms.eraseIdx i) (bl.eraseIdx i) = (msgCells ms bl).take (i * 3) ++ (msgCells ms bl).drop ((i + 1) * 3)
  | [], _, _, _, h => by simp at h
  | _ :: _, [], _, h, _ => by simp at h
  | m :: ms, k :: bl, 0, h, _ => by simp [msgCells]
  | m :: ms, k :: bl, i + 1, h, hi => by
    simp only [List.length_cons, Nat.add_right_cancel_iff] at h
    simp only [List.length_cons, Nat.add_lt_add_iff_right] at hi
    simp only [List.eraseIdx_cons_succ, msgCells, msgCells_erase ms bl i h hi]
    rw [show (i + 1) * 3 = i * 3 + 3 by omega, show (i + 1 + 1) * 3 = i * 3 + 3 + 3 by omega]
    simp
theorem getElem?_erase_of {α : Type} (l : List α) (i j : Nat) (h : j < i ∨ i ≤ j) : (l.eraseIdx i)[j]? = if j < i then l[j]? else l[j + 1]? := by
  rw [List.getElem?_eraseIdx]

theorem NetAt.blt {w : World} {p gb : Nat} {lv : Value} {gs : List Int} {ms : List Msg} {bl : List Nat} (hN : NetAt w p gb lv gs ms bl) : ∀ b ∈ bl, b < w.heap.size := fun b hb => by
  obtain ⟨i, hi, rfl⟩ := List.getElem_of_mem hb
  obtain ⟨m', hm'⟩ : ∃ m', ms[i]? = some m' := ⟨ms[i]'(by have := hN.len; omega), by simp⟩
  exact (hN.msg i m' _ hm' (by simp [hi])).lt

/-- What Delete and the store leave. -/
theorem del_close {w W w2 : World} {p gb : Nat} {lv v1 : Value} {gs : List Int} {ms : List Msg} {bl : List Nat} {i : Nat} (hN : NetAt w p gb lv gs ms bl) (hi : i < ms.length) (hB : Below w.heap.size w W)
    (hg : W.grownBy w2 lv.ownBlock) (hown : w2.ownsRow 0 32 3 v1 (ms.length - 1) ((msgCells ms bl).take (i * 3) ++ (msgCells ms bl).drop ((i + 1) * 3))) (hat : v1.ownBlock = lv.ownBlock) :
    NetAt (w2.setCell ⟨p, 1, none⟩ v1) p gb v1 gs (ms.eraseIdx i) (bl.eraseIdx i) ∧ Kept (netS p lv) w (w2.setCell ⟨p, 1, none⟩ v1) := by
  have hN1 := hN.below hB
  have e1 : ∀ {g t cs}, Blk W g t cs → t ≠ 32 → Blk w2 g t cs := fun h ht => (hg.block _ h.lt (fun e => own_blk_ne hN1.row h (fun e => ht e.symm) e.symm)).trans h
  have hp2 := e1 hN1.blk (by decide)
  have hg2 := e1 hN1.grp (by decide)
  have hgp : gb ≠ p := hN1.grp.ne_ hN1.blk (by decide)
  refine ⟨⟨hp2.set_ 1 v1, hg2.far hgp _, ?_, ?_, ?_, ?_⟩, ?_⟩
  · rw [msgCells_erase ms bl i hN.len hi, List.length_eraseIdx, if_pos hi]
    exact own_setCell hown (own_blk_ne hown hp2 (by decide)).symm _
  · rw [List.length_eraseIdx, List.length_eraseIdx, hN.len]
  · exact hN.nodup.sublist (List.eraseIdx_sublist _ _)
  · intro j m' k' hm hk'
    rw [List.getElem?_eraseIdx] at hm hk'
    have : Blk w2 k' 5 (nums .u8 m'.b).toArray := by
      split at hm
      · rw [if_pos (by assumption)] at hk'
        exact e1 (hN1.msg _ m' k' hm hk') (by decide)
      · rw [if_neg (by assumption)] at hk'
        exact e1 (hN1.msg _ m' k' hm hk') (by decide)
    exact this.far (this.ne_ hp2 (by decide)) _
  · exact Kept.setCell (S := netS p lv) (p := ⟨p, 1, none⟩) (Kept.grown (Kept.of_below hB (netS p lv)) hg (fun b hb => Or.inl (Or.inr hb.symm))) (Or.inl (Or.inl rfl)) v1

theorem net_cell {w W w2 : World} {p gb : Nat} {lv : Value} {gs : List Int} {ms : List Msg} {bl : List Nat} (hN : NetAt w p gb lv gs ms bl) (hB : Below w.heap.size w W) (hg : W.grownBy w2 lv.ownBlock) :
    w2.cell? ⟨p, 1, none⟩ = some lv ∧ w2.frozen? ⟨p, 1, none⟩ = false ∧ p < w2.heap.size := by
  have hN1 := hN.below hB
  have hp2 : Blk w2 p _ _ := (hg.block _ hN1.blk.lt (fun e => own_blk_ne hN1.row hN1.blk (by decide) e.symm)).trans hN1.blk
  exact ⟨hp2.cell 1, hp2.frozen 1, hp2.lt⟩

theorem size_drewN' (w : World) (n : Nat) : (w.drewN n).heap.size = w.heap.size := rfl
theorem Blk.drewN {w : World} {g : Nat} {t : TypeId} {cs : Array Value} (h : Blk w g t cs) (n : Nat) : Blk (w.drewN n) g t cs := h

/-! ### Drop -/
set_option maxRecDepth 100000 in
set_option maxHeartbeats 1000000 in
theorem Drop_none (p gb : Nat) (lv : Value) (gs : List Int) (ms : List Msg) (bl : List Nat) (i : Int) (w : World) (hN : NetAt w p gb lv gs ms bl) (hl2 : ms.length ≤ 1000000) (hi : i < 0 ∨ (ms.length : Int) ≤ i) :
    Calls Try.prog 19 #[.pointer (some ⟨p, 0, none⟩), .int .i64 i] w fun e w' => e = .returned (.int .i64 9) ∧ Below w.heap.size w w' := by
  have hrow := Lib.hid hN.row
  have hc := hN.blk.cell 1
  simp only [List.getElem?_toArray, List.getElem?_cons_succ, List.getElem?_cons_zero] at hc
  clear hN
  go_enter Try.func19, Try.ntmps19
  go_wp2_with fail
  refine (atMsg_no lv ms bl i w hrow.out hi hl2).mono ?_
  rintro e w1 ⟨rfl, hb1⟩
  go_wp2
  go_ret
  exact ⟨rfl, by repeat (first | exact hb1 | (refine Below.setCell ?_ hb1.size _) | (refine Below.alloc ?_ hb1.size _))⟩

set_option maxRecDepth 100000 in
set_option maxHeartbeats 1000000 in
theorem Drop_ok (p gb : Nat) (lv : Value) (gs : List Int) (ms : List Msg) (bl : List Nat) (i : Nat) (w : World) (hN : NetAt w p gb lv gs ms bl) (hl2 : ms.length ≤ 1000000) (hi : i < ms.length) :
    Calls Try.prog 19 #[.pointer (some ⟨p, 0, none⟩), .int .i64 (i : Int)] w fun e w' => ∃ lv', e = .returned (.int .i64 0) ∧ NetAt w' p gb lv' gs (ms.eraseIdx i) (bl.eraseIdx i) ∧ Kept (netS p lv) w w' ∧ lv'.ownBlock = lv.ownBlock := by
  have hrow := Lib.hid hN.row
  have hc := hN.blk.cell 1
  simp only [List.getElem?_toArray, List.getElem?_cons_succ, List.getElem?_cons_zero] at hc
  obtain ⟨m, hm⟩ : ∃ m, ms[i]? = some m := ⟨ms[i], by simp [hi]⟩
  obtain ⟨k, hk⟩ : ∃ k, bl[i]? = some k := ⟨bl[i]'(by rw [hN.len]; exact hi), by simp [hN.len, hi]⟩
  have HN := Lib.hid hN
  clear hN
  go_enter Try.func19, Try.ntmps19
  go_wp2_with fail
  refine (atMsg_yes lv ms bl i m k w hrow.out hm hk hl2).mono ?_
  rintro e w1 ⟨rfl, hb1⟩
  have hc1 : w1.cell? ⟨p, 1, none⟩ = some lv := pw_cell_below hb1 hc
  have hplt : p < w1.heap.size := (HN.out.below hb1).blk.lt
  go_wp2_with fail
  refine (Delete_calls lv ms.length i (i + 1) rfl (msgCells ms bl) _ (((HN.out.below hb1).row.alloc _) : _) hi hl2 (msgCells_one ms bl)).mono ?_
  rintro e w2 ⟨v', rfl, hown, hg, hat⟩
  obtain ⟨A1, cap1, rfl⟩ := own_slice hown
  have hB : Below w.heap.size w (w1.alloc (.cells #[.int .i64 m.frm, .int .i64 m.to_, .slice (some ⟨k, 0, none⟩) m.b.length m.b.length] 32)) := hb1.alloc hb1.size _
  have hclose := del_close HN.out hi hB hg hown hat
  have Hclose := Lib.hid hclose
  clear hclose
  obtain ⟨c9, f9, l9⟩ := net_cell HN.out hB hg
  clear hB hg hown hb1
  go_wp2
  go_ret
  exact ⟨_, rfl, Hclose.out.1, Hclose.out.2, hat⟩

/-! ### Take -/
set_option maxRecDepth 100000 in
set_option maxHeartbeats 1000000 in
theorem Take_none (p gb : Nat) (lv : Value) (gs : List Int) (ms : List Msg) (bl : List Nat) (i : Int) (w : World) (hN : NetAt w p gb lv gs ms bl) (hl2 : ms.length ≤ 1000000) (hi : i < 0 ∨ (ms.length : Int) ≤ i) :
    Calls Try.prog 14 #[.pointer (some ⟨p, 0, none⟩), .int .i64 i] w fun e w' => e = .returned (.tuple #[.agg #[.int .i64 0, .int .i64 0, .slice none 0 0], .int .i64 9]) ∧ Below w.heap.size w w' := by
  have hrow := Lib.hid hN.row
  have hc := (hN.blk.alloc (.cells #[.int .i64 0, .int .i64 0, .slice none 0 0] 32)).cell 1
  have hN1 := Lib.hid (hN.below ((Below.refl _ w).alloc (Nat.le_refl _) (.cells #[.int .i64 0, .int .i64 0, .slice none 0 0] 32)))
  simp only [List.getElem?_toArray, List.getElem?_cons_succ, List.getElem?_cons_zero] at hc
  clear hN
  go_enter Try.func14, Try.ntmps14
  go_wp2_with fail
  refine (atMsg_no lv ms bl i _ hN1.out.row hi hl2).mono ?_
  rintro e w1 ⟨rfl, hb1⟩
  have hbox := (Blk.new w 32 #[.int .i64 0, .int .i64 0, .slice none 0 0]).below hb1 (by simp)
  have hB1 : Below w.heap.size w w1 := ((Below.refl _ w).alloc (Nat.le_refl _) _).trans (hb1.mono (by simp))
  have hlt := hbox.lt
  have hsz := hB1.size
  have c0 := hbox.cell 0
  have c1 := hbox.cell 1
  have c2 := hbox.cell 2
  have f0 := hbox.frozen 0
  have f1 := hbox.frozen 1
  have f2 := hbox.frozen 2
  simp only [List.getElem?_toArray, List.getElem?_cons_succ, List.getElem?_cons_zero] at c0 c1 c2
  go_wp2
  have r := (((hbox.set_ 0 (.int .i64 0)).set_ 1 (.int .i64 0)).set_ 2 (.slice none 0 0)).alloc (.cells #[.int .i64 0, .int .i64 0, .slice none 0 0] 32)
  have r0 := r.cell 0
  have r1 := r.cell 1
  have r2 := r.cell 2
  exact bodyPost_ret (v := .tuple #[.agg #[.int .i64 0, .int .i64 0, .slice none 0 0], .int .i64 9]) (by simp [results, Try.results14, go_sem, r0, r1, r2]; trace_state) rfl
    ⟨rfl, by (repeat' (first | assumption | exact Below.refl _ _ | exact Nat.le_refl _ | (refine Below.setCell ?_ ?_ _) | (refine Below.alloc ?_ ?_ _) | (refine pw_below_drewN ?_ _) | (simp only [World.size_setCell, World.size_alloc, World.size_drew, size_drewN']; omega)))⟩

set_option maxRecDepth 100000 in
set_option maxHeartbeats 1000000 in
theorem Take_state (p gb : Nat) (lv : Value) (gs : List Int) (ms : List Msg) (bl : List Nat) (i : Nat) (m : Msg) (ka kb : Nat) (w : World) (hN : NetAt w p gb lv gs ms bl) (hl2 : ms.length ≤ 1000000) (hgl : gs.length ≤ 1000000) (hm : ms[i]? = some m) (ha : m.frm = ka) (hb : m.to_ = kb) (hka : ka < gs.length) (hkb : kb < gs.length) (hne : gs[ka] ≠ gs[kb]) :
    Calls Try.prog 14 #[.pointer (some ⟨p, 0, none⟩), .int .i64 (i : Int)] w fun e w' => e = .returned (.tuple #[.agg #[.int .i64 0, .int .i64 0, .slice none 0 0], .int .i64 20]) ∧ Below w.heap.size w w' := by
  have hc := (hN.blk.alloc (.cells #[.int .i64 0, .int .i64 0, .slice none 0 0] 32)).cell 1
  have hN1 := Lib.hid (hN.below ((Below.refl _ w).alloc (Nat.le_refl _) (.cells #[.int .i64 0, .int .i64 0, .slice none 0 0] 32)))
  simp only [List.getElem?_toArray, List.getElem?_cons_succ, List.getElem?_cons_zero] at hc
  have hi : i < ms.length := (List.getElem?_eq_some_iff.1 hm).1
  obtain ⟨k, hk⟩ : ∃ k, bl[i]? = some k := ⟨bl[i]'(by rw [hN.len]; exact hi), by simp [hN.len, hi]⟩
  have HN := Lib.hid hN
  clear hN
  have hneb : (gs[ka] == gs[kb]) = false := by simpa using hne
  clear hne
  go_enter Try.func14, Try.ntmps14
  go_wp2_with fail
  refine (atMsg_yes lv ms bl i m k _ hN1.out.row hm hk hl2).mono ?_
  rintro e w1 ⟨rfl, hb1⟩
  rw [ha, hb]
  have hbox := (Blk.new w 32 #[.int .i64 0, .int .i64 0, .slice none 0 0]).below hb1 (by simp)
  have hB1 : Below w.heap.size w w1 := ((Below.refl _ w).alloc (Nat.le_refl _) _).trans (hb1.mono (by simp))
  have hN2 := HN.out.below hB1
  have hlt := hbox.lt
  have hsz := hB1.size
  have c0 := hbox.cell 0
  have c1 := hbox.cell 1
  have c2 := hbox.cell 2
  have f0 := hbox.frozen 0
  have f1 := hbox.frozen 1
  have f2 := hbox.frozen 2
  have p0 := hN2.blk.cell 0
  have p1 := hN2.blk.cell 1
  have plt := hN2.blk.lt
  have glt := hN2.grp.lt
  have ga : w1.cell? ⟨gb, ka, none⟩ = some (.int .i64 gs[ka]) := by rw [hN2.grp.cell]; simp [nums, hka]
  have gb' : w1.cell? ⟨gb, kb, none⟩ = some (.int .i64 gs[kb]) := by rw [hN2.grp.cell]; simp [nums, hkb]
  simp only [List.getElem?_toArray, List.getElem?_cons_succ, List.getElem?_cons_zero] at c0 c1 c2 p0 p1
  clear hN2 hb1
  go_wp2
  repeat (go_quiet (fail); try go_wp2)
  rename_i nq _
  have r := (((((hbox.alloc (.cells #[.int .i64 ka, .int .i64 kb, .slice (some ⟨k, 0, none⟩) m.b.length m.b.length] 32)).drewN nq).set_ 0 (.int .i64 0)).set_ 1 (.int .i64 0)).set_ 2 (.slice none 0 0))
  have r0 := r.cell 0
  have r1 := r.cell 1
  have r2 := r.cell 2
  exact bodyPost_ret (v := .tuple #[.agg #[.int .i64 0, .int .i64 0, .slice none 0 0], .int .i64 20]) (by simp [results, Try.results14, go_sem, r0, r1, r2]) rfl
    ⟨rfl, by (repeat' (first | assumption | exact Below.refl _ _ | exact Nat.le_refl _ | (refine Below.setCell ?_ ?_ _) | (refine Below.alloc ?_ ?_ _) | (refine pw_below_drewN ?_ _) | (simp only [World.size_setCell, World.size_alloc, World.size_drew, size_drewN']; omega)))⟩
set_option maxRecDepth 100000 in
set_option maxHeartbeats 1000000 in
theorem Take_ok (p gb : Nat) (lv : Value) (gs : List Int) (ms : List Msg) (bl : List Nat) (i : Nat) (m : Msg) (ka kb : Nat) (w : World) (hN : NetAt w p gb lv gs ms bl) (hl2 : ms.length ≤ 1000000) (hgl : gs.length ≤ 1000000) (hm : ms[i]? = some m) (ha : m.frm = ka) (hb : m.to_ = kb) (hka : ka < gs.length) (hkb : kb < gs.length) (heq : gs[ka] = gs[kb]) :
    Calls Try.prog 14 #[.pointer (some ⟨p, 0, none⟩), .int .i64 (i : Int)] w fun e w' => ∃ lv' k, bl[i]? = some k ∧ e = .returned (.tuple #[.agg #[.int .i64 m.frm, .int .i64 m.to_, .slice (some ⟨k, 0, none⟩) m.b.length m.b.length], .int .i64 0]) ∧ NetAt w' p gb lv' gs (ms.eraseIdx i) (bl.eraseIdx i) ∧ Kept (netS p lv) w w' ∧ lv'.ownBlock = lv.ownBlock := by
  have hc := (hN.blk.alloc (.cells #[.int .i64 0, .int .i64 0, .slice none 0 0] 32)).cell 1
  have hN1 := Lib.hid (hN.below ((Below.refl _ w).alloc (Nat.le_refl _) (.cells #[.int .i64 0, .int .i64 0, .slice none 0 0] 32)))
  simp only [List.getElem?_toArray, List.getElem?_cons_succ, List.getElem?_cons_zero] at hc
  have hi : i < ms.length := (List.getElem?_eq_some_iff.1 hm).1
  obtain ⟨k, hk⟩ : ∃ k, bl[i]? = some k := ⟨bl[i]'(by rw [hN.len]; exact hi), by simp [hN.len, hi]⟩
  have HN := Lib.hid hN
  clear hN
  have hneb : (gs[ka] == gs[kb]) = true := by simpa using heq
  clear heq
  go_enter Try.func14, Try.ntmps14
  go_wp2_with fail
  refine (atMsg_yes lv ms bl i m k _ hN1.out.row hm hk hl2).mono ?_
  rintro e w1 ⟨rfl, hb1⟩
  rw [ha, hb]
  have hbox := (Blk.new w 32 #[.int .i64 0, .int .i64 0, .slice none 0 0]).below hb1 (by simp)
  have hB1 : Below w.heap.size w w1 := ((Below.refl _ w).alloc (Nat.le_refl _) _).trans (hb1.mono (by simp))
  have hN2 := HN.out.below hB1
  have hlt := hbox.lt
  have hsz := hB1.size
  have c0 := hbox.cell 0
  have c1 := hbox.cell 1
  have c2 := hbox.cell 2
  have f0 := hbox.frozen 0
  have f1 := hbox.frozen 1
  have f2 := hbox.frozen 2
  have p0 := hN2.blk.cell 0
  have p1 := hN2.blk.cell 1
  have plt := hN2.blk.lt
  have glt := hN2.grp.lt
  have ga : w1.cell? ⟨gb, ka, none⟩ = some (.int .i64 gs[ka]) := by rw [hN2.grp.cell]; simp [nums, hka]
  have gb' : w1.cell? ⟨gb, kb, none⟩ = some (.int .i64 gs[kb]) := by rw [hN2.grp.cell]; simp [nums, hkb]
  simp only [List.getElem?_toArray, List.getElem?_cons_succ, List.getElem?_cons_zero] at c0 c1 c2 p0 p1
  clear hN2 hb1
  go_wp2
  repeat (go_quiet (fail); try go_wp2_with fail)
  rename Nat => nq
  refine (Delete_calls lv ms.length i (i + 1) rfl (msgCells ms bl) _ (pw_own_drewN ((HN.out.below hB1).row.alloc _) _) hi hl2 (msgCells_one ms bl)).mono ?_
  rintro e w2 ⟨v', rfl, hown, hg, hat⟩
  obtain ⟨A1, cap1, rfl⟩ := own_slice hown
  have hB : Below w.heap.size w ((w1.alloc (.cells #[.int .i64 ka, .int .i64 kb, .slice (some ⟨k, 0, none⟩) m.b.length m.b.length] 32)).drewN nq) := pw_below_drewN (hB1.alloc hB1.size _) nq
  have hclose := del_close HN.out hi hB hg hown hat
  have Hclose := Lib.hid hclose
  clear hclose
  obtain ⟨c9, f9, l9⟩ := net_cell HN.out hB hg
  have hlo : ∀ x, lv.ownBlock = some x → x < w.heap.size := fun x hx => own_lt HN.out.row x hx
  have rb : Blk w2 w.heap.size 32 #[.int .i64 0, .int .i64 0, .slice none 0 0] := (hg.block _ (by rw [size_drewN', World.size_alloc]; omega) (fun e => by have := hlo _ e.symm; omega)).trans ((hbox.alloc _).drewN nq)
  have mb : Blk w2 w1.heap.size 32 #[.int .i64 ka, .int .i64 kb, .slice (some ⟨k, 0, none⟩) m.b.length m.b.length] := (hg.block _ (by rw [size_drewN', World.size_alloc]; omega) (fun e => by have := hlo _ e.symm; omega)).trans ((Blk.new w1 _ _).drewN nq)
  have m0 := mb.cell 0
  have m1 := mb.cell 1
  have m2 := mb.cell 2
  have s0 := rb.cell 0
  have s1 := rb.cell 1
  have s2 := rb.cell 2
  have g0 := rb.frozen 0
  have g1 := rb.frozen 1
  have g2 := rb.frozen 2
  simp only [List.getElem?_toArray, List.getElem?_cons_succ, List.getElem?_cons_zero] at m0 m1 m2 s0 s1 s2
  have Hat := Lib.hid hat
  have hne1 : p ≠ w.heap.size := fun e => by have := HN.out.blk.lt; omega
  have hne2 : p ≠ w1.heap.size := fun e => by have := HN.out.blk.lt; omega
  clear c0 c1 c2 f0 f1 f2 p0 p1 plt glt ga gb' hc hown hg hat hB1 hbox
  go_wp2
  have r := (((rb.far (p := ⟨p, 1, none⟩) (Ne.symm hne1) (.slice A1 (ms.length - 1) cap1)).set_ 0 (.int .i64 ka)).set_ 1 (.int .i64 kb)).set_ 2 (.slice (some ⟨k, 0, none⟩) m.b.length m.b.length)
  have r0 := r.cell 0
  have r1 := r.cell 1
  have r2 := r.cell 2
  obtain ⟨hn, hkp⟩ := Hclose.out
  have hk3 : ∀ {S : Nat → Prop}, S w.heap.size → Kept S (w2.setCell ⟨p, 1, none⟩ (.slice A1 (ms.length - 1) cap1)) ((((w2.setCell ⟨p, 1, none⟩ (.slice A1 (ms.length - 1) cap1)).setCell ⟨w.heap.size, 0, none⟩ (.int .i64 ka)).setCell ⟨w.heap.size, 1, none⟩ (.int .i64 kb)).setCell ⟨w.heap.size, 2, none⟩ (.slice (some ⟨k, 0, none⟩) m.b.length m.b.length)) := fun h => (((Kept.refl _ _).setCell (Or.inl h) _).setCell (Or.inl h) _).setCell (Or.inl h) _
  exact bodyPost_ret (v := .tuple #[.agg #[.int .i64 ka, .int .i64 kb, .slice (some ⟨k, 0, none⟩) m.b.length m.b.length], .int .i64 0]) (by simp [results, Try.results14, go_sem, r0, r1, r2]) rfl
    ⟨_, k, hk, by rw [ha, hb], hn.kept (hk3 (S := (· = w.heap.size)) rfl) hne1 (fun e => by have := HN.out.grp.lt; omega) (fun x hx e => by have := hlo x (Hat.out ▸ hx); omega) (fun x hx e => by have := HN.out.blt x (List.mem_of_mem_eraseIdx hx); omega), hkp.trans (hk3 (S := (· = w.heap.size)) rfl) (fun x hx => Or.inr (by omega)), Hat.out⟩

end Go.Proofs.Ythoajajgbafngaa.Old