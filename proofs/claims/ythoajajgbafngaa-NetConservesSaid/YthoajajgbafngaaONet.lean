/- The contracts of package net's functions: a network is two rows and the messages' own bytes behind a pointer; each method does to them what the plain functions say. -/
import Derived.Test.YthoajajgbafngaaOBase
import Derived.Laws.CopyOwn
import Derived.StillTailTactics
import Derived.Deep.RegionLaw
namespace Go.Proofs.Ythoajajgbafngaa.Old
set_option linter.unusedVariables false
set_option linter.unusedSimpArgs false
open Go.RowKit Go.Shelf Go.Proofs.YthoajajgbafngaaW.PrintWords Go.Proofs.YthoajajgbafngaaW.PrintLast Go.Proofs.YthoajajgbafngaaW.PrintMore

/-- A message. -/
structure Msg where
  frm : Int
  to_ : Int
  b : List Int

/-- The cells of a row of messages; message i's bytes lie in block number i of bl. -/
def msgCells : List Msg → List Nat → List Value
  | m :: ms, k :: bl => .int .i64 m.frm :: .int .i64 m.to_ :: .slice (some ⟨k, 0, none⟩) m.b.length m.b.length :: msgCells ms bl
  | _, _ => []
theorem msgCells_length : ∀ (ms : List Msg) (bl : List Nat), bl.length = ms.length → (msgCells ms bl).length = ms.length * 3
  | [], _, _ => by simp [msgCells]
  | _ :: _, [], h => by simp at h
  | m :: ms, k :: bl, h => by simp only [msgCells, List.length_cons, msgCells_length ms bl (by simpa using h)]; omega
theorem msgCells_append : ∀ (ms ms' : List Msg) (bl bl' : List Nat), bl.length = ms.length → msgCells (ms ++ ms') (bl ++ bl') = msgCells ms bl ++ msgCells ms' bl'
  | [], _, [], _, _ => by simp [msgCells]
  | [], _, _ :: _, _, h => by simp at h
  | _ :: _, _, [], _, h => by simp at h
  | m :: ms, ms', k :: bl, bl', h => by simp only [List.cons_append, msgCells, msgCells_append ms ms' bl bl' (by simpa using h)]
theorem msgCells_get : ∀ (ms : List Msg) (bl : List Nat) (i : Nat) (m : Msg) (k : Nat), ms[i]? = some m → bl[i]? = some k →
    (msgCells ms bl)[i * 3]? = some (.int .i64 m.frm) ∧ (msgCells ms bl)[i * 3 + 1]? = some (.int .i64 m.to_) ∧ (msgCells ms bl)[i * 3 + 2]? = some (.slice (some ⟨k, 0, none⟩) m.b.length m.b.length)
  | [], _, _, _, _, h, _ => by simp at h
  | _ :: _, [], _, _, _, _, h => by simp at h
  | a :: ms, c :: bl, 0, m, k, h, h' => by
    simp at h h'
    subst h h'
    simp [msgCells]
  | a :: ms, c :: bl, i + 1, m, k, h, h' => by
    have := msgCells_get ms bl i m k (by simpa using h) (by simpa using h')
    rw [show (i + 1) * 3 = i * 3 + 3 from by omega]
    simpa [msgCells] using this

/-- A network behind the pointer p: the groups' row gb, the messages' row lv, the messages' own bytes in the blocks bl. -/
structure NetAt (W : World) (p gb : Nat) (lv : Value) (gs : List Int) (ms : List Msg) (bl : List Nat) : Prop where
  blk : Blk W p 63 #[.slice (some ⟨gb, 0, none⟩) gs.length gs.length, lv]
  grp : Blk W gb 3 (nums .i64 gs).toArray
  row : W.ownsRow 0 32 3 lv ms.length (msgCells ms bl)
  len : bl.length = ms.length
  nodup : bl.Nodup
  msg : ∀ (i : Nat) (m : Msg) (k : Nat), ms[i]? = some m → bl[i]? = some k → Blk W k 5 (nums .u8 m.b).toArray

/-- What a method may write. -/
def netS (p : Nat) (lv : Value) (k : Nat) : Prop := k = p ∨ some k = lv.ownBlock

theorem NetAt.kept {S : Nat → Prop} {W W' : World} {p gb : Nat} {lv : Value} {gs : List Int} {ms : List Msg} {bl : List Nat} (h : NetAt W p gb lv gs ms bl) (hk : Kept S W W') (hp : ¬ S p) (hg : ¬ S gb) (hl : ∀ k, lv.ownBlock = some k → ¬ S k) (hb : ∀ k ∈ bl, ¬ S k) : NetAt W' p gb lv gs ms bl :=
  ⟨h.blk.kept hk hp, h.grp.kept hk hg, hk.own h.row hl, h.len, h.nodup, fun i m k hm hk' => (h.msg i m k hm hk').kept hk (hb k (List.mem_of_getElem? hk'))⟩
theorem NetAt.below {W W' : World} {p gb : Nat} {lv : Value} {gs : List Int} {ms : List Msg} {bl : List Nat} (h : NetAt W p gb lv gs ms bl) (hb : Below W.heap.size W W') : NetAt W' p gb lv gs ms bl :=
  h.kept (Kept.of_below hb (fun _ => False)) (fun h => h) (fun h => h) (fun _ _ h => h) (fun _ _ h => h)

theorem info_msg : (Try.prog.info? 32).map (fun i => (i.zero, i.size, i.bytes)) = some (some (.agg #[.int .i64 0, .int .i64 0, .slice none 0 0]), 3, 40) := by kernel_rfl

theorem kd_cells {k : IntKind} {w : World} {A : Option Addr} {l : List Int} (h : (Kd.int k).C w A l.length l) (h0 : 0 < l.length) : ∃ ad, A = some ad ∧ ∀ j v, (nums k l)[j]? = some v → w.cell? (ad.add j) = some v := by
  obtain ⟨ad, e0, _⟩ := at_nat h h0
  subst e0
  refine ⟨ad, rfl, fun j v hj => ?_⟩
  have hjl : j < l.length := by
    have := (List.getElem?_eq_some_iff.1 hj).1
    simpa [nums] using this
  obtain ⟨ad', e1, hc⟩ := at_nat h hjl
  cases e1
  rw [hc]
  simp [nums, hjl] at hj
  simp [hjl, hj]

theorem nums_oneCell (k : IntKind) (l : List Int) : ∀ u ∈ nums k l, u.oneCell' = true := ints_oneCell k l
/-- What 'make' and 'copy' leave: the new block holds the bytes. -/
theorem splice_all {α : Type} (L cs : List α) (h : cs.length = L.length) : splice L 0 cs = cs := by
  simp [splice, h]

/-! ### at -/
def atX (gs : List Int) (i : Int) : Int := if 0 ≤ i ∧ i < (gs.length : Int) then gs[i.toNat]?.getD 0 else 0
def atOk (gs : List Int) (i : Int) : Bool := decide (0 ≤ i ∧ i < (gs.length : Int))
set_option maxRecDepth 100000 in
set_option maxHeartbeats 1000000 in
theorem atInt_calls (gb : Nat) (gs : List Int) (i : Int) (w : World) (hb : Blk w gb 3 (nums .i64 gs).toArray) (hl : gs.length ≤ 1000000) :
    Calls Try.prog 30 #[.slice (some ⟨gb, 0, none⟩) gs.length gs.length, .int .i64 i] w fun e w' => e = .returned (.tuple #[.int .i64 (atX gs i), .bool (atOk gs i)]) ∧ Below w.heap.size w w' := by
  by_cases h0 : i < 0
  · have hd : atOk gs i = false := decide_eq_false (by omega)
    have hx : atX gs i = 0 := if_neg (by omega)
    rw [hd, hx]
    clear hd hx
    go_enter Try.func30, Try.ntmps30
    go_wp2
    go_ret2
    exact ⟨rfl, Below.refl _ _⟩
  · by_cases h1 : i < (gs.length : Int)
    · have hd : atOk gs i = true := decide_eq_true (by omega)
      have hx : atX gs i = gs[i.toNat]?.getD 0 := if_pos (by omega)
      rw [hd, hx]
      clear hd hx
      obtain ⟨k, rfl⟩ := Int.eq_ofNat_of_zero_le (show 0 ≤ i by omega)
      have hk : k < gs.length := by omega
      have hcell : w.cell? ⟨gb, k, none⟩ = some (.int .i64 (gs[(k : Int).toNat]?.getD 0)) := by
        rw [hb.cell]
        simp [nums, hk]
      go_enter Try.func30, Try.ntmps30
      go_wp2
      go_ret2
      exact ⟨by simp, Below.refl _ _⟩
    · have hd : atOk gs i = false := decide_eq_false (by omega)
      have hx : atX gs i = 0 := if_neg (by omega)
      rw [hd, hx]
      clear hd hx
      go_enter Try.func30, Try.ntmps30
      go_wp2
      go_ret2
      exact ⟨rfl, Below.refl _ _⟩

set_option maxRecDepth 100000 in
set_option maxHeartbeats 1000000 in
theorem atMsg_yes (lv : Value) (ms : List Msg) (bl : List Nat) (i : Nat) (m : Msg) (k : Nat) (w : World) (hrow : w.ownsRow 0 32 3 lv ms.length (msgCells ms bl)) (hm : ms[i]? = some m) (hk : bl[i]? = some k) (hl : ms.length ≤ 1000000) :
    Calls Try.prog 32 #[lv, .int .i64 (i : Int)] w fun e w' => e = .returned (.tuple #[.agg #[.int .i64 m.frm, .int .i64 m.to_, .slice (some ⟨k, 0, none⟩) m.b.length m.b.length], .bool true]) ∧ Below w.heap.size w w' := by
  have hi : i < ms.length := (List.getElem?_eq_some_iff.1 hm).1
  obtain ⟨g, cap, hv, _, hg⟩ := hrow.form (by omega)
  subst hv
  obtain ⟨c0, c1, c2⟩ := msgCells_get ms bl i m k hm hk
  have h0 := (hrow.cellAt (i * 3) (by omega)).trans c0
  have h1 := (hrow.cellAt (i * 3 + 1) (by omega)).trans c1
  have h2 := (hrow.cellAt (i * 3 + 2) (by omega)).trans c2
  clear c0 c1 c2 hm hk hrow
  go_enter Try.func32, Try.ntmps32
  go_wp2
  exact bodyPost_ret (v := .tuple #[.agg #[.int .i64 m.frm, .int .i64 m.to_, .slice (some ⟨k, 0, none⟩) m.b.length m.b.length], .bool true]) (by simp [results, Try.results32, go_sem]) rfl
    ⟨rfl, by repeat (first | exact Below.refl _ _ | (refine Below.setCell ?_ (Nat.le_refl _) _) | (refine Below.alloc ?_ (Nat.le_refl _) _))⟩

set_option maxRecDepth 100000 in
set_option maxHeartbeats 1000000 in
theorem atMsg_no (lv : Value) (ms : List Msg) (bl : List Nat) (i : Int) (w : World) (hrow : w.ownsRow 0 32 3 lv ms.length (msgCells ms bl)) (hi : i < 0 ∨ (ms.length : Int) ≤ i) (hl : ms.length ≤ 1000000) :
    Calls Try.prog 32 #[lv, .int .i64 i] w fun e w' => e = .returned (.tuple #[.agg #[.int .i64 0, .int .i64 0, .slice none 0 0], .bool false]) ∧ Below w.heap.size w w' := by
  obtain ⟨A, cap, hv⟩ := own_slice hrow
  subst hv
  clear hrow
  rcases hi with hi | hi
  · go_enter Try.func32, Try.ntmps32
    go_wp2
    exact bodyPost_ret (v := .tuple #[.agg #[.int .i64 0, .int .i64 0, .slice none 0 0], .bool false]) (by simp [results, Try.results32, go_sem]) rfl
      ⟨rfl, by repeat (first | exact Below.refl _ _ | (refine Below.setCell ?_ (Nat.le_refl _) _) | (refine Below.alloc ?_ (Nat.le_refl _) _))⟩
  · have hi0 : 0 ≤ i := by omega
    go_enter Try.func32, Try.ntmps32
    go_wp2
    exact bodyPost_ret (v := .tuple #[.agg #[.int .i64 0, .int .i64 0, .slice none 0 0], .bool false]) (by simp [results, Try.results32, go_sem]) rfl
      ⟨rfl, by repeat (first | exact Below.refl _ _ | (refine Below.setCell ?_ (Nat.le_refl _) _) | (refine Below.alloc ?_ (Nat.le_refl _) _))⟩

/-! ### push -/
set_option maxRecDepth 100000 in
set_option maxHeartbeats 1000000 in
theorem push_full (p gb : Nat) (lv : Value) (gs : List Int) (ms : List Msg) (bl : List Nat) (x y : Int) (A : Option Addr) (n c : Nat) (w : World) (hN : NetAt w p gb lv gs ms bl) (hl : 1000 ≤ ms.length) (hl2 : ms.length ≤ 1000000) :
    Calls Try.prog 31 #[.pointer (some ⟨p, 0, none⟩), .agg #[.int .i64 x, .int .i64 y, .slice A n c]] w fun e w' => e = .returned (.int .i64 4) ∧ Below w.heap.size w w' := by
  obtain ⟨A', cap, hv⟩ := own_slice hN.row
  have hc := (hN.blk.alloc (.cells #[.int .i64 x, .int .i64 y, .slice A n c] 32)).cell 1
  subst hv
  simp only [List.getElem?_toArray, List.getElem?_cons_succ, List.getElem?_cons_zero] at hc
  clear hN
  go_enter Try.func31, Try.ntmps31
  go_wp2
  go_ret
  exact ⟨rfl, (Below.refl _ _).alloc (Nat.le_refl _) _⟩

/-- What the append and the store of push leave. -/
theorem push_close {w W w2 : World} {p gb : Nat} {lv v1 : Value} {gs : List Int} {ms : List Msg} {bl : List Nat} {m : Msg} {k : Nat} (hN : NetAt w p gb lv gs ms bl) (hB : Below w.heap.size w W) (hnew : Blk W k 5 (nums .u8 m.b).toArray) (hk : w.heap.size ≤ k)
    (hg : W.grownBy w2 lv.ownBlock) (hown : w2.ownsRow 0 32 3 v1 (ms.length + 1) (msgCells ms bl ++ [.int .i64 m.frm, .int .i64 m.to_, .slice (some ⟨k, 0, none⟩) m.b.length m.b.length])) (hat : v1.ownBlock = lv.ownBlock ∨ ∃ b, v1.ownBlock = some b ∧ W.heap.size ≤ b) :
    NetAt (w2.setCell ⟨p, 1, none⟩ v1) p gb v1 gs (ms ++ [m]) (bl ++ [k]) ∧ Kept (netS p lv) w (w2.setCell ⟨p, 1, none⟩ v1) ∧ (v1.ownBlock = lv.ownBlock ∨ ∃ b, v1.ownBlock = some b ∧ w.heap.size ≤ b) ∧ w.heap.size ≤ k := by
  have hN1 := hN.below hB
  have e1 : ∀ {g t cs}, Blk W g t cs → t ≠ 32 → Blk w2 g t cs := fun h ht => (hg.block _ h.lt (fun e => own_blk_ne hN1.row h (fun e => ht e.symm) e.symm)).trans h
  have hp2 := e1 hN1.blk (by decide)
  have hg2 := e1 hN1.grp (by decide)
  have hgp : gb ≠ p := hN1.grp.ne_ hN1.blk (by decide)
  have hbl : ∀ b ∈ bl, b < w.heap.size := fun b hb => by
    obtain ⟨i, hi, rfl⟩ := List.getElem_of_mem hb
    obtain ⟨m', hm'⟩ : ∃ m', ms[i]? = some m' := ⟨ms[i]'(by have := hN.len; omega), by simp⟩
    exact (hN.msg i m' _ hm' (by simp [hi])).lt
  have hS : ∀ b, lv.ownBlock = some b → b < w.heap.size := fun b hb => own_lt hN.row b hb
  refine ⟨⟨hp2.set_ 1 v1, hg2.far hgp _, ?_, by simp [hN.len], ?_, ?_⟩, ?_, ?_, hk⟩
  · rw [msgCells_append ms [m] bl [k] hN.len, show (ms ++ [m]).length = ms.length + 1 by simp]
    exact own_setCell hown (own_blk_ne hown hp2 (by decide)).symm _
  · rw [List.nodup_append]
    refine ⟨hN.nodup, by simp, fun a ha b hb => ?_⟩
    have := hbl a ha
    simp at hb
    omega
  · intro i m' k' hm hk'
    by_cases hi : i < ms.length
    · rw [List.getElem?_append_left hi] at hm
      rw [List.getElem?_append_left (by rw [hN.len]; exact hi)] at hk'
      have := e1 (hN1.msg i m' k' hm hk') (by decide)
      exact this.far (this.ne_ hp2 (by decide)) _
    · rw [List.getElem?_append_right (by omega)] at hm
      rw [List.getElem?_append_right (by rw [hN.len]; omega), hN.len] at hk'
      have h0 : i - ms.length = 0 := by
        have := (List.getElem?_eq_some_iff.1 hm).1
        simp at this
        omega
      rw [h0] at hm hk'
      simp at hm hk'
      subst hm hk'
      have := e1 hnew (by decide)
      exact this.far (this.ne_ hp2 (by decide)) _
  · exact Kept.setCell (S := netS p lv) (p := ⟨p, 1, none⟩) (Kept.grown (Kept.of_below hB (netS p lv)) hg (fun b hb => Or.inl (Or.inr hb.symm))) (Or.inl (Or.inl rfl)) v1
  · rcases hat with h | ⟨b, h, h'⟩
    · exact Or.inl h
    · exact Or.inr ⟨b, h, Nat.le_trans hB.size h'⟩

set_option maxRecDepth 100000 in
set_option maxHeartbeats 2000000 in
theorem push_ok (p gb : Nat) (lv : Value) (gs : List Int) (ms : List Msg) (bl : List Nat) (m : Msg) (A : Option Addr) (c : Nat) (w : World) (hN : NetAt w p gb lv gs ms bl) (hl : ms.length < 1000) (hC : (Kd.int .u8).C w A m.b.length m.b) (hb : m.b.length ≤ 70000) :
    Calls Try.prog 31 #[.pointer (some ⟨p, 0, none⟩), .agg #[.int .i64 m.frm, .int .i64 m.to_, .slice A m.b.length c]] w fun e w' => ∃ lv' k, e = .returned (.int .i64 0) ∧ NetAt w' p gb lv' gs (ms ++ [m]) (bl ++ [k]) ∧ Kept (netS p lv) w w' ∧ (lv'.ownBlock = lv.ownBlock ∨ ∃ b, lv'.ownBlock = some b ∧ w.heap.size ≤ b) ∧ w.heap.size ≤ k := by
  obtain ⟨A', cap, rfl⟩ := own_slice hN.row
  have hc := (hN.blk.alloc (.cells #[.int .i64 m.frm, .int .i64 m.to_, .slice A m.b.length c] 32)).cell 1
  simp only [List.getElem?_toArray, List.getElem?_cons_succ, List.getElem?_cons_zero] at hc
  have km := print_make (P := Try.prog) 30 5 .u8 1 Try.underlying30 info_u8 (by omega) m.b.length (by omega)
  have hG0 : Hid ((((w.alloc (.cells #[.int .i64 m.frm, .int .i64 m.to_, .slice A m.b.length c] 32)).alloc (.cells (madeCells #[.int .u8 0] m.b.length) 5)).heap[w.heap.size + 1]?) = some (.cells (madeCells #[.int .u8 0] m.b.length).toList.toArray 5 (0, 0))) := by
    show _ = _
    rw [Array.toArray_toList]
    have := heap_alloc_new (w.alloc (.cells #[.int .i64 m.frm, .int .i64 m.to_, .slice A m.b.length c] 32)) (.cells (madeCells #[.int .u8 0] m.b.length) 5)
    rwa [World.size_alloc] at this
  have hP0 : Hid (0 < (nums .u8 m.b).length → some (⟨w.heap.size + 1, 0, none⟩ : Addr) = some ⟨w.heap.size + 1, 0, none⟩ ∧ ∃ ad, A = some ad ∧ ∀ j v, (nums .u8 m.b)[j]? = some v → ((w.alloc (.cells #[.int .i64 m.frm, .int .i64 m.to_, .slice A m.b.length c] 32)).alloc (.cells (madeCells #[.int .u8 0] m.b.length) 5)).cell? (ad.add j) = some v) := by
    intro h0
    obtain ⟨ad, e, hcs⟩ := kd_cells hC (by simpa [nums] using h0)
    exact ⟨rfl, ad, e, fun j v hj => pw_cell_below (((Below.refl _ w).alloc (Nat.le_refl _) _).alloc (by simp) _) (hcs j v hj)⟩
  have hsplice : splice (madeCells #[Value.int .u8 0] m.b.length).toList 0 (nums .u8 m.b) = nums .u8 m.b := splice_all _ _ (by simp [nums, size_madeCells])
  have Hsplice := Lib.hid hsplice
  clear hsplice
  go_enter Try.func31, Try.ntmps31
  go_wp2_with (with_reducible refine gate_builtin (b := .copy) (xs := #[.tmp 16, .tmp 18]) rfl ?_; go_must (refine wpList_copy_splice rfl (.tmp 16) (.tmp 18) 30 30 rfl 5 Try.underlying30 (by kernel_rfl) (some ⟨w.heap.size + 1, 0, none⟩) A m.b.length m.b.length m.b.length c rfl rfl (w.heap.size + 1) 0 (madeCells #[.int .u8 0] m.b.length).toList 5 hG0.out (nums .u8 m.b) (by simp [nums, Nat.min_def]) hP0.out (by simp [nums, size_madeCells]) (nums_oneCell .u8 m.b) (w.heap.size + 1) (w.alloc (.cells #[.int .i64 m.frm, .int .i64 m.to_, .slice A m.b.length c] 32)) ((Below.refl _ _).alloc (by simp) _) (Nat.le_refl _) ?_; intro w1 hw1 hb1))
  have hbox := (Blk.new w 32 #[.int .i64 m.frm, .int .i64 m.to_, .slice A m.b.length c]).below hb1 (Nat.lt_succ_self _)
  have hpw := (hN.blk.alloc (.cells #[.int .i64 m.frm, .int .i64 m.to_, .slice A m.b.length c] 32)).below hb1 (Nat.lt_succ_of_lt hN.blk.lt)
  have hrow1 : w1.ownsRow 0 32 3 (Value.slice A' ms.length cap) ms.length (msgCells ms bl) := own_move (hN.row.alloc (.cells #[.int .i64 m.frm, .int .i64 m.to_, .slice A m.b.length c] 32)) (fun k hk => hb1.block k (Nat.lt_succ_of_lt (own_lt hN.row k hk)))
  have hnew : Blk w1 (w.heap.size + 1) 5 (nums .u8 m.b).toArray := by
    have := hw1.out
    rw [Hsplice.out] at this
    exact this
  have hsz1 : w.heap.size + 1 < w1.heap.size := hnew.lt
  have hb1' : Below w.heap.size w w1 := ((Below.refl _ w).alloc (Nat.le_refl _) _).trans (hb1.mono (by simp))
  clear hw1 hG0 hP0 km
  have c0 := hbox.cell 0
  have c1 := hbox.cell 1
  have c2 := hpw.cell 1
  have f2 := hpw.frozen 1
  simp only [List.getElem?_toArray, List.getElem?_cons_succ, List.getElem?_cons_zero] at c0 c1 c2
  have hne1 : (Value.slice A' ms.length cap).ownBlock ≠ some p := own_blk_ne hrow1 hpw (by decide)
  have hne2 : (Value.slice A' ms.length cap).ownBlock ≠ some w.heap.size := fun e => by have := own_lt hN.row _ e; omega
  have Hrow1 := Lib.hid hrow1
  clear hrow1
  have hplt : p < w1.heap.size := hpw.lt
  go_region_law (((refine step_append_cells (w0 := w1.drew) (W := w1.drew) 0 (by rfl) (.tmp 24) (.tmp 31) 43 32 (.agg #[.int .i64 0, .int .i64 0, .slice none 0 0]) 3 40 (by rfl) Try.underlying43 info_msg rfl (by decide) (by decide) (.slice A' ms.length cap) ms.length (msgCells ms bl) [.int .i64 m.frm, .int .i64 m.to_, .slice (some ⟨w.heap.size + 1, 0, none⟩) m.b.length m.b.length] (by rfl) (by rfl) (by rfl) (by simp [Value.oneCell']) Hrow1.out (Below.refl _ _) (Nat.zero_le _) (by omega) ?_; intro v1 w2 hown2 _ hg hat; obtain ⟨A1, cap1, rfl⟩ := own_slice hown2; have hpw2 : Blk w2 p 63 #[.slice (some ⟨gb, 0, none⟩) gs.length gs.length, .slice A' ms.length cap] := (hg.block p hpw.lt (fun e => hne1 e.symm)).trans hpw; have c9 : w2.cell? ⟨p, 1, none⟩ = some (.slice A' ms.length cap) := hpw2.cell 1; have f9 : w2.frozen? ⟨p, 1, none⟩ = false := hpw2.frozen 1)))
  all_goals
    go_wp2
    go_ret
    exact ⟨_, _, rfl, push_close hN (below_drew hb1') hnew (Nat.le_succ _) hg hown2 hat⟩

end Go.Proofs.Ythoajajgbafngaa.Old
