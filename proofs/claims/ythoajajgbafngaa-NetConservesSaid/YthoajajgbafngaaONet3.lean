/- The contracts of the methods of package net: Copy, Send, Partition, Len, New. -/
import Derived.Test.YthoajajgbafngaaONet2
namespace Go.Proofs.Ythoajajgbafngaa.Old
set_option linter.unusedVariables false
set_option linter.unusedSimpArgs false
open Go.RowKit Go.Shelf Go.Proofs.YthoajajgbafngaaW.PrintWords Go.Proofs.YthoajajgbafngaaW.PrintLast Go.Proofs.YthoajajgbafngaaW.PrintMore

theorem Blk.own {w : World} {g : Nat} {t : TypeId} {cs : List Value} (h : Blk w g t cs.toArray) {n size : Nat} (hn : cs.length = n * size) (hm : n ≤ maxLen) : w.ownsRow 0 t size (.slice (some ⟨g, 0, none⟩) n n) n cs :=
  ⟨hn, .inr ⟨g, n, cs.toArray, rfl, Nat.zero_le _, h, Nat.le_refl _, hm, by simpa using hn, by rw [List.toList_toArray, ← hn, List.take_length]⟩⟩
theorem Blk.kd {w : World} {g : Nat} {t : TypeId} {k : IntKind} {l : List Int} (h : Blk w g t (nums k l).toArray) (hm : l.length ≤ maxLen) : (Kd.int k).C w (some ⟨g, 0, none⟩) l.length l :=
  (own_kd' (h.own (n := l.length) (size := 1) (by simp [nums]) hm)).2.2

/-! ### Copy -/
set_option maxRecDepth 100000 in
set_option maxHeartbeats 1000000 in
theorem Copy_none (p gb : Nat) (lv : Value) (gs : List Int) (ms : List Msg) (bl : List Nat) (i : Int) (w : World) (hN : NetAt w p gb lv gs ms bl) (hl2 : ms.length ≤ 1000000) (hi : i < 0 ∨ (ms.length : Int) ≤ i) :
    Calls Try.prog 17 #[.pointer (some ⟨p, 0, none⟩), .int .i64 i] w fun e w' => e = .returned (.int .i64 9) ∧ Below w.heap.size w w' := by
  have hrow := Lib.hid hN.row
  have hc := hN.blk.cell 1
  simp only [List.getElem?_toArray, List.getElem?_cons_succ, List.getElem?_cons_zero] at hc
  clear hN
  go_enter Try.func17, Try.ntmps17
  go_wp2_with fail
  refine (atMsg_no lv ms bl i w hrow.out hi hl2).mono ?_
  rintro e w1 ⟨rfl, hb1⟩
  go_wp2
  go_ret
  exact ⟨rfl, by repeat (first | exact hb1 | (refine Below.setCell ?_ hb1.size _) | (refine Below.alloc ?_ hb1.size _))⟩

set_option maxRecDepth 100000 in
set_option maxHeartbeats 1000000 in
theorem Copy_full (p gb : Nat) (lv : Value) (gs : List Int) (ms : List Msg) (bl : List Nat) (i : Nat) (w : World) (hN : NetAt w p gb lv gs ms bl) (hl : 1000 ≤ ms.length) (hl2 : ms.length ≤ 1000000) (hi : i < ms.length) :
    Calls Try.prog 17 #[.pointer (some ⟨p, 0, none⟩), .int .i64 (i : Int)] w fun e w' => e = .returned (.int .i64 4) ∧ Below w.heap.size w w' := by
  have hc := hN.blk.cell 1
  simp only [List.getElem?_toArray, List.getElem?_cons_succ, List.getElem?_cons_zero] at hc
  obtain ⟨m, hm⟩ : ∃ m, ms[i]? = some m := ⟨ms[i], by simp [hi]⟩
  obtain ⟨k, hk⟩ : ∃ k, bl[i]? = some k := ⟨bl[i]'(by rw [hN.len]; exact hi), by simp [hN.len, hi]⟩
  have HN := Lib.hid hN
  clear hN
  go_enter Try.func17, Try.ntmps17
  go_wp2_with fail
  refine (atMsg_yes lv ms bl i m k w HN.out.row hm hk hl2).mono ?_
  rintro e w1 ⟨rfl, hb1⟩
  go_wp2_with fail
  have hB : Below w.heap.size w (w1.alloc (.cells #[.int .i64 m.frm, .int .i64 m.to_, .slice (some ⟨k, 0, none⟩) m.b.length m.b.length] 32)) := hb1.alloc hb1.size _
  refine (push_full p gb lv gs ms bl m.frm m.to_ _ _ _ _ (HN.out.below hB) hl hl2).mono ?_
  rintro e w2 ⟨rfl, hb2⟩
  go_wp2
  go_ret
  exact ⟨rfl, bthen hB hb2⟩

/-- The frame of a callee whose world differs from ours by what is new. -/
theorem netS_after {w W w' : World} {p : Nat} {lv : Value} (hB : Below w.heap.size w W) (hk : Kept (netS p lv) W w') : Kept (netS p lv) w w' :=
  (Kept.of_below hB (netS p lv)).trans hk (fun _ h => Or.inl h)

set_option maxRecDepth 100000 in
set_option maxHeartbeats 1000000 in
theorem Copy_ok (p gb : Nat) (lv : Value) (gs : List Int) (ms : List Msg) (bl : List Nat) (i : Nat) (m : Msg) (w : World) (hN : NetAt w p gb lv gs ms bl) (hl : ms.length < 1000) (hm : ms[i]? = some m) (hb : m.b.length ≤ 70000) :
    Calls Try.prog 17 #[.pointer (some ⟨p, 0, none⟩), .int .i64 (i : Int)] w fun e w' => ∃ lv' k, e = .returned (.int .i64 0) ∧ NetAt w' p gb lv' gs (ms ++ [m]) (bl ++ [k]) ∧ Kept (netS p lv) w w' ∧ (lv'.ownBlock = lv.ownBlock ∨ ∃ b, lv'.ownBlock = some b ∧ w.heap.size ≤ b) ∧ w.heap.size ≤ k := by
  have hc := hN.blk.cell 1
  simp only [List.getElem?_toArray, List.getElem?_cons_succ, List.getElem?_cons_zero] at hc
  have hi : i < ms.length := (List.getElem?_eq_some_iff.1 hm).1
  obtain ⟨k, hk⟩ : ∃ k, bl[i]? = some k := ⟨bl[i]'(by rw [hN.len]; exact hi), by simp [hN.len, hi]⟩
  have HN := Lib.hid hN
  clear hN
  go_enter Try.func17, Try.ntmps17
  go_wp2_with fail
  refine (atMsg_yes lv ms bl i m k w HN.out.row hm hk (by omega)).mono ?_
  rintro e w1 ⟨rfl, hb1⟩
  go_wp2_with fail
  have hB : Below w.heap.size w (w1.alloc (.cells #[.int .i64 m.frm, .int .i64 m.to_, .slice (some ⟨k, 0, none⟩) m.b.length m.b.length] 32)) := hb1.alloc hb1.size _
  have hNB := HN.out.below hB
  refine (push_ok p gb lv gs ms bl m _ _ _ hNB hl ((hNB.msg i m k hm hk).kd (by simp only [maxLen]; omega)) hb).mono ?_
  rintro e w2 ⟨lv', k', rfl, hN2, hk2, hat, hk'⟩
  have hres : Hid (NetAt w2 p gb lv' gs (ms ++ [m]) (bl ++ [k']) ∧ Kept (netS p lv) w w2 ∧ (lv'.ownBlock = lv.ownBlock ∨ ∃ b, lv'.ownBlock = some b ∧ w.heap.size ≤ b) ∧ w.heap.size ≤ k') := by
    refine ⟨hN2, netS_after hB hk2, ?_, Nat.le_trans hB.size hk'⟩
    rcases hat with h | ⟨b, h, h'⟩
    · exact Or.inl h
    · exact Or.inr ⟨b, h, Nat.le_trans hB.size h'⟩
  clear hN2 hk2 hat hk' hNB
  go_wp2
  go_ret
  exact ⟨_, _, rfl, hres.out⟩

/-! ### Len -/
set_option maxRecDepth 100000 in
set_option maxHeartbeats 1000000 in
theorem Len_calls (p gb : Nat) (lv : Value) (gs : List Int) (ms : List Msg) (bl : List Nat) (w : World) (hN : NetAt w p gb lv gs ms bl) :
    Calls Try.prog 23 #[.pointer (some ⟨p, 0, none⟩)] w fun e w' => e = .returned (.int .i64 (ms.length : Int)) ∧ Below w.heap.size w w' := by
  have hc := hN.blk.cell 1
  obtain ⟨A, cap, rfl⟩ := own_slice hN.row
  simp only [List.getElem?_toArray, List.getElem?_cons_succ, List.getElem?_cons_zero] at hc
  clear hN
  go_enter Try.func23, Try.ntmps23
  go_wp2
  go_ret
  exact ⟨rfl, Below.refl _ _⟩

/-! ### New -/
set_option maxRecDepth 100000 in
set_option maxHeartbeats 1000000 in
theorem New_arg (n : Int) (w : World) (hn : n < 1 ∨ 16 < n) :
    Calls Try.prog 25 #[.int .i64 n] w fun e w' => e = .returned (.tuple #[.pointer none, .int .i64 1]) ∧ Below w.heap.size w w' := by
  by_cases h : n < 1
  · go_enter Try.func25, Try.ntmps25
    go_wp2
    go_ret2
    exact ⟨rfl, Below.refl _ _⟩
  · have h2 : 16 < n := by omega
    go_enter Try.func25, Try.ntmps25
    go_wp2
    go_ret2
    exact ⟨rfl, Below.refl _ _⟩

set_option maxRecDepth 100000 in
set_option maxHeartbeats 1000000 in
theorem New_ok (n : Nat) (w : World) (hn : 1 ≤ n) (hn2 : n ≤ 16) :
    Calls Try.prog 25 #[.int .i64 (n : Int)] w fun e w' => ∃ p gb, e = .returned (.tuple #[.pointer (some ⟨p, 0, none⟩), .int .i64 0]) ∧ NetAt w' p gb (.slice none 0 0) (List.replicate n 0) [] [] ∧ Below w.heap.size w w' ∧ w.heap.size ≤ p ∧ w.heap.size ≤ gb := by
  have km := print_make (P := Try.prog) 22 3 .i64 8 Try.underlying22 info_int (by omega) n (by omega)
  go_enter Try.func25, Try.ntmps25
  go_wp2
  go_ret2
  have hmade : madeCells #[Value.int .i64 0] n = (nums .i64 (List.replicate n 0)).toArray := by
    apply Array.toList_inj.1
    rw [toList_madeCells_one]
    simp [nums]
  have b1 : Blk (w.alloc (.cells (madeCells #[Value.int .i64 0] n) 3)) w.heap.size 3 (nums .i64 (List.replicate n 0)).toArray := by
    rw [← hmade]
    exact Blk.new w _ _
  have b2 := Blk.new (w.alloc (.cells (madeCells #[Value.int .i64 0] n) 3)) 63 #[.slice (some ⟨w.heap.size, 0, none⟩) n n, .slice none 0 0]
  rw [World.size_alloc] at b2
  refine ⟨w.heap.size + 1, w.heap.size, rfl, ⟨?_, b1.alloc _, World.ownsRow_nil _ _ _ _, rfl, List.nodup_nil, fun i m k h => by simp at h⟩, ((Below.refl _ w).alloc (Nat.le_refl _) _).alloc (by simp) _, Nat.le_succ _, Nat.le_refl _⟩
  rw [List.length_replicate]
  exact b2

/-! ### Partition -/
/-- 'copy' within one block, and nothing else is written. -/
theorem wpList_copy_frame {P : Program} {w : World} {ops : Array Oper} {rest : List Oper} {o : Oper} {a : Act} {Q : Exit → Act → World → Prop} (hgd : o.guard = none) (d s : Operand) (dT sT : TypeId)
    (ho : o.op = .call { callee := .builtin .copy, args := #[d, s], argTypes := #[dT, sT] }) (elem : TypeId) (hu : P.underlying dT = some (.slice elem)) (hsz : (P.info? elem).map (·.size) = some 1)
    (dp sp : Option Addr) (dLen dCap sLen sCap : Nat) (hd : a.eval d = .slice dp dLen dCap) (hs : a.eval s = .slice sp sLen sCap)
    (g off : Nat) (cur : List Value) (t : TypeId) (hg : w.heap[g]? = some (.cells cur.toArray t (0, 0))) (cs : List Value) (hn : cs.length = Nat.min sLen dLen)
    (hpos : 0 < cs.length → dp = some ⟨g, off, none⟩ ∧ ∃ ad, sp = some ad ∧ ∀ j v, cs[j]? = some v → w.cell? (ad.add j) = some v)
    (hfit : off + cs.length ≤ cur.length) (h1 : ∀ v ∈ cs, v.oneCell' = true)
    (h : ∀ w', Hid (w'.heap[g]? = some (.cells (splice cur off cs).toArray t (0, 0))) → Kept (· = g) w w' → wpList P ops Q rest (a.put o.dst (goInt cs.length)) w') :
    wpList P ops Q (o :: rest) a w := by
  by_cases h0 : cs.length = 0
  · obtain rfl : cs = [] := List.eq_nil_of_length_eq_zero h0
    refine wpList_copy_nothing hgd d s dT sT ho elem hu hsz dp sp dLen dCap sLen sCap hd hs (by simpa using hn.symm) ?_
    exact h w (show _ = _ by simpa [splice] using hg) (Kept.refl _ _)
  · obtain ⟨rfl, ad, rfl, hsrc⟩ := hpos (by omega)
    refine wpList_copy_own hgd d s dT sT ho elem hu hsz g off dLen dCap ad sLen sCap hd hs cur.toArray t hg cs hn hsrc (by simpa using hfit) h1 ?_
    exact h _ (show _ = _ by simpa [splice] using setRow_heap w g _ _ t _ hg) ⟨rfl, rfl, rfl, by simp [World.setRow], fun k _ hk => setRow_other w g k _ hk⟩
set_option maxRecDepth 100000 in
set_option maxHeartbeats 1000000 in
theorem Part_arg (p gb : Nat) (lv : Value) (gs : List Int) (ms : List Msg) (bl : List Nat) (A : Option Addr) (n c : Nat) (w : World) (hN : NetAt w p gb lv gs ms bl) (hn : n ≠ gs.length) :
    Calls Try.prog 21 #[.pointer (some ⟨p, 0, none⟩), .slice A n c] w fun e w' => e = .returned (.int .i64 1) ∧ Below w.heap.size w w' := by
  have hc := hN.blk.cell 0
  simp only [List.getElem?_toArray, List.getElem?_cons_succ, List.getElem?_cons_zero] at hc
  clear hN
  have hnb : ((n : Int) == (gs.length : Int)) = false := beq_eq_false_iff_ne.2 (by omega)
  go_enter Try.func21, Try.ntmps21
  go_wp2
  go_ret
  exact ⟨rfl, Below.refl _ _⟩

set_option maxRecDepth 100000 in
set_option maxHeartbeats 1000000 in
theorem Part_ok (p gb : Nat) (lv : Value) (gs xs : List Int) (ms : List Msg) (bl : List Nat) (A : Option Addr) (c : Nat) (w : World) (hN : NetAt w p gb lv gs ms bl) (hn : xs.length = gs.length) (hC : (Kd.int .i64).C w A xs.length xs) :
    Calls Try.prog 21 #[.pointer (some ⟨p, 0, none⟩), .slice A xs.length c] w fun e w' => e = .returned (.int .i64 0) ∧ NetAt w' p gb lv xs ms bl ∧ Kept (· = gb) w w' := by
  have hc := hN.blk.cell 0
  simp only [List.getElem?_toArray, List.getElem?_cons_succ, List.getElem?_cons_zero] at hc
  have HN := Lib.hid hN
  have hG0 : Hid (w.heap[gb]? = some (.cells (nums .i64 gs).toArray 3 (0, 0))) := hN.grp
  have hP0 : Hid (0 < (nums .i64 xs).length → some (⟨gb, 0, none⟩ : Addr) = some ⟨gb, 0, none⟩ ∧ ∃ ad, A = some ad ∧ ∀ j v, (nums .i64 xs)[j]? = some v → w.cell? (ad.add j) = some v) := by
    intro h0
    obtain ⟨ad, e, hcs⟩ := kd_cells hC (by simpa [nums] using h0)
    exact ⟨rfl, ad, e, hcs⟩
  clear hN
  have hnb : ((xs.length : Int) == (gs.length : Int)) = true := beq_iff_eq.2 (by omega)
  go_enter Try.func21, Try.ntmps21
  go_wp2_with (with_reducible refine gate_builtin (b := .copy) (xs := #[.tmp 16, .tmp 17]) rfl ?_; go_must (refine wpList_copy_frame rfl (.tmp 16) (.tmp 17) 22 22 rfl 3 Try.underlying22 (by kernel_rfl) (some ⟨gb, 0, none⟩) A gs.length gs.length xs.length c rfl rfl gb 0 (nums .i64 gs) 3 hG0.out (nums .i64 xs) (by simp [nums, Nat.min_def, hn]) hP0.out (by simp [nums, hn]) (nums_oneCell .i64 xs) ?_; intro w1 hw1 hb1))
  go_ret
  have hw2 : Blk w1 gb 3 (nums .i64 xs).toArray := by
    have := hw1.out
    rw [splice_all _ _ (by simp [nums, hn])] at this
    exact this
  have hN := HN.out
  have hp : p ≠ gb := hN.blk.ne_ hN.grp (by decide)
  refine ⟨rfl, ⟨?_, hw2, hb1.own hN.row (fun k hk e => own_blk_ne hN.row hN.grp (by decide) (e ▸ hk)), hN.len, hN.nodup, fun i m k hm hk => (hN.msg i m k hm hk).kept hb1 ((hN.msg i m k hm hk).ne_ hN.grp (by decide))⟩, hb1⟩
  rw [hn]
  exact hN.blk.kept hb1 hp

/-! ### Send -/
theorem atInt_at (gb : Nat) (gs : List Int) (i : Int) (o : Bool) (ho : Hid (atOk gs i = o)) (w : World) (hb : Blk w gb 3 (nums .i64 gs).toArray) (hl : gs.length ≤ 1000000) :
    Calls Try.prog 30 #[.slice (some ⟨gb, 0, none⟩) gs.length gs.length, .int .i64 i] w fun e w' => e = .returned (.tuple #[.int .i64 (atX gs i), .bool o]) ∧ Below w.heap.size w w' := by
  rw [← ho.out]
  exact atInt_calls gb gs i w hb hl

/-- Whether a message may be sent. -/
def sendOk (gs : List Int) (m : Msg) : Bool := atOk gs m.frm && atOk gs m.to_ && decide (m.b.length ≤ 65536)

set_option maxRecDepth 100000 in
set_option maxHeartbeats 2000000 in
theorem Send_all (p gb : Nat) (lv : Value) (gs : List Int) (ms : List Msg) (bl : List Nat) (m : Msg) (A : Option Addr) (c : Nat) (w : World) (hN : NetAt w p gb lv gs ms bl) (hgl : gs.length ≤ 1000000) (hl2 : ms.length ≤ 1000000) (hC : (Kd.int .u8).C w A m.b.length m.b) :
    Calls Try.prog 12 #[.pointer (some ⟨p, 0, none⟩), .agg #[.int .i64 m.frm, .int .i64 m.to_, .slice A m.b.length c]] w fun e w' =>
      (sendOk gs m = false → e = .returned (.int .i64 1) ∧ Below w.heap.size w w') ∧
      (sendOk gs m = true → 1000 ≤ ms.length → e = .returned (.int .i64 4) ∧ Below w.heap.size w w') ∧
      (sendOk gs m = true → ms.length < 1000 → ∃ lv' k, e = .returned (.int .i64 0) ∧ NetAt w' p gb lv' gs (ms ++ [m]) (bl ++ [k]) ∧ Kept (netS p lv) w w' ∧ (lv'.ownBlock = lv.ownBlock ∨ ∃ b, lv'.ownBlock = some b ∧ w.heap.size ≤ b) ∧ w.heap.size ≤ k) := by
  obtain ⟨o1, ho1⟩ : ∃ o1, Hid (atOk gs m.frm = o1) := ⟨_, rfl⟩
  obtain ⟨o2, ho2⟩ : ∃ o2, Hid (atOk gs m.to_ = o2) := ⟨_, rfl⟩
  obtain ⟨o3, ho3⟩ : ∃ o3, Hid (decide (m.b.length ≤ 65536) = o3) := ⟨_, rfl⟩
  have Hs : Hid (sendOk gs m = (o1 && o2 && o3)) := by show _ = _; rw [sendOk, ho1.out, ho2.out, ho3.out]
  have hbox := Blk.new w 32 #[.int .i64 m.frm, .int .i64 m.to_, .slice A m.b.length c]
  have hB0 : Below w.heap.size w (w.alloc (.cells #[.int .i64 m.frm, .int .i64 m.to_, .slice A m.b.length c] 32)) := (Below.refl _ w).alloc (Nat.le_refl _) _
  have hN1 := hN.below hB0
  have hC1 := Kd.C_below hC hB0
  have HN := Lib.hid hN
  have HN1 := Lib.hid hN1
  have c0 := hbox.cell 0
  have c1 := hbox.cell 1
  have p0 := hN1.blk.cell 0
  have plt := hN1.blk.lt
  simp only [List.getElem?_toArray, List.getElem?_cons_succ, List.getElem?_cons_zero] at c0 c1 p0
  clear hN hN1 hC
  go_enter Try.func12, Try.ntmps12
  go_wp2_with fail
  generalize hW : w.alloc (.cells #[.int .i64 m.frm, .int .i64 m.to_, .slice A m.b.length c] 32) = W at *
  clear hW
  have keepS : ∀ w', Below W.heap.size W w' → w'.cell? ⟨p, 0, none⟩ = some (.slice (some ⟨gb, 0, none⟩) gs.length gs.length) ∧ w'.cell? ⟨w.heap.size, 0, none⟩ = some (.int .i64 m.frm) ∧ Below W.heap.size W w' := fun w' h => ⟨pw_cell_below h p0, pw_cell_below h c0, h⟩
  have KeepS := Lib.hid keepS
  clear keepS
  go_region_held3 (fun w' => w'.cell? ⟨p, 0, none⟩ = some (.slice (some ⟨gb, 0, none⟩) gs.length gs.length) ∧ w'.cell? ⟨w.heap.size, 0, none⟩ = some (.int .i64 m.frm) ∧ Below W.heap.size W w')
    (first | exact KeepS.out _ (Below.refl _ _) | exact KeepS.out _ (Below.refl _ _).drew | (refine KeepS.out _ (bthen ?_ hB); first | exact (Below.refl _ _).drew | (apply And.right; apply And.right; assumption)))
    ((go_at_call 30; refine (atInt_at gb gs m.frm o1 ho1 _ (Blk.below HN1.out.grp ?_ HN1.out.grp.lt) hgl).mono ?_; (first | exact (Below.refl _ _).drew | (apply And.right; apply And.right; assumption)); rintro e w' ⟨rfl, hB⟩))
  rename_i hS
  have hB1 := hS.2.2
  rename World => W1
  clear hS KeepS hB
  have d0 := pw_cell_below hB1 p0
  have e1 := pw_cell_below hB1 c1
  have hltW : w.heap.size < W.heap.size := hbox.lt
  have HN2 := Lib.hid (HN1.out.below hB1)
  have hC2 := Kd.C_below hC1 hB1
  have hbox2 := hbox.below hB1 hltW
  have hB01 := bthen hB0 hB1
  clear c0 c1 p0 hC1 hB1 hbox HN1
  have plt2 : p < W1.heap.size := HN2.out.blk.lt
  have keepS : ∀ w', Below W1.heap.size W1 w' → w'.cell? ⟨p, 0, none⟩ = some (.slice (some ⟨gb, 0, none⟩) gs.length gs.length) ∧ w'.cell? ⟨w.heap.size, 1, none⟩ = some (.int .i64 m.to_) ∧ Below W1.heap.size W1 w' := fun w' h => ⟨pw_cell_below h d0, pw_cell_below h e1, h⟩
  have KeepS := Lib.hid keepS
  clear keepS
  go_wp2_with fail
  go_region_held3 (fun w' => w'.cell? ⟨p, 0, none⟩ = some (.slice (some ⟨gb, 0, none⟩) gs.length gs.length) ∧ w'.cell? ⟨w.heap.size, 1, none⟩ = some (.int .i64 m.to_) ∧ Below W1.heap.size W1 w')
    (first | exact KeepS.out _ (Below.refl _ _) | exact KeepS.out _ (Below.refl _ _).drew | (refine KeepS.out _ (bthen ?_ hB); first | exact (Below.refl _ _).drew | (apply And.right; apply And.right; assumption)))
    ((go_at_call 30; refine (atInt_at gb gs m.to_ o2 ho2 _ (Blk.below HN2.out.grp ?_ HN2.out.grp.lt) hgl).mono ?_; (first | exact (Below.refl _ _).drew | (apply And.right; apply And.right; assumption)); rintro e w' ⟨rfl, hB⟩))
  rename_i hS
  have hB2 := hS.2.2
  rename World => W2
  have HN3 := Lib.hid (HN2.out.below hB2)
  have hC3 := Kd.C_below hC2 hB2
  have hbox3 := hbox2.below hB2 hbox2.lt
  have hB02 := bthen hB01 hB2
  have b0 := hbox3.cell 0
  have b1 := hbox3.cell 1
  have b2 := hbox3.cell 2
  simp only [List.getElem?_toArray, List.getElem?_cons_succ, List.getElem?_cons_zero] at b0 b1 b2
  have hbig : decide ((65536 : Int) < (m.b.length : Int)) = !o3 := by
    rw [← ho3.out]
    by_cases h : m.b.length ≤ 65536
    · rw [decide_eq_true h, decide_eq_false (by omega)]; rfl
    · rw [decide_eq_false h, decide_eq_true (by omega)]; rfl
  clear hS KeepS hB d0 e1 hB01 hC2 hbox2 HN2 plt2 ho1 ho2 hB2
  by_cases hall : (o1 && o2 && o3) = true
  · have e1 : o1 = true := by cases o1 <;> simp_all
    have e2 : o2 = true := by cases o2 <;> simp_all
    have e3 : o3 = true := by cases o3 <;> simp_all
    subst e1 e2 e3
    have hlen : m.b.length ≤ 65536 := of_decide_eq_true ho3.out
    by_cases hfull : 1000 ≤ ms.length
    · go_wp2_with fail
      refine (push_full p gb lv gs ms bl m.frm m.to_ A m.b.length c _ HN3.out hfull hl2).mono ?_
      rintro e w3 ⟨rfl, hb3⟩
      have HB := Lib.hid (bthen hB02 hb3)
      clear hb3
      go_wp2
      go_ret
      exact ⟨fun h => (by rw [Hs.out] at h; cases h), fun _ _ => ⟨rfl, HB.out⟩, fun _ h => absurd hfull (by omega)⟩
    · go_wp2_with fail
      refine (push_ok p gb lv gs ms bl m A c _ HN3.out (by omega) hC3 (by omega)).mono ?_
      rintro e w3 ⟨lv', k', rfl, hN2, hk2, hat, hk'⟩
      have hres : Hid (NetAt w3 p gb lv' gs (ms ++ [m]) (bl ++ [k']) ∧ Kept (netS p lv) w w3 ∧ (lv'.ownBlock = lv.ownBlock ∨ ∃ b, lv'.ownBlock = some b ∧ w.heap.size ≤ b) ∧ w.heap.size ≤ k') := by
        refine ⟨hN2, netS_after hB02 hk2, ?_, Nat.le_trans hB02.size hk'⟩
        rcases hat with h | ⟨b, h, h'⟩
        · exact Or.inl h
        · exact Or.inr ⟨b, h, Nat.le_trans hB02.size h'⟩
      clear hN2 hk2 hat hk'
      go_wp2
      go_ret
      exact ⟨fun h => (by rw [Hs.out] at h; cases h), fun _ h => absurd h hfull, fun _ _ => ⟨_, _, rfl, hres.out⟩⟩
  · have hf : sendOk gs m = false := by rw [Hs.out]; simpa using hall
    have Hf := Lib.hid hf
    have HB := Lib.hid hB02
    clear hB02 HN3 hC3 hf
    cases o1 <;> cases o2 <;> cases o3 <;> first | (exact absurd rfl hall) | (clear hall Hs ho3; go_wp2; go_ret; exact ⟨fun _ => ⟨rfl, HB.out⟩, fun h => (by rw [Hf.out] at h; cases h), fun h => (by rw [Hf.out] at h; cases h)⟩)

end Go.Proofs.Ythoajajgbafngaa.Old
