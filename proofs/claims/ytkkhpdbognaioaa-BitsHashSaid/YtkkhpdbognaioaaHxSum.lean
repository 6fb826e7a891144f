/- The contracts of the hash's functions: Sum, Bytes, Pair return what the plain functions sumI, bytesI, pairI say. -/
import Derived.Test.YtkkhpdbognaioaaHxWords
import Derived.Test.YtkkhpdbognaioaaHxMath2
import Derived.Lib.Hide
namespace Go.Proofs.Ytkkhpdbognaioaa.Hx
set_option linter.unusedVariables false
set_option linter.unusedSimpArgs false
open Go.RowKit Go.Shelf Go.Proofs.YtkkhpdbognaioaaW.PrintWords Go.Proofs.YtkkhpdbognaioaaW.PrintLast Go.Proofs.YtkkhpdbognaioaaW.PrintMore
attribute [local go_sem] Oper.semAt_some

theorem ret_int {k : IntKind} {a b : Int} (h : a = b) : Ending.returned (.int k a) = .returned (.int k b) := by rw [h]

set_option maxRecDepth 100000 in
set_option maxHeartbeats 1000000 in
theorem mix_calls (a b : Int) (w : World) : Calls Try.prog 62 #[.int .u64 a, .int .u64 b] w fun e w' => e = .returned (.int .u64 (mixI a b)) ∧ w = w' := by
  go_enter Try.func62, Try.ntmps62
  go_wp2
  go_ret
  exact ⟨rfl, rfl⟩

theorem sumI_string (s : ByteArray) (l : List Int) : sumI (bytesOf s) l = mixI (fold (mixI (mixI (fold 0 (wordsOf (bytesOf s))) (s.size : Int)) (l.length : Int)) (u64s l)) 0 := by
  rw [sumI_eq, bytesOf_length]

set_option maxRecDepth 100000 in
set_option maxHeartbeats 2000000 in
theorem Sum_calls (s : ByteArray) (hs : s.size ≤ 140737488351232) (A : Option Addr) (c : Nat) (l : List Int) (hl : l.length ≤ 140737488351232) (w : World) (hC : (Kd.int .i64).C w A l.length l) (hc : l.length ≤ c) :
    Calls Try.prog 58 #[.string s, .slice A l.length c] w fun e w' => e = .returned (.int .u64 (sumI (bytesOf s) l)) ∧ Below w.heap.size w w' := by
  have Hfin := Lib.hid (sumI_string s l)
  refine (callsIn_wide (n := 5)).1 ?_
  have hro : Fence.wide.round = none := rfl
  refine callsIn_of_wp_marks Try.func58 rfl trivial ?_ hro
  simp only [Try.ntmps58, List.size_toArray, List.length_cons, List.length_nil, Nat.reduceAdd, Nat.reduceSub, Array.replicate_succ, Array.replicate_zero, List.push_toArray, List.append_toArray, List.nil_append, List.cons_append]
  gi_wp2_with (refine ⟨trivial, ?_⟩; gi_at_call 61; refine (words_string_in Fence.wide (5 - 1) trivial rfl _ _).mono ?_; rintro e w' ⟨rfl, rfl⟩)
  have bS := Boxed.new w 23 (.int .u64 0)
  have bN := Boxed.new (w.alloc (.cells #[.int .u64 0] 23)) 9 (.string s)
  rw [World.size_alloc] at bN
  have hB0 : Below w.heap.size w ((w.alloc (.cells #[.int .u64 0] 23)).alloc (.cells #[.string s] 9)) := ((Below.refl _ w).alloc (Nat.le_refl _) _).alloc (by simp) _
  refine wpIn_rangeFunc_ownG hro (by omega) (gf := 63) (lb := #[.pointer (some ⟨w.heap.size + 1, 0, none⟩)]) rfl trivial (enters_of Try.func63 (by kernel_rfl) rfl)
    (words_string_stops Fence.wide (5 - 1) trivial hro (by omega) (w.heap.size + 1) w.heap.size s hs _ (by simp) bN.cell) (fun h k => h.trans k) (KpB.keep (w := (w.alloc (.cells #[.int .u64 0] 23)).alloc (.cells #[.string s] 9)) (by simp; omega) (by simp)) (Below.refl _ _) (fun _ => rfl)
    (fun pre W => (W.cell? ⟨w.heap.size, 0, none⟩ = some (.int .u64 (fold 0 pre)) ∧ W.frozen? ⟨w.heap.size, 0, none⟩ = false) ∧ Below w.heap.size w W)
    (fun _ _ _ => False)
    (OwnFrom.and (Own.from (fun s A B row hs hg hr => ⟨cell_kept hs.1 hg hr, (frozen_kept hs.1 hg hr).trans hs.2⟩) _) (ownFrom_below (Nat.le_refl _) (by simp; omega)))
    (fun _ _ _ _ _ hs _ _ => hs)
    ⟨⟨(bS.alloc _).cell, (bS.alloc _).frozen⟩, hB0⟩
    (fun x => { tmps := #[.string s, .slice A l.length c, undef, undef, .int .u64 0, .pointer (some ⟨w.heap.size, 0, none⟩), .int .u64 x, undef, undef, .string s, .func (.func 63) #[] #[.pointer (some ⟨w.heap.size + 1, 0, none⟩)], .int .u64 x, undef, undef, undef, undef, undef, undef, undef, undef, undef, undef, undef, undef, undef, undef, undef, undef, undef, undef, undef, undef, undef, undef, undef, undef, undef], defers := [] }) ?assign ?body ?done ?stop
  case assign =>
    intro l x W K hK
    gi_wp2
    exact hK
  case body =>
    rintro l pre x W ⟨⟨hc, hf⟩, hB⟩ _
    gi_wp2_with (refine ⟨trivial, ?_⟩; gi_at_call 62; refine (CallsIn.inRound l (callsIn_wide.2 (mix_calls _ _ _))).mono ?_; rintro e w' ⟨rfl, rfl⟩)
    exact ⟨(KeepsOthers.setCell _ _ _).from _, ⟨(Below.refl w.heap.size W).setCell (p := ⟨w.heap.size, 0, none⟩) (Nat.le_refl _) _, Below.heap_setCell _ _ _ _ (by simp)⟩, ⟨by rw [fold_snoc]; exact World.cell?_setCell_same' _ _ _ (by rw [hc]; rfl), by rw [World.frozen?_setCell]; exact hf⟩, hB.setCell (p := ⟨w.heap.size, 0, none⟩) (Nat.le_refl _) _⟩
  case done =>
    rintro D ys W hD rfl ⟨⟨hc, hf⟩, hB⟩ hK
    gi_wp2_with (refine ⟨trivial, ?_⟩; gi_at_call 62; refine (callsIn_wide.2 (mix_calls _ _ _)).mono ?_; rintro e w' ⟨rfl, rfl⟩)
    gi_loopw [26] (fun i wr => ∃ k : Nat, k ≤ l.length ∧ i = .int .i64 (k : Int) ∧ wr.cell? ⟨w.heap.size, 0, none⟩ = some (.int .u64 (fold (mixI (mixI (fold 0 (wordsOf (bytesOf s))) s.size) l.length) (u64s (l.take k)))) ∧ wr.frozen? ⟨w.heap.size, 0, none⟩ = false ∧ Below w.heap.size w wr ∧ wr.heap[D]? = some (.deferred (some [])))
      (fun i _ => l.length - (intOf i).toNat)
    case atStart => exact ⟨0, Nat.zero_le _, rfl, World.cell?_setCell_same' _ _ _ (by rw [hc]; rfl), by rw [World.frozen?_setCell]; exact hf, hB.setCell (p := ⟨w.heap.size, 0, none⟩) (Nat.le_refl _) _, (KeepsOthers.setCell _ _ _).same D _ hK rfl⟩
    case round =>
      clear hc hf hB hK
      obtain ⟨k, hk, rfl, hc, hf, hB, hK⟩ := hrel
      by_cases hlt : k < l.length
      · obtain ⟨ad, e0, hcell0⟩ := at_nat hC hlt
        subst e0
        have hcell := (hB.cell (World.block_lt_of_cell? w _ hcell0)).trans hcell0
        clear hcell0
        gi_wp2_with (refine ⟨trivial, ?_⟩; gi_at_call 62; refine (callsIn_wide.2 (mix_calls _ _ _)).mono ?_; rintro e w' ⟨rfl, rfl⟩)
        go_roundw
        case rel => exact ⟨k + 1, by omega, by go_num, by rw [u64s_take_succ l hlt, fold_snoc]; exact World.cell?_setCell_same' _ _ _ (by rw [hc]; rfl), by rw [World.frozen?_setCell]; exact hf, hB.setCell (p := ⟨w.heap.size, 0, none⟩) (Nat.le_refl _) _, (KeepsOthers.setCell _ _ _).same D _ hK rfl⟩
        case measure => simp [intOf]; omega
      · obtain rfl : k = l.length := by omega
        gi_wp2_with (refine ⟨trivial, ?_⟩; gi_at_call 62; refine (callsIn_wide.2 (mix_calls _ _ _)).mono ?_; rintro e w' ⟨rfl, rfl⟩)
        refine ⟨by simp, .inl ⟨_, _, rfl, run_takeDeferred hK, ?_⟩⟩
        refine ⟨_, results_tmp rfl _ _ _, ?_, hB.trans (belowK_b (w := w) (Nat.le_refl _) _ D _ _ (by simp at hD; omega) hK rfl rfl)⟩
        rw [Hfin.out]
        rfl
  case stop =>
    rintro D c pre W _ _ h _
    exact h.elim

/-- What a row of the call's own that holds whole numbers is, for a reader. -/
theorem own_kd {w : World} {base n : Nat} {e : TypeId} {k : IntKind} {v : Value} {xs : List Int} (h : w.ownsRow base e 1 v n (nums k xs)) : ∃ A c, v = .slice A xs.length c ∧ xs.length ≤ c ∧ (Kd.int k).C w A xs.length xs := by
  have hn : n = xs.length := by have := h.1; simp [nums] at this; omega
  subst hn
  exact Kd.R_reads (Kd.R_of_own (ok := fun _ => True) (h1 := fun _ => rfl) h (fun _ _ => trivial))

theorem own_kd' {w : World} {base n : Nat} {e : TypeId} {k : IntKind} {A : Option Addr} {c : Nat} {xs : List Int} (h : w.ownsRow base e 1 (.slice A n c) n (nums k xs)) : n = xs.length ∧ n ≤ c ∧ (Kd.int k).C w A xs.length xs := by
  obtain ⟨A', c', he, hle, hC⟩ := own_kd h
  injection he with h1 h2 h3
  subst h1 h2 h3
  exact ⟨rfl, hle, hC⟩
theorem nums_one (k : IntKind) (x : Int) : nums k [x] = [.int k x] := rfl

theorem info_int : (Try.prog.info? 3).map (fun i => (i.zero, i.size, i.bytes)) = some (some (.int .i64 0), 1, 8) := by kernel_rfl



/-- Sum at a row of the call's own. -/
theorem Sum_own (s : ByteArray) (hs : s.size ≤ 140737488351232) {base e n g cap : Nat} (l : List Int) (hn : n = l.length) (hl : l.length ≤ 140737488351232) (w : World) (h : w.ownsRow base e 1 (.slice (some ⟨g, 0, none⟩) n cap) n (nums .i64 l)) :
    Calls Try.prog 58 #[.string s, .slice (some ⟨g, 0, none⟩) n cap] w fun e w' => e = .returned (.int .u64 (sumI (bytesOf s) l)) ∧ Below w.heap.size w w' := by
  subst hn
  obtain ⟨_, hle, hC⟩ := own_kd' h
  exact Sum_calls s hs _ cap l hl w hC hle

set_option maxRecDepth 100000 in
set_option maxHeartbeats 2000000 in
theorem Bytes_calls (s : ByteArray) (hs : s.size ≤ 140737488351232) (A : Option Addr) (c : Nat) (b : List Int) (hz : AllU8 b) (hl : b.length ≤ 140737488351232) (w : World) (hC : (Kd.int .u8).C w A b.length b) (hc : b.length ≤ c) :
    Calls Try.prog 43 #[.string s, .slice A b.length c] w fun e w' => e = .returned (.int .u64 (sumI (bytesOf s) (bytesL b))) ∧ Below w.heap.size w w' := by
  have hA : ∀ ad, A = some ad → 0 < b.length → ad.block < w.heap.size := by
    intro ad had h0
    subst had
    obtain ⟨ad', e0, hcell⟩ := at_nat hC h0
    cases e0
    have := World.block_lt_of_cell? w _ hcell
    have e : (ad.add 0).block = ad.block := by unfold Addr.add; split <;> rfl
    rw [e] at this
    exact this
  have hnw : nwords b.length * 8 ≤ b.length + 7 := by unfold nwords; omega
  obtain ⟨i0, hi, hz0, hz1, hz2⟩ := info_parts info_int
  refine (callsIn_wide (n := 5)).1 ?_
  have hro : Fence.wide.round = none := rfl
  refine callsIn_of_wp_marks Try.func43 rfl trivial ?_ hro
  simp only [Try.ntmps43, List.size_toArray, List.length_cons, List.length_nil, Nat.reduceAdd, Nat.reduceSub, Array.replicate_succ, Array.replicate_zero, List.push_toArray, List.append_toArray, List.nil_append, List.cons_append]
  gi_wp2_with (refine ⟨trivial, ?_⟩; gi_at_call 57; refine (words_bytes_in Fence.wide (5 - 1) trivial rfl _ _ _ _).mono ?_; rintro e w' ⟨rfl, rfl⟩)
  have bS := Boxed.new w 22 (.slice none 0 0)
  have bN := Boxed.new (w.alloc (.cells #[.slice none 0 0] 22)) 29 (.slice A b.length c)
  rw [World.size_alloc] at bN
  have hB0 : Below w.heap.size w ((w.alloc (.cells #[.slice none 0 0] 22)).alloc (.cells #[.slice A b.length c] 29)) := ((Below.refl _ w).alloc (Nat.le_refl _) _).alloc (by simp) _
  refine wpIn_rangeFunc_ownG hro (by omega) (gf := 60) (lb := #[.pointer (some ⟨w.heap.size + 1, 0, none⟩)]) rfl trivial (enters_of Try.func60 (by kernel_rfl) rfl)
    (words_bytes_stops Fence.wide (5 - 1) trivial hro (by omega) (w.heap.size + 1) w.heap.size A c b hz hl hc hA _ (by simp) bN.cell (Kd.C_below hC hB0)) (fun h k => h.trans k) (KpB.keep (w := (w.alloc (.cells #[.slice none 0 0] 22)).alloc (.cells #[.slice A b.length c] 29)) (by simp; omega) (by simp)) (Below.refl _ _) (fun _ => rfl)
    (fun pre W => ((∃ v, Boxed W w.heap.size 22 v ∧ W.ownsRow w.heap.size 3 1 v pre.length (nums .i64 (i64s pre)) ∧ True) ∧ Boxed W (w.heap.size + 1) 29 (.slice A b.length c)) ∧ Below w.heap.size w W)
    (fun _ _ _ => False)
    (OwnFrom.and (OwnFrom.and (Own.from (holdsRow_own w.heap.size w.heap.size 22 3 1 (fun pre : List Int => pre.length) (fun pre => nums .i64 (i64s pre)) (fun _ _ => True)) _) (Own.from (boxed_own _ _ (fun _ => Value.slice A b.length c)) _)) (ownFrom_below (Nat.le_refl _) (by simp; omega)))
    (fun _ _ _ _ _ hs _ _ => hs)
    ⟨⟨⟨_, bS.alloc _, World.ownsRow_nil _ _ _ _, trivial⟩, bN⟩, hB0⟩
    (fun x => { tmps := #[.string s, .slice A b.length c, undef, undef, .int .u64 0, .pointer (some ⟨w.heap.size, 0, none⟩), .int .u64 x, .slice A b.length c, .func (.func 60) #[] #[.pointer (some ⟨w.heap.size + 1, 0, none⟩)], .int .u64 x, undef, undef, undef, undef, undef, undef, undef, undef, undef, undef, undef, undef], defers := [] }) ?assign ?body ?done ?stop
  case assign =>
    intro l x W K hK
    gi_wp2
    exact hK
  case body =>
    rintro l pre x W ⟨⟨⟨v, hv, hrow, _⟩, hbn⟩, hB⟩ hlt
    have hcell := hv.cell
    gi_wp2_with (gi_at_builtin; refine wpListIn_append_own _ rfl _ _ 22 rfl w.heap.size 3 i0 (.int .i64 0) 1 8 Try.underlying22 hi hz0 hz1 hz2 rfl (by decide) _ _ _ rfl (hrow.alloc _) ⟨W.heap.size, 0, none⟩ 1 1 [.int .i64 (wrap64 x)] rfl rfl (cell_one_new _ _ _) (by simp [Value.oneCell']) (by simp only [maxLen]; omega) (by omega) (by have := hB.size; simp; omega) ?_; intro v' w1 hown' hgrow _; obtain ⟨g', cap', rfl⟩ := ownsRow_succ hown'; have hbn1 := (hbn.alloc _).kept hgrow (hbn.not_row (by decide) hrow); obtain ⟨hv1, hv2, hr2, hk2, hb2⟩ := hv.appended (by decide) hrow hB.size (Nat.le_refl _) hown' hgrow; have hc1 := hv1.cell; have hf1 := hv1.frozen)
    exact ⟨hk2.from _, ⟨hb2, ((hbn1.other (by omega) _ : Boxed _ _ _ _) : _ = _).trans hbn.symm⟩, ⟨⟨_, hv2, by rw [i64s_snoc, nums_append, nums_one]; simpa using hr2, trivial⟩, hbn1.other (by omega) _⟩, hB.trans hb2⟩
  case done =>
    rintro D ys W hD rfl ⟨⟨⟨v, hv, hrow, _⟩, hbn⟩, hB⟩ hK
    have hcell := hv.cell
    have hyl : (wordsOf b).length * 8 ≤ b.length + 7 := by rw [wordsOf_length]; exact hnw
    gi_wp2_with (first
      | (gi_at_builtin; refine wpListIn_append_own _ rfl _ _ 22 rfl w.heap.size 3 i0 (.int .i64 0) 1 8 Try.underlying22 hi hz0 hz1 hz2 rfl (by decide) _ _ _ rfl (hrow.alloc _) ⟨W.heap.size, 0, none⟩ 1 1 [.int .i64 (b.length : Int)] rfl rfl (cell_one_new _ _ _) (by simp [Value.oneCell']) (by simp only [maxLen]; omega) (by omega) (by have := hB.size; simp; omega) ?_; intro v' w1 hown' hgrow _; obtain ⟨g', cap', rfl⟩ := ownsRow_succ hown')
      | (refine ⟨trivial, ?_⟩; gi_at_call 58; refine (callsIn_wide.2 (Sum_own s hs (bytesL b) (bytesL_length b).symm (by rw [bytesL_length]; omega) w1 (base := w.heap.size) (e := 3) (by rw [bytesL, nums_append, nums_one]; exact hown'))).mono ?_; rintro e w2 ⟨rfl, hB2⟩))
    have hK1 : w1.heap[D]? = some (.deferred (some [])) := (hgrow.block D (by have := (Array.getElem?_eq_some_iff.1 hK).1; simp; omega) (fun e => by
      obtain ⟨hb1, hb2⟩ := (hrow).lt D e.symm
      obtain ⟨cells, hcs⟩ := own_typed hrow D e.symm
      rw [hcs] at hK
      cases hK)).trans ((Below.heap_alloc W _ D (Array.getElem?_eq_some_iff.1 hK).1).trans hK)
    have hK2 : w2.heap[D]? = some (.deferred (some [])) := (hB2.block D (Array.getElem?_eq_some_iff.1 hK1).1).trans hK1
    refine ⟨by simp, .inl ⟨_, _, rfl, run_takeDeferred hK2, ?_⟩⟩
    refine ⟨_, results_tmp rfl _ _ _, rfl, ?_⟩
    have hB1 : Below w.heap.size w w1 := (hB.alloc hB.size _).grown hgrow (by have := hB.size; simp; omega) (fun k hk => (hrow.lt k hk).1)
    exact (hB1.trans (hB2.mono hB1.size)).trans (belowK_b (w := w) (Nat.le_refl _) _ D _ _ (by simp at hD; omega) hK2 rfl rfl)
  case stop =>
    rintro D c pre W _ _ h _
    exact h.elim

end Go.Proofs.Ytkkhpdbognaioaa.Hx

