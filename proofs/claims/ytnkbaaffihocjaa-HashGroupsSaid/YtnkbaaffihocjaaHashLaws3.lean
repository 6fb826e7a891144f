/- The walks of the laws HashOneWord, HashOneGroup, HashOneLabel, HashGroups: each returns true, whatever its arguments, and leaves what lay as it lay. -/
import Derived.Test.YtnkbaaffihocjaaHashLaws2
import Derived.Deep.RegionHeld3
import Derived.Deep.DrawnRows
namespace Go.Proofs.Ytnkbaaffihocjaa
set_option linter.unusedVariables false
set_option linter.unusedSimpArgs false
open Go.RowKit Go.Shelf Go.Proofs.YtnkbaaffihocjaaW.PrintWords Go.Proofs.YtnkbaaffihocjaaW.PrintLast Go.Proofs.YtnkbaaffihocjaaW.PrintMore

theorem Around_at (n most : Int) (k : Nat) (hk : Hid (aroundI n most = (k : Int))) (hn : (Lit.int .i64 n).wf = true) (hm : 1 ≤ most) (hm2 : most ≤ 9223372036854775807) (w : World) :
    Calls Try.prog 21 #[.int .i64 n, .int .i64 most] w fun e w' => e = .returned (.int .i64 (k : Int)) ∧ w = w' := by
  rw [← hk.out]
  exact Around_calls n most hn hm hm2 w
theorem around_name (n : Int) (m : Nat) (hm : 1 ≤ m) : ∃ k : Nat, Hid (aroundI n (m : Int) = (k : Int)) ∧ k < m := by
  have h := aroundI_range n (show (1 : Int) ≤ (m : Int) by omega)
  exact ⟨(aroundI n m).toNat, show _ = _ by omega, by omega⟩

theorem Sum_n (s : ByteArray) (hs : s.size ≤ 140737488351232) (A : Option Addr) (c n : Nat) (l : List Int) (hn : n = l.length) (hl : n ≤ 140737488351232) (w : World) (hC : (Kd.int .i64).C w A l.length l) (hc : n ≤ c) :
    Calls Try.prog 13 #[.string s, .slice A n c] w fun e w' => e = .returned (.int .u64 (sumI (bytesOf s) l)) ∧ Below w.heap.size w w' := by
  subst hn
  exact Sum_calls s hs A c l hl w hC hc
theorem Bytes_n (s : ByteArray) (hs : s.size ≤ 140737488351232) (A : Option Addr) (c n : Nat) (l : List Int) (hn : n = l.length) (hz : AllU8 l) (hl : n ≤ 140737488351232) (w : World) (hC : (Kd.int .u8).C w A l.length l) (hc : n ≤ c) :
    Calls Try.prog 17 #[.string s, .slice A n c] w fun e w' => e = .returned (.int .u64 (sumI (bytesOf s) (bytesL l))) ∧ Below w.heap.size w w' := by
  subst hn
  exact Bytes_calls s hs A c l hz hl w hC hc

/-- What is held of the world in a region that loads one cell. -/
def KeptCell (W : World) (a : Addr) (v : Value) (w' : World) : Prop := w'.cell? a = some v ∧ Below W.heap.size W w'
theorem KeptCell.of {W w' : World} {a : Addr} {v : Value} (h : W.cell? a = some v) (hB : Below W.heap.size W w') : w'.cell? a = some v ∧ Below W.heap.size W w' :=
  ⟨(hB.cell (World.block_lt_of_cell? W a h)).trans h, hB⟩

theorem keptB {W w' : World} {a : Addr} {v : Value} (h : w'.cell? a = some v ∧ Below W.heap.size W w') : Below W.heap.size W w' := h.2

set_option maxRecDepth 100000 in
set_option maxHeartbeats 4000000 in
theorem HashOneWord_walk (s : ByteArray) (a : Option Addr) (len cap : Nat) (zs : List Int) (at_ v : Int) (w : World) (hs : s.size ≤ 140737488351232) (hrow : IsRow .i64 w a len cap zs) (hlen : len * 8 ≤ 140737488351232) (hat : (Lit.int .i64 at_).wf = true) (hv : (Lit.int .i64 v).wf = true) :
    Calls Try.prog 5 #[.string s, .slice a len cap, .int .i64 at_, .int .i64 v] w fun e w' => e = .returned (.bool true) ∧ Below w.heap.size w w' := by
  obtain ⟨l, rfl, hc, hC, hwf⟩ := row_in hrow
  clear hrow
  have hsz := (shortS_size s 20).1
  obtain ⟨l9, Hl9, hl9, hl9', _⟩ := take_name l 9
  have hwf9 : ∀ x ∈ l9, (Lit.int .i64 x).wf = true := by
    have := Hl9.out
    subst this
    exact fun x hx => hwf x (List.mem_of_mem_take hx)
  clear hwf
  go_enter Try.func5, Try.ntmps5
  go_wp2_with fail
  refine (Short_calls s hs 20 (by omega) w).mono ?_
  rintro e w1 ⟨rfl, rfl⟩
  generalize shortS s 20 = s2 at *
  go_wp2_with fail
  refine (Ints_at a cap l 9 l9 Hl9 (by omega) hlen w hC hc).mono ?_
  rintro e w1 ⟨A1, c1, rfl, hc1, hR1, hB1⟩
  go_wp2_with (at_builtin; go_must (refine Kd.R_append (Kd.int .i64) (w0 := w) w.heap.size rfl _ _ 22 3 (.int .i64 0) 8 rfl Try.underlying22 info_int rfl (by decide) (by decide) (.slice A1 l9.length c1) l9 7 [.int .i64 7] (fun _ => True) (fun _ => False) rfl rfl rfl (fun _ h => h.elim) (fun _ _ => trivial) hR1 hB1 hB1.size (by omega) ?_; intro v1 w2 hR2 hB2 hg hat))
  have hwfa : ∀ x ∈ l9 ++ [7], (Lit.int .i64 x).wf = true := by
    intro x hx
    rcases List.mem_append.1 hx with h | h
    · exact hwf9 x h
    · rw [List.mem_singleton.1 h]; decide
  have hla9 : (l9 ++ [7]).length = l9.length + 1 := by simp
  generalize l9 ++ [7] = la at *
  have hla : la.length ≤ 10 := by rw [hla9]; omega
  have hla1 : 1 ≤ la.length := by rw [hla9]; omega
  clear hla9 hat
  obtain ⟨g1, cap1, rfl, hg1, hg1lt, _⟩ := Kd.R_form hR2 hla1
  obtain ⟨_, hcap1, hCa⟩ := Kd.R_reads' hR2
  obtain ⟨k, Hk, hk⟩ := around_name at_ la.length hla1
  go_wp2_with fail
  refine (Ints_at (some ⟨g1, 0, none⟩) cap1 la 10 la (List.take_of_length_le hla) (by omega) (by omega) w2 hCa hcap1).mono ?_
  rintro e w3 ⟨A3, c3, rfl, hc3, hR3, hB3⟩
  obtain ⟨g3, cap3, hA3, hg3, hg3lt, _⟩ := Kd.R_form hR3 hla1
  injection hA3 with hA3 _ hc3'
  subst hA3 hc3'
  go_wp2_with fail
  refine (Around_at at_ la.length k Hk ‹_› (by omega) (by omega) w3).mono ?_
  rintro e w3 ⟨rfl, rfl⟩
  have hk0 : (0 : Int) ≤ (k : Int) := by omega
  have hk1 : (k : Int) < (la.length : Int) := by omega
  have hown3 := Kd.own_of_R hR3
  have hcell3 : w3.cell? ⟨g3, k, none⟩ = some (.int .i64 la[k]) := by
    rw [hown3.cellAt k (by omega)]
    simp [encs, hk]
  have hfz3 := hown3.frozenAt k
  have hR4 := (Kd.R_put hR3 (k : Int) v).1
  rw [Int.toNat_natCast] at hR4
  have hB4 : Below w2.heap.size w2 (w3.setCell ⟨g3, k, none⟩ (.int .i64 v)) := hB3.setCell (p := ⟨g3, k, none⟩) hg3 _
  have hCa4 := Kd.C_below hCa hB4
  have hCb4 := (Kd.R_reads' hR4).2.2
  have hCb4l : Hid (la.length = (la.set k v).length) := (List.length_set ..).symm
  have hcella : (w3.setCell ⟨g3, k, none⟩ (.int .i64 v)).cell? ⟨g1, k, none⟩ = some (.int .i64 la[k]) := by
    have := (Kd.own_of_R hR2).cellAt k (by omega)
    rw [hB4.cell (World.block_lt_of_cell? w2 _ (by rw [this]; simp [encs, hk]; rfl)), this]
    simp [encs, hk]
  clear hown3 hR3 hR4 hR2
  go_wp2
  have hG : ((sumI (bytesOf s2) la == sumI (bytesOf s2) (la.set k v)) == (la[k] == v)) = true := by
    refine beq_beq ?_
    rw [eq_comm, sumI_set (bytesOf_u8 s2) (by rw [bytesOf_length]; omega) (by omega) hk, wrap_inj_i64 (wf_range hv) (wf_range (hwfa _ (List.getElem_mem hk))), eq_comm]
  generalize hW4 : w3.setCell ⟨g3, k, none⟩ (.int .i64 v) = W4 at *
  clear hcell3 hfz3 hW4
  go_region_held3 (fun w' => w'.cell? ⟨g1, k, none⟩ = some (.int .i64 la[k]) ∧ Below W4.heap.size W4 w')
    (first | exact KeptCell.of hcella (Below.refl _ _) | exact KeptCell.of hcella (Below.refl _ _).drew | (refine KeptCell.of hcella (bthen ?_ hB); first | exact (Below.refl _ _).drew | (refine keptB (a := ⟨g1, k, none⟩) (v := .int .i64 la[k]) ?_; assumption)))
    (first
      | (go_at_call_of 13 cap1; refine (Sum_calls s2 (by omega) _ cap1 la (by omega) _ ?_ hcap1).mono ?_; (first | exact Kd.C_drew hCa4 | (refine Kd.C_below hCa4 (keptB (a := ⟨g1, k, none⟩) (v := .int .i64 la[k]) ?_); assumption)); rintro e w' ⟨rfl, hB⟩)
      | (go_at_call_of 13 c3; refine (Sum_n s2 (by omega) _ c3 la.length (la.set k v) hCb4l.out (by omega) _ ?_ hc3).mono ?_; (first | exact Kd.C_drew hCb4 | (refine Kd.C_below hCb4 (keptB (a := ⟨g1, k, none⟩) (v := .int .i64 la[k]) ?_); assumption)); rintro e w' ⟨rfl, hB⟩)
      | (go_at_call 15; refine (lives_calls _).mono ?_; rintro e w' ⟨rfl, hB⟩))
  go_wp2
  go_ret
  refine ⟨rfl, bthen (bthen hB2 hB4) (keptB (a := ⟨g1, k, none⟩) (v := .int .i64 la[k]) ?_)⟩
  assumption

theorem xor_u8 {a b : Int} (ha : 0 ≤ a ∧ a < 256) (hb : 0 ≤ b ∧ b < 256) : 0 ≤ bits .xor .u8 a b ∧ bits .xor .u8 a b < 256 := by
  obtain ⟨m, rfl⟩ := Int.eq_ofNat_of_zero_le ha.1
  obtain ⟨n, rfl⟩ := Int.eq_ofNat_of_zero_le hb.1
  rw [u8_xor_nat m n (by omega) (by omega)]
  have := Nat.xor_lt_two_pow (n := 8) (show m < 2 ^ 8 by omega) (show n < 2 ^ 8 by omega)
  omega
theorem allU8_set {l : List Int} (hl : AllU8 l) (k : Nat) {v : Int} (hv : 0 ≤ v ∧ v < 256) : AllU8 (l.set k v) := by
  intro x hx
  rcases List.mem_or_eq_of_mem_set hx with h | h
  · exact hl x h
  · rw [h]; exact hv
theorem byte_of_wf {b : Int} (h : (Lit.int .u8 b).wf = true) : 0 ≤ b ∧ b < 256 := by
  simp [Lit.wf, IntKind.min, IntKind.max, IntKind.bits, IntKind.signed] at h
  omega
theorem group_set (x : List Int) (k : Nat) (v : Int) : Group x (x.set k v) (k / 8) :=
  ⟨List.length_set .., fun i hi => List.getElem?_set_ne (fun e => hi (by rw [e]))⟩
theorem group_set2 (x : List Int) (k : Nat) (v u : Int) (h : (k + 1) % 8 ≠ 0) : Group x ((x.set k v).set (k + 1) u) (k / 8) :=
  ⟨by simp, fun i hi => by rw [List.getElem?_set_ne (fun e => hi (by omega)), List.getElem?_set_ne (fun e => hi (by rw [e]))]⟩
theorem Same_n (A1 : Option Addr) (c1 n1 : Nat) (l1 : List Int) (A2 : Option Addr) (c2 n2 : Nat) (l2 : List Int) (w : World) (h1 : n1 = l1.length) (h2 : n2 = l2.length) (hC1 : (Kd.int .u8).C w A1 l1.length l1) (hC2 : (Kd.int .u8).C w A2 l2.length l2) (hl : n1 ≤ 140737488351232) :
    Calls Try.prog 22 #[.slice A1 n1 c1, .slice A2 n2 c2] w fun e w' => e = .returned (.bool (decide (l1 = l2))) ∧ Below w.heap.size w w' := by
  subst h1 h2
  exact (SameBytes_calls A1 c1 l1 A2 c2 l2 w hC1 hC2 hl).mono fun e w' h => ⟨h.1, h.2.below⟩
theorem decide_dec {α : Type} [DecidableEq α] {x y : α} {b : Bool} (h : b = decide (x = y)) : (b == decide (x = y)) = true := by rw [h]; simp

theorem group_guard {b : List Int} (hb : AllU8 b) (hbl : b.length ≤ 140737488351232) {x y : List Int} (hx : AllU8 x) (hy : AllU8 y) (hl : x.length ≤ 140737488351232) {g : Nat} (h : Group x y g) (hg : g < nwords x.length) :
    ((sumI b (bytesL x) == sumI b (bytesL y)) == decide (x = y)) = true := by
  have e := sumI_group hb hbl hx hy hl h hg
  have e2 : (sumI b (bytesL x) == sumI b (bytesL y)) = decide (x = y) := by
    rw [Bool.eq_iff_iff, beq_iff_eq, decide_eq_true_iff]
    exact ⟨fun h => (e.1 h.symm).symm, fun h => (e.2 h.symm).symm⟩
  rw [e2]; simp

set_option maxRecDepth 100000 in
set_option maxHeartbeats 4000000 in
theorem HashOneGroup_walk (s : ByteArray) (a : Option Addr) (len cap : Nat) (zs : List Int) (at_ one two : Int) (w : World) (hs : s.size ≤ 140737488351232) (hrow : IsRow .u8 w a len cap zs) (hlen : len * 1 ≤ 140737488351232) (hat : (Lit.int .i64 at_).wf = true) (hone : (Lit.int .u8 one).wf = true) (htwo : (Lit.int .u8 two).wf = true) :
    Calls Try.prog 6 #[.string s, .slice a len cap, .int .i64 at_, .int .u8 one, .int .u8 two] w fun e w' => e = .returned (.bool true) ∧ Below w.heap.size w w' := by
  obtain ⟨l, rfl, hc, hC, hwf⟩ := row_in hrow
  have hz := u8_of_wf hwf
  clear hrow hwf
  have hone := byte_of_wf hone
  have htwo := byte_of_wf htwo
  have hsz := (shortS_size s 20).1
  obtain ⟨l39, Hl39, hl39, hl39', hz39⟩ := take_name l 39
  have hz39 := hz39 hz
  go_enter Try.func6, Try.ntmps6
  go_wp2_with fail
  refine (Short_calls s hs 20 (by omega) w).mono ?_
  rintro e w1 ⟨rfl, rfl⟩
  generalize shortS s 20 = s2 at *
  go_wp2_with fail
  refine (Few_at a cap l 39 l39 Hl39 (by omega) (by omega) w hC hc).mono ?_
  rintro e w1 ⟨A1, c1, rfl, hc1, hR1, hB1⟩
  go_wp2_with (at_builtin; go_must (refine Kd.R_append (Kd.int .u8) (w0 := w) w.heap.size rfl _ _ 30 5 (.int .u8 0) 1 rfl Try.underlying30 info_u8 rfl (by decide) (by decide) (.slice A1 l39.length c1) l39 65 [.int .u8 65] (fun _ => True) (fun _ => False) rfl rfl rfl (fun _ h => h.elim) (fun _ _ => trivial) hR1 hB1 hB1.size (by omega) ?_; intro v1 w2 hR2 hB2 hg hat))
  have hzx : AllU8 (l39 ++ [65]) := by
    intro x hx
    rcases List.mem_append.1 hx with h | h
    · exact hz39 x h
    · rw [List.mem_singleton.1 h]; omega
  have hx39 : (l39 ++ [65]).length = l39.length + 1 := by simp
  generalize l39 ++ [65] = x at *
  have hx40 : x.length ≤ 40 := by rw [hx39]; omega
  have hx1 : 1 ≤ x.length := by rw [hx39]; omega
  clear hx39 hat
  obtain ⟨g1, cap1, rfl, hg1, hg1lt, _⟩ := Kd.R_form hR2 hx1
  obtain ⟨_, hcap1, hCx⟩ := Kd.R_reads' hR2
  obtain ⟨k, Hk, hk⟩ := around_name at_ x.length hx1
  go_wp2_with fail
  refine (Few_at (some ⟨g1, 0, none⟩) cap1 x 40 x (List.take_of_length_le hx40) (by omega) (by omega) w2 hCx hcap1).mono ?_
  rintro e w3 ⟨A3, c3, rfl, hc3, hR3, hB3⟩
  obtain ⟨g3, cap3, hA3, hg3, hg3lt, _⟩ := Kd.R_form hR3 hx1
  injection hA3 with hA3 _ hc3'
  subst hA3 hc3'
  go_wp2_with fail
  refine (Around_at at_ x.length k Hk ‹_› (by omega) (by omega) w3).mono ?_
  rintro e w3 ⟨rfl, rfl⟩
  have hk0 : (0 : Int) ≤ (k : Int) := by omega
  have hk1 : (k : Int) < (x.length : Int) := by omega
  have hown3 := Kd.own_of_R hR3
  have hcell3 : w3.cell? ⟨g3, k, none⟩ = some (.int .u8 x[k]) := by
    rw [hown3.cellAt k (by omega)]
    simp [encs, hk]
  have hfz3 := hown3.frozenAt k
  obtain ⟨v, hv⟩ : ∃ v, v = bits .xor .u8 x[k] one := ⟨_, rfl⟩
  have hvr : 0 ≤ v ∧ v < 256 := by rw [hv]; exact xor_u8 (hzx _ (List.getElem_mem hk)) hone
  have hR4 := (Kd.R_put hR3 (k : Int) v).1
  rw [Int.toNat_natCast] at hR4
  have hB4 : Below w2.heap.size w2 (w3.setCell ⟨g3, k, none⟩ (.int .u8 v)) := hB3.setCell (p := ⟨g3, k, none⟩) hg3 _
  have hzy := allU8_set hzx k hvr
  have hgy := group_set x k v
  have hown4 := Kd.own_of_R hR4
  rw [List.length_set] at hown4
  have hfz4 := hown4.frozenAt (k + 1)
  have Hv := Lib.hid hv
  clear hv
  have hb0 : (bytesOf s2).length ≤ 140737488351232 := by rw [bytesOf_length]; omega
  have hgk : k / 8 < nwords x.length := by unfold nwords; omega
  by_cases c1 : k + 1 < x.length ∧ (k + 1) % 8 ≠ 0
  · obtain ⟨d1, d2⟩ := c1
    have d3 : (((k : Int) + 1) % 8 != 0) = true := bne_iff_ne.mpr (by omega)
    have d4 : (((k : Int) + 1) % 8 == 0) = false := beq_eq_false_iff_ne.mpr (by omega)
    have d5 : (k : Int) + 1 < (x.length : Int) := by omega
    obtain ⟨y1, hy1⟩ : ∃ y1, y1 = (x.set k v)[k + 1]'(by simp; omega) := ⟨_, rfl⟩
    have hcell4 : (w3.setCell ⟨g3, k, none⟩ (.int .u8 v)).cell? ⟨g3, k + 1, none⟩ = some (.int .u8 y1) := by
      rw [hown4.cellAt (k + 1) (by omega), hy1]
      simp [encs, d1]
    have hy1r : 0 ≤ y1 ∧ y1 < 256 := by rw [hy1]; exact hzy _ (List.getElem_mem _)
    clear hy1
    obtain ⟨u, hu⟩ : ∃ u, u = bits .xor .u8 y1 two := ⟨_, rfl⟩
    have hur : 0 ≤ u ∧ u < 256 := by rw [hu]; exact xor_u8 hy1r htwo
    have Hu := Lib.hid hu
    clear hu
    have hR4' : (Kd.int .u8).R 5 (w3.setCell ⟨g3, k, none⟩ (.int .u8 v)) w2.heap.size (fun _ => True) (.slice (some ⟨g3, 0, none⟩) (x.set k v).length c3) (x.set k v) := by rw [List.length_set]; exact hR4
    have hR5 := (Kd.R_put hR4' ((k + 1 : Nat) : Int) u).1
    rw [Int.toNat_natCast] at hR5
    have hB5 := hB4.setCell (p := ⟨g3, k + 1, none⟩) hg3 (.int .u8 u)
    have hzy2 := allU8_set hzy (k + 1) hur
    have hgy2 := group_set2 x k v u d2
    have hy2l : Hid (x.length = ((x.set k v).set (k + 1) u).length) := by show _ = _; simp
    clear hR3 hR4 hR4' hown3 hown4 hzy hgy
    rw [Hv.out] at hcell4 hfz4
    go_wp2_with fail
    rw [← Hv.out, ← Hu.out]
    generalize (x.set k v).set (k + 1) u = y at *
    generalize (w3.setCell ⟨g3, k, none⟩ (.int .u8 v)).setCell ⟨g3, k + 1, none⟩ (.int .u8 u) = W5 at *
    have hCx5 := Kd.C_below hCx hB5
    have hCy5 := (Kd.R_reads' hR5).2.2
    have hG := group_guard (bytesOf_u8 s2) hb0 hzx hzy2 (by omega) hgy2 hgk
    refine (Bytes_n s2 (by omega) _ cap1 x.length x rfl hzx (by omega) W5 hCx5 hcap1).mono ?_
    rintro e w6 ⟨rfl, hB6⟩
    go_wp2_with fail
    refine (Bytes_n s2 (by omega) _ c3 x.length y hy2l.out hzy2 (by omega) w6 (Kd.C_below hCy5 hB6) hc3).mono ?_
    rintro e w7 ⟨rfl, hB7⟩
    go_wp2_with fail
    refine (Same_n _ cap1 x.length x _ c3 x.length y w7 rfl hy2l.out (Kd.C_below (Kd.C_below hCx5 hB6) hB7) (Kd.C_below (Kd.C_below hCy5 hB6) hB7) (by omega)).mono ?_
    rintro e w8 ⟨rfl, hB8⟩
    go_wp2_with fail
    refine (lives_calls w8).mono ?_
    rintro e w9 ⟨rfl, hB9⟩
    go_wp2
    go_ret
    exact ⟨rfl, bthen (bthen (bthen (bthen (bthen (bthen hB2 (by exact ‹Below w2.heap.size w2 W5›)) hB6) hB7) hB8) hB9) (Below.refl _ _)⟩
  · have hy2l : Hid (x.length = (x.set k v).length) := by show _ = _; simp
    have hB5 := hB4
    have hzy2 := hzy
    have hgy2 := hgy
    have hR5 : (Kd.int .u8).R 5 (w3.setCell ⟨g3, k, none⟩ (.int .u8 v)) w2.heap.size (fun _ => True) (.slice (some ⟨g3, 0, none⟩) (x.set k v).length c3) (x.set k v) := by rw [List.length_set]; exact hR4
    clear hR3 hR4 hown3 hown4 hzy hgy hB4
    by_cases d1 : k + 1 < x.length
    · have d2 : (k + 1) % 8 = 0 := by
        rcases Nat.eq_zero_or_pos ((k + 1) % 8) with h | h
        · exact h
        · exact absurd ⟨d1, by omega⟩ c1
      have d3 : (((k : Int) + 1) % 8 != 0) = false := bne_eq_false_iff_eq.mpr (by omega)
      have d4 : (((k : Int) + 1) % 8 == 0) = true := beq_iff_eq.mpr (by omega)
      have d5 : (k : Int) + 1 < (x.length : Int) := by omega
      clear d2
      go_wp2_with fail
      rw [← Hv.out]
      generalize x.set k v = y at *
      generalize w3.setCell ⟨g3, k, none⟩ (.int .u8 v) = W5 at *
      have hCx5 := Kd.C_below hCx hB5
      have hCy5 := (Kd.R_reads' hR5).2.2
      have hG := group_guard (bytesOf_u8 s2) hb0 hzx hzy2 (by omega) hgy2 hgk
      refine (Bytes_n s2 (by omega) _ cap1 x.length x rfl hzx (by omega) W5 hCx5 hcap1).mono ?_
      rintro e w6 ⟨rfl, hB6⟩
      go_wp2_with fail
      refine (Bytes_n s2 (by omega) _ c3 x.length y hy2l.out hzy2 (by omega) w6 (Kd.C_below hCy5 hB6) hc3).mono ?_
      rintro e w7 ⟨rfl, hB7⟩
      go_wp2_with fail
      refine (Same_n _ cap1 x.length x _ c3 x.length y w7 rfl hy2l.out (Kd.C_below (Kd.C_below hCx5 hB6) hB7) (Kd.C_below (Kd.C_below hCy5 hB6) hB7) (by omega)).mono ?_
      rintro e w8 ⟨rfl, hB8⟩
      go_wp2_with fail
      refine (lives_calls w8).mono ?_
      rintro e w9 ⟨rfl, hB9⟩
      go_wp2
      go_ret
      exact ⟨rfl, bthen (bthen (bthen (bthen (bthen (bthen hB2 (by exact ‹Below w2.heap.size w2 W5›)) hB6) hB7) hB8) hB9) (Below.refl _ _)⟩
    · have d5 : decide ((k : Int) + 1 < (x.length : Int)) = false := decide_eq_false (by omega)
      go_wp2_with fail
      rw [← Hv.out]
      generalize x.set k v = y at *
      generalize w3.setCell ⟨g3, k, none⟩ (.int .u8 v) = W5 at *
      have hCx5 := Kd.C_below hCx hB5
      have hCy5 := (Kd.R_reads' hR5).2.2
      have hG := group_guard (bytesOf_u8 s2) hb0 hzx hzy2 (by omega) hgy2 hgk
      refine (Bytes_n s2 (by omega) _ cap1 x.length x rfl hzx (by omega) W5 hCx5 hcap1).mono ?_
      rintro e w6 ⟨rfl, hB6⟩
      go_wp2_with fail
      refine (Bytes_n s2 (by omega) _ c3 x.length y hy2l.out hzy2 (by omega) w6 (Kd.C_below hCy5 hB6) hc3).mono ?_
      rintro e w7 ⟨rfl, hB7⟩
      go_wp2_with fail
      refine (Same_n _ cap1 x.length x _ c3 x.length y w7 rfl hy2l.out (Kd.C_below (Kd.C_below hCx5 hB6) hB7) (Kd.C_below (Kd.C_below hCy5 hB6) hB7) (by omega)).mono ?_
      rintro e w8 ⟨rfl, hB8⟩
      go_wp2_with fail
      refine (lives_calls w8).mono ?_
      rintro e w9 ⟨rfl, hB9⟩
      go_wp2
      go_ret
      exact ⟨rfl, bthen (bthen (bthen (bthen (bthen (bthen hB2 (by exact ‹Below w2.heap.size w2 W5›)) hB6) hB7) hB8) hB9) (Below.refl _ _)⟩

end Go.Proofs.Ytnkbaaffihocjaa
