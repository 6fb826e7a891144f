/- The walks of the laws HashGroups and HashOneLabel: each returns true, whatever its arguments, and leaves what lay as it lay. -/
import Derived.Test.YtnkbaaffihocjaaHashLaws3
namespace Go.Proofs.Ytnkbaaffihocjaa
set_option linter.unusedVariables false
set_option linter.unusedSimpArgs false
open Go.RowKit Go.Shelf Go.Proofs.YtnkbaaffihocjaaW.PrintWords Go.Proofs.YtnkbaaffihocjaaW.PrintLast Go.Proofs.YtnkbaaffihocjaaW.PrintMore

set_option maxRecDepth 100000 in
set_option maxHeartbeats 4000000 in
theorem HashGroups_walk (s : ByteArray) (a : Option Addr) (len cap : Nat) (zs : List Int) (w : World) (hs : s.size ≤ 140737488351232) (hrow : IsRow .u8 w a len cap zs) (hlen : len * 1 ≤ 140737488351232) :
    Calls Try.prog 8 #[.string s, .slice a len cap] w fun e w' => e = .returned (.bool true) ∧ Below w.heap.size w w' := by
  obtain ⟨l, rfl, hc, hC, hwf⟩ := row_in hrow
  have hz := u8_of_wf hwf
  clear hrow hwf
  have hsz := (shortS_size s 20).1
  obtain ⟨x, Hx, hx60, _, hzx⟩ := take_name l 60
  have hzx := hzx hz
  go_enter Try.func8, Try.ntmps8
  go_wp2_with fail
  refine (Short_calls s hs 20 (by omega) w).mono ?_
  rintro e w1 ⟨rfl, rfl⟩
  generalize shortS s 20 = s2 at *
  go_wp2_with fail
  refine (Few_at a cap l 60 x Hx (by omega) (by omega) w hC hc).mono ?_
  rintro e w1 ⟨A1, c1, rfl, hc1, hR1, hB1⟩
  have hC1 := (Kd.R_reads' hR1).2.2
  clear hR1
  go_wp2_with fail
  refine (Words_calls A1 c1 x hzx (by omega) w1 hC1 hc1).mono ?_
  rintro e w2 ⟨v2, rfl, hR2, hB2⟩
  obtain ⟨A2, c2, rfl, hc2, hC2⟩ := Kd.R_reads hR2
  clear hR2
  have hwl : (wordsOf x).length ≤ nwords x.length := by rw [wordsOf_length]; exact Nat.le_refl _
  have hnw : nwords x.length ≤ 8 := by unfold nwords; omega
  go_wp2
  go_loopw [8, 9] (fun v i wr => ∃ k : Nat, k ≤ (wordsOf x).length ∧ i = .int .i64 (k : Int) ∧ (Kd.int .i64).R 3 wr w2.heap.size (fun _ => True) v (i64s ((wordsOf x).take k)) ∧ Below w2.heap.size w2 wr) (fun _ i _ => (wordsOf x).length - (intOf i).toNat)
  case atStart => exact ⟨0, Nat.zero_le _, rfl, Kd.R_nil _ _ _ _ _, Below.refl _ _⟩
  case round =>
    obtain ⟨k, hk, rfl, hR, hB⟩ := hrel
    have hkl : (i64s ((wordsOf x).take k)).length = k := by rw [i64s_length, List.length_take]; omega
    have Hkl := Lib.hid hkl
    clear hkl
    by_cases hlt : k < (wordsOf x).length
    · obtain ⟨ad, e0, hcell0⟩ := at_nat hC2 hlt
      cases e0
      rw [← getD_get _ hlt] at hcell0
      have hcell := (hB.cell (World.block_lt_of_cell? w2 _ hcell0)).trans hcell0
      clear hcell0
      go_wp2_with (at_builtin; go_must (refine Kd.R_append (Kd.int .i64) (w0 := w2) w2.heap.size rfl _ _ 22 3 (.int .i64 0) 8 rfl Try.underlying22 info_int rfl (by decide) (by decide) u8 (i64s ((wordsOf x).take k)) (wrap64 (wordsOf x)[k]) [.int .i64 (wrap64 (wordsOf x)[k])] (fun _ => True) (fun _ => False) rfl rfl rfl (fun _ h => h.elim) (fun _ _ => trivial) hR hB hB.size (by rw [Hkl.out]; omega) ?_; intro v1 w3 ho hb hg hat))
      go_roundw
      case rel => exact ⟨k + 1, by omega, by go_num, by rw [List.take_succ_eq_append_getElem hlt, i64s_snoc]; exact ho, hb⟩
      case measure => simp [intOf]; omega
    · obtain rfl : k = (wordsOf x).length := by omega
      rw [List.take_of_length_le (Nat.le_refl _)] at hR Hkl
      have hB12 : Below w.heap.size w wr := bthen (bthen hB1 hB2) hB
      have hC1r := Kd.C_below (Kd.C_below hC1 hB2) hB
      obtain ⟨Aw, cw, hvw, _, hCw⟩ := Kd.R_reads hR
      rw [Hkl.out] at hvw
      subst hvw
      go_wp2_with fail
      refine (Bytes_calls s2 (by omega) A1 c1 x hzx (by omega) wr hC1r hc1).mono ?_
      rintro e w4 ⟨rfl, hB4⟩
      have hR4 := Kd.R_below hR hB4
      go_wp2_with (at_builtin; go_must (refine Kd.R_append (Kd.int .i64) (w0 := w4) w2.heap.size rfl _ _ 22 3 (.int .i64 0) 8 rfl Try.underlying22 info_int rfl (by decide) (by decide) (.slice Aw (wordsOf x).length cw) (i64s (wordsOf x)) (x.length : Int) [.int .i64 (x.length : Int)] (fun _ => True) (fun _ => False) rfl rfl rfl (fun _ h => h.elim) (fun _ _ => trivial) hR4 (Below.refl _ _) (Nat.le_trans hB.size hB4.size) (by rw [Hkl.out]; omega) ?_; intro v1 w5 hR5 hB5 hg hat; obtain ⟨A5, c5, hv5, hc5, hC5⟩ := Kd.R_reads hR5; rw [bytesL_len x] at hv5 hc5; subst hv5; clear hat))
      have hB25 : Below w2.heap.size w2 w5 := (hB.trans (hB4.mono hB.size)).trans hB5
      have hC15 := Kd.C_below (Kd.C_below hC1 hB2) hB25
      have hB15 : Below w.heap.size w w5 := bthen (bthen hB1 hB2) hB25
      clear hB5 hR5 hR4 hB12 hC1r hB4 hC2 hR hB hCw
      refine (Sum_n s2 (by omega) A5 c5 _ (bytesL x) (bytesL_length x).symm (by omega) w5 hC5 hc5).mono ?_
      rintro e w6 ⟨rfl, hB6⟩
      go_wp2_with fail
      refine (Few_at A1 c1 x 60 x (List.take_of_length_le hx60) (by omega) (by omega) w6 (Kd.C_below hC15 hB6) hc1).mono ?_
      rintro e w7 ⟨A7, c7, rfl, hc7, hR7, hB7⟩
      have hw9 := hC15
      have hC16 := Kd.C_below hC15 hB6
      clear hC15 hw9
      by_cases h8 : x.length % 8 = 0
      · have d1 : ((x.length : Int) % 8 == 0) = true := beq_iff_eq.mpr (by omega)
        clear h8
        go_wp2_with (at_builtin; go_must (refine Kd.R_append (Kd.int .u8) (w0 := w6) w6.heap.size rfl _ _ 30 5 (.int .u8 0) 1 rfl Try.underlying30 info_u8 rfl (by decide) (by decide) (.slice A7 x.length c7) x 0 [.int .u8 0] (fun _ => True) (fun _ => False) rfl rfl rfl (fun _ h => h.elim) (fun _ _ => trivial) hR7 hB7 hB7.size (by omega) ?_; intro v1 w8 hR8 hB8 hg hat; obtain ⟨A8, c8, hv8, hc8, hC8⟩ := Kd.R_reads hR8; rw [List.length_append, List.length_singleton] at hv8 hc8; subst hv8; clear hat))
        refine (lives_calls w8).mono ?_
        rintro e w9 ⟨rfl, hB9⟩
        go_wp2
        go_ret
        exact ⟨rfl, bthen (bthen (bthen hB15 hB6) hB8) hB9⟩
      · have d1 : ((x.length : Int) % 8 == 0) = false := beq_eq_false_iff_ne.mpr (by omega)
        have hne := bytes_zero (bytesOf_u8 s2) (by rw [bytesOf_length]; omega) (show x.length ≤ 140737488351231 by omega) h8
        have d2 : (sumI (bytesOf s2) (bytesL (x ++ [0])) != sumI (bytesOf s2) (bytesL x)) = true := bne_iff_ne.mpr hne
        have hzx0 : AllU8 (x ++ [0]) := by
          intro y hy
          rcases List.mem_append.1 hy with h | h
          · exact hzx y h
          · rw [List.mem_singleton.1 h]; omega
        clear h8 hne
        go_wp2_with (at_builtin; go_must (refine Kd.R_append (Kd.int .u8) (w0 := w6) w6.heap.size rfl _ _ 30 5 (.int .u8 0) 1 rfl Try.underlying30 info_u8 rfl (by decide) (by decide) (.slice A7 x.length c7) x 0 [.int .u8 0] (fun _ => True) (fun _ => False) rfl rfl rfl (fun _ h => h.elim) (fun _ _ => trivial) hR7 hB7 hB7.size (by omega) ?_; intro v1 w8 hR8 hB8 hg hat; obtain ⟨A8, c8, hv8, hc8, hC8⟩ := Kd.R_reads hR8; rw [List.length_append, List.length_singleton] at hv8 hc8; subst hv8; clear hat))
        refine (Bytes_n s2 (by omega) A8 c8 _ (x ++ [0]) (by simp) hzx0 (by omega) w8 hC8 hc8).mono ?_
        rintro e w9 ⟨rfl, hB9⟩
        go_wp2_with fail
        refine (Bytes_calls s2 (by omega) A1 c1 x hzx (by omega) w9 (Kd.C_below (Kd.C_below hC16 hB8) hB9) hc1).mono ?_
        rintro e w10 ⟨rfl, hB10⟩
        go_wp2_with fail
        refine (lives_calls w10).mono ?_
        rintro e w11 ⟨rfl, hB11⟩
        go_wp2
        go_ret
        exact ⟨rfl, bthen (bthen (bthen (bthen (bthen hB15 hB6) hB8) hB9) hB10) hB11⟩

theorem xor_zero_iff {a b : Int} (ha : 0 ≤ a ∧ a < 256) (hb : 0 ≤ b ∧ b < 256) : bits .xor .u8 a b = a ↔ b = 0 := by
  obtain ⟨m, rfl⟩ := Int.eq_ofNat_of_zero_le ha.1
  obtain ⟨n, rfl⟩ := Int.eq_ofNat_of_zero_le hb.1
  rw [u8_xor_nat m n (by omega) (by omega)]
  constructor
  · intro h
    have h1 : m ^^^ n = m := by exact_mod_cast h
    have h2 : m ^^^ n = m ^^^ 0 := by rw [h1, Nat.xor_zero]
    have := xor_inj_right h2
    omega
  · intro h
    have : n = 0 := by omega
    rw [this, Nat.xor_zero]
theorem bytesOf_nums {l : List Int} (h : AllU8 l) : bytesOf (strOfNums l) = l := by
  unfold bytesOf
  rw [strOfNums_data, List.map_map]
  conv => rhs; rw [← List.map_id l]
  apply List.map_congr_left
  intro x hx
  have := h x hx
  simp
  omega

set_option maxRecDepth 100000 in
set_option maxHeartbeats 4000000 in
theorem HashOneLabel_walk (s : ByteArray) (a : Option Addr) (len cap : Nat) (zs : List Int) (at_ by_ : Int) (w : World) (hs : s.size ≤ 140737488351232) (hrow : IsRow .i64 w a len cap zs) (hlen : len * 8 ≤ 140737488351232) (hat : (Lit.int .i64 at_).wf = true) (hby : (Lit.int .u8 by_).wf = true) :
    Calls Try.prog 7 #[.string s, .slice a len cap, .int .i64 at_, .int .u8 by_] w fun e w' => e = .returned (.bool true) ∧ Below w.heap.size w w' := by
  obtain ⟨l, rfl, hc, hC, _⟩ := row_in hrow
  clear hrow
  have hby := byte_of_wf hby
  have hsz := (shortS_size s 29)
  obtain ⟨l6, Hl6, hl6, _, _⟩ := take_name l 6
  have kb := fun s W => print_bytes (P := Try.prog) 9 30 5 Try.underlying9 Try.underlying30 Try.underlying5 s W
  go_enter Try.func7, Try.ntmps7
  go_wp2_with fail
  refine (Ints_at a cap l 6 l6 Hl6 (by omega) hlen w hC hc).mono ?_
  rintro e w1 ⟨A1, c1, rfl, hc1, hR1, hB1⟩
  have hC1 := (Kd.R_reads' hR1).2.2
  clear hR1
  go_wp2_with fail
  refine (Short_calls s hs 29 (by omega) w1).mono ?_
  rintro e w1 ⟨rfl, rfl⟩
  generalize shortS s 29 = s2 at *
  go_wp2_with fail
  have hx0 : (bytesOf (s2 ++ ⟨#[120]⟩)).length = s2.size + 1 := by rw [bytesOf_length, ByteArray.size_append]; rfl
  have hCx : (Kd.int .u8).C (Lib.bytesWorld w1 5 (s2 ++ ⟨#[120]⟩)) (some ⟨w1.heap.size, 0, none⟩) (bytesOf (s2 ++ ⟨#[120]⟩)).length (bytesOf (s2 ++ ⟨#[120]⟩)) := by
    rw [bytesOf_length]
    exact Kd.C_of_reads (d := (0 : Int)) (h1 := fun _ => rfl) (bytes_reads w1 5 _ (by rw [ByteArray.size_append]; show s2.size + 1 ≤ _; omega))
  have hbx := bytes_below (Below.refl w1.heap.size w1) (Nat.le_refl _) 5 (s2 ++ ⟨#[120]⟩)
  have hlt1 : w1.heap.size < (Lib.bytesWorld w1 5 (s2 ++ ⟨#[120]⟩)).heap.size := by rw [Lib.bytesWorld_size]; omega
  have hcx := grownCap_ge w1 (s2.size + 1) 0 5
  have hzx := bytesOf_u8 (s2 ++ ⟨#[120]⟩)
  rw [← hx0] at hcx ⊢
  clear kb
  generalize bytesOf (s2 ++ ⟨#[120]⟩) = x at *
  generalize Lib.bytesWorld w1 5 (s2 ++ ⟨#[120]⟩) = w2 at *
  generalize grownCap w1 x.length 0 5 = cx at *
  have hx30 : x.length ≤ 30 := by omega
  have hx1 : 1 ≤ x.length := by omega
  clear hx0 hsz
  obtain ⟨k, Hk, hk⟩ := around_name at_ x.length hx1
  refine (Few_at (some ⟨w1.heap.size, 0, none⟩) cx x 30 x (List.take_of_length_le hx30) (by omega) (by omega) w2 hCx hcx).mono ?_
  rintro e w3 ⟨A3, c3, rfl, hc3, hR3, hB3⟩
  obtain ⟨g3, cap3, hA3, hg3, hg3lt, _⟩ := Kd.R_form hR3 hx1
  injection hA3 with hA3 _ hc3'
  subst hA3 hc3'
  go_wp2_with fail
  refine (Around_at at_ x.length k Hk ‹_› (by omega) (by omega) w3).mono ?_
  rintro e w3 ⟨rfl, rfl⟩
  have hk0 : (0 : Int) ≤ (k : Int) := by omega
  have hk1 : (k : Int) < (x.length : Int) := by omega
  have hown3 := Kd.own_of_R hR3
  have hcell3 : w3.cell? ⟨g3, k, none⟩ = some (.int .u8 x[k]) := by
    rw [hown3.cellAt k (by omega)]
    simp [encs, hk]
  have hfz3 := hown3.frozenAt k
  obtain ⟨v, hv⟩ : ∃ v, v = bits .xor .u8 x[k] by_ := ⟨_, rfl⟩
  have hvr : 0 ≤ v ∧ v < 256 := by rw [hv]; exact xor_u8 (hzx _ (List.getElem_mem hk)) hby
  have hve : v = x[k] ↔ by_ = 0 := by rw [hv]; exact xor_zero_iff (hzx _ (List.getElem_mem hk)) hby
  have hR4 := (Kd.R_put hR3 (k : Int) v).1
  rw [Int.toNat_natCast] at hR4
  have hB4 : Below w2.heap.size w2 (w3.setCell ⟨g3, k, none⟩ (.int .u8 v)) := hB3.setCell (p := ⟨g3, k, none⟩) hg3 _
  have hzy := allU8_set hzx k hvr
  have hgy := group_set x k v
  have hC4 := (Kd.R_reads' hR4).2.2
  rw [List.length_set] at hC4
  have hB14 : Below w.heap.size w (w3.setCell ⟨g3, k, none⟩ (.int .u8 v)) := bthen hB1 (hbx.trans (hB4.mono hbx.size))
  have hC14 := Kd.C_below hC1 (hbx.trans (hB4.mono hbx.size))
  have hCx4 := Kd.C_below hCx hB4
  have hyx : x.set k v = x ↔ by_ = 0 := by
    rw [← hve]
    constructor
    · intro h
      have h2 := congrArg (fun l => l[k]?) h
      simp only [List.getElem?_set_self hk, List.getElem?_eq_getElem hk] at h2
      exact Option.some.inj h2
    · intro h; rw [h, List.set_getElem_self]
  have hgk : k / 8 < nwords x.length := by unfold nwords; omega
  have hG : ((sumI (bytesOf (strOfNums x)) l6 == sumI (bytesOf (strOfNums (x.set k v))) l6) == (by_ == 0)) = true := by
    rw [bytesOf_nums hzx, bytesOf_nums hzy]
    refine beq_beq ?_
    rw [← hyx, ← sumI_label hzx hzy (by omega) (show l6.length ≤ _ by omega) hgy hgk, eq_comm]
  have hsz1 : (strOfNums x).size ≤ 30 := by rw [strOfNums_size]; exact hx30
  have hsz2 : (strOfNums (x.set k v)).size ≤ 30 := by rw [strOfNums_size, List.length_set]; exact hx30
  have Hv := Lib.hid hv
  clear hv hve hyx hgy hzy hown3 hR3 hR4 hB4 hCx hbx
  go_wp2
  rw [← Hv.out]
  generalize hsx : strOfNums x = sx at *
  generalize hsy : strOfNums (x.set k v) = sy at *
  generalize hW4 : w3.setCell ⟨g3, k, none⟩ (.int .u8 v) = W4 at *
  have keepS : ∀ w', Below W4.heap.size W4 w' → (convert 30 9 (.slice (some ⟨w1.heap.size, 0, none⟩) x.length cx)).run Try.prog w' = .ok (.string sx) w' ∧ (convert 30 9 (.slice (some ⟨g3, 0, none⟩) x.length c3)).run Try.prog w' = .ok (.string sy) w' ∧ Below W4.heap.size W4 w' := by
    intro w' hB
    rw [← hsx, ← hsy]
    exact ⟨Kd.C_string Try.underlying30 Try.underlying5 Try.underlying9 (Kd.C_below hCx4 hB), Kd.C_string Try.underlying30 Try.underlying5 Try.underlying9 (Kd.C_below hC4 hB), hB⟩
  have KeepS := Lib.hid keepS
  clear hsx hsy keepS hcell3 hfz3
  go_region_held3 (fun w' => (convert 30 9 (.slice (some ⟨w1.heap.size, 0, none⟩) x.length cx)).run Try.prog w' = .ok (.string sx) w' ∧ (convert 30 9 (.slice (some ⟨g3, 0, none⟩) x.length c3)).run Try.prog w' = .ok (.string sy) w' ∧ Below W4.heap.size W4 w')
    (first | exact KeepS.out _ (Below.refl _ _) | exact KeepS.out _ (Below.refl _ _).drew | (refine KeepS.out _ (bthen ?_ hB); first | exact (Below.refl _ _).drew | (apply And.right; apply And.right; assumption)))
    (first
      | (go_at_call_of 13 sx; refine (Sum_calls sx (by omega) A1 c1 l6 (by omega) _ ?_ hc1).mono ?_; (first | exact Kd.C_drew hC14 | (refine Kd.C_below hC14 ?_; apply And.right; apply And.right; assumption)); rintro e w' ⟨rfl, hB⟩)
      | (go_at_call_of 13 sy; refine (Sum_calls sy (by omega) A1 c1 l6 (by omega) _ ?_ hc1).mono ?_; (first | exact Kd.C_drew hC14 | (refine Kd.C_below hC14 ?_; apply And.right; apply And.right; assumption)); rintro e w' ⟨rfl, hB⟩)
      | (go_at_call 15; refine (lives_calls _).mono ?_; rintro e w' ⟨rfl, hB⟩))
  go_wp2
  go_ret
  refine ⟨rfl, bthen hB14 ?_⟩
  apply And.right; apply And.right; assumption

end Go.Proofs.Ytnkbaaffihocjaa
