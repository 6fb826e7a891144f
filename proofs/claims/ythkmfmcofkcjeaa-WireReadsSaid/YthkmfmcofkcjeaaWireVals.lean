/- The contract of the reference model's Vals: up to 8 values of all kinds. -/
import Derived.Test.YthkmfmcofkcjeaaWireEnc
import Derived.Deep.RegionLaw
namespace Go.Proofs.Ythkmfmcofkcjeaa
set_option linter.unusedVariables false
set_option linter.unusedSimpArgs false
open Go.RowKit Go.Shelf Go.Proofs.YthkmfmcofkcjeaaW.PrintWords Go.Proofs.YthkmfmcofkcjeaaW.PrintLast Go.Proofs.YthkmfmcofkcjeaaW.PrintMore

theorem wf_of_range {n : Int} (h : -9223372036854775808 ≤ n ∧ n ≤ 9223372036854775807) : (Lit.int .i64 n).wf = true := by
  simp [Lit.wf, IntKind.min, IntKind.max, IntKind.bits, IntKind.signed]
  omega
theorem tdiv_range {x : Int} (k : Int) (h : I64 x) : -9223372036854775808 ≤ x.tdiv k ∧ x.tdiv k ≤ 9223372036854775808 := by
  have := Int.natAbs_tdiv_le_natAbs x k
  have h1 := h.1
  have h2 := h.2
  omega
theorem shr_i64 {x : Int} (n : Nat) (h : I64 x) : I64 (x / 2 ^ n) := by
  have hp : (1 : Int) ≤ 2 ^ n := by have := Int.pow_pos (n := 2) (m := n) (by decide); omega
  have h1 := h.1
  have h2 := h.2
  constructor
  · by_cases h0 : 0 ≤ x
    · have := Int.ediv_nonneg h0 (show (0 : Int) ≤ 2 ^ n by omega); omega
    · have h3 : x * 2 ^ n ≤ x * 1 := Int.mul_le_mul_of_nonpos_left (by omega) hp
      exact Int.le_trans h1 ((Int.le_ediv_iff_mul_le (by omega)).2 (by omega))
  · by_cases h0 : 0 ≤ x
    · have := Int.ediv_le_self (2 ^ n) h0; omega
    · have := Int.ediv_neg_of_neg_of_pos (show x < 0 by omega) (show (0 : Int) < 2 ^ n by omega); omega
theorem shr_u64 (x : Int) (n : Nat) : 0 ≤ IntKind.u64.wrap x / 2 ^ n ∧ IntKind.u64.wrap x / 2 ^ n < 18446744073709551616 := by
  rw [IntKind.wrap_u64]
  have h0 : 0 ≤ x % 18446744073709551616 := by omega
  have := Int.ediv_nonneg h0 (show (0 : Int) ≤ 2 ^ n from Int.pow_nonneg (by decide))
  have := Int.ediv_le_self (2 ^ n) h0
  omega
/-- A value that is not too large. -/
def VS (v : Val) : Prop := VOk v ∧ v.b.length ≤ 200 ∧ v.l.length ≤ 20

set_option maxRecDepth 100000 in
set_option maxHeartbeats 8000000 in
theorem Vals_calls (A0 : Option Addr) (c0 : Nat) (l : List Int) (h64 : ∀ x ∈ l, I64 x) (hl : l.length ≤ 140737488351232) (w : World) {F : List Hp} (H : Holds w F) (hR : Rd (Kd.int .i64) F A0 l.length l) :
    Calls Try.prog 19 #[.slice A0 l.length c0] w fun e w' => ∃ A c vs, e = .returned (.slice A vs.length c) ∧ vs.length ≤ 8 ∧ (∀ v ∈ vs, VS v) ∧ Holds w' (rowH valK 47 (.slice A vs.length c) vs :: F) ∧ vs.length ≤ c ∧ Calm w w' := by
  have H64 := Lib.hid h64
  clear h64
  go_enter Try.func19, Try.ntmps19
  go_wp2
  go_loopw [3, 4] (fun ov iv wr => ∃ (i : Nat) (vs : List Val) (A : Option Addr) (c : Nat), i ≤ 8 ∧ i ≤ l.length ∧ iv = .int .i64 (i : Int) ∧ ov = .slice A vs.length c ∧ vs.length ≤ i ∧ Hid (∀ v ∈ vs, VS v) ∧ Holds wr (rowH valK 47 (.slice A vs.length c) vs :: F) ∧ Calm w wr) (fun _ iv _ => 8 - (intOf iv).toNat)
  case atStart => exact ⟨0, [], none, 0, by omega, by omega, rfl, rfl, by simp, by intro v hv; simp at hv, H.nilRow _ _, Calm.refl _⟩
  case round =>
    obtain ⟨i, vs, A, c, hi, hil, rfl, rfl, hvl, hvs, H1, Q1⟩ := hrel
    by_cases hlt : i < l.length ∧ i < 8
    · obtain ⟨hlt, hlt8⟩ := hlt
      obtain ⟨ad, e1, hcell⟩ := at_nat (hR _ H1.drop) hlt
      have hx1 : l[i]?.getD 0 = l[i] := by simp [hlt]
      have h64 := H64.out l[i] (List.getElem_mem hlt)
      rw [hx1] at hcell
      have hxl := Lib.hid hx1
      clear hx1
      generalize l[i] = x at *
      subst e1
      have hi1 : (i : Int) < (l.length : Int) := by omega
      have hi2 : (i : Int) < 8 := by omega
      obtain ⟨k, hk, hk6⟩ := around_name x 6 (by omega)
      obtain ⟨n, hn, hn63⟩ := around_name (x.tdiv 6) 63 (by omega)
      have h640 := h64.1
      have h641 := h64.2
      have hd := tdiv_range 6 h64
      have hd0 := hd.1
      have hd1 : x.tdiv 6 ≤ 9223372036854775807 := by
        have := Int.natAbs_tdiv_le_natAbs x 6
        have h7 : x.tdiv 6 = x.tdiv 6 := rfl
        rcases Int.le_total 0 x with h | h
        · have := Int.tdiv_le_self 6 h; omega
        · have h9 : x.tdiv 6 ≤ 0 := by
            rw [← Int.neg_neg x, Int.neg_tdiv]
            have := Int.tdiv_nonneg (show 0 ≤ -x by omega) (show (0 : Int) ≤ 6 by omega)
            omega
          omega
      clear hd
      go_wp2_with fail
      refine (Around_at x 6 k hk (wf_of_range h64) (by omega) (by omega) wr).mono ?_
      rintro e _ ⟨rfl, rfl⟩
      go_wp2_with fail
      refine (Around_at (x.tdiv 6) 63 n hn (wf_of_range ⟨hd0, hd1⟩) (by omega) (by omega) wr).mono ?_
      rintro e _ ⟨rfl, rfl⟩
      clear hk hn hd0 hd1
      have hcells : ∀ o, (wr.alloc o).cell? (ad.add i) = some (.int .i64 x) := fun o => ((Below.refl wr.heap.size wr).alloc (Nat.le_refl _) o).cell (World.block_lt_of_cell? wr _ hcell) |>.trans hcell
      have hl1 : (vs.length + 1) * 72 ≤ 140737488355328 := by omega
      have hI : I64 0 := by unfold I64; omega
      have h8 : U8s [] := fun x hx => by simp at hx
      have H64 := Lib.hid h64
      clear h64
      have hk' : k = 0 ∨ k = 1 ∨ k = 2 ∨ (k = 3 ∨ k = 4) ∨ k = 5 := by omega
      rcases hk' with rfl | rfl | rfl | hk34 | rfl
      · have hc1 := hcells (.cells #[.int .i64 0, .int .u64 0, .int .i64 0, .slice none 0 0, .slice none 0 0] 47)
        clear hcells
        have hyr := Lib.hid (shr_u64 x n)
        go_wp2_with (at_builtin; go_must (refine H_append_b valK rfl (.tmp 101) (.tmp 103) 35 47 _ 72 rfl Try.underlying35 info_val rfl (by decide) (by decide) (.slice A vs.length c) vs ⟨0, IntKind.u64.wrap x / 2 ^ n, 0, [], []⟩ (valCells 0 (IntKind.u64.wrap x / 2 ^ n) 0 (.slice none 0 0) (.slice none 0 0)) _ rfl rfl (by simp) ((((H1.alloc _).nilRow (Kd.int .i64) 3).nilRow (Kd.int .u8) 5).eltVal 0 (IntKind.u64.wrap x / 2 ^ n) 0) hl1 ?_; intro B1 A4 c4 w3 hB1 K1 k1 Q3))
        go_roundw
        case rel =>
          refine ⟨i + 1, B1, A4, c4, by omega, by omega, by go_num, rfl, by rw [hB1.out]; simp; omega, ?_, K1, (Q1.alloc _).trans Q3⟩
          intro v hv
          rw [hB1.out] at hv
          rcases List.mem_append.1 hv with hv | hv
          · exact hvs.out v hv
          · obtain rfl := List.mem_singleton.1 hv
            exact ⟨⟨by simp, by simp, hyr.out.1, hyr.out.2, hI, h8, by simp, by simp, by simp, by simp, by simp, by simp, by simp, by simp⟩, by simp, by simp⟩
        case measure => simp [intOf]; omega
      · have hc1 := hcells (.cells #[.int .i64 1, .int .u64 0, .int .i64 0, .slice none 0 0, .slice none 0 0] 47)
        clear hcells
        have hyr := Lib.hid (shr_i64 n H64.out)
        go_wp2_with (at_builtin; go_must (refine H_append_b valK rfl (.tmp 101) (.tmp 103) 35 47 _ 72 rfl Try.underlying35 info_val rfl (by decide) (by decide) (.slice A vs.length c) vs ⟨1, 0, x / 2 ^ n, [], []⟩ (valCells 1 0 (x / 2 ^ n) (.slice none 0 0) (.slice none 0 0)) _ rfl rfl (by simp) ((((H1.alloc _).nilRow (Kd.int .i64) 3).nilRow (Kd.int .u8) 5).eltVal 1 0 (x / 2 ^ n)) hl1 ?_; intro B1 A4 c4 w3 hB1 K1 k1 Q3))
        go_roundw
        case rel =>
          refine ⟨i + 1, B1, A4, c4, by omega, by omega, by go_num, rfl, by rw [hB1.out]; simp; omega, ?_, K1, (Q1.alloc _).trans Q3⟩
          intro v hv
          rw [hB1.out] at hv
          rcases List.mem_append.1 hv with hv | hv
          · exact hvs.out v hv
          · obtain rfl := List.mem_singleton.1 hv
            exact ⟨⟨by simp, by simp, by simp, by simp, hyr.out, h8, by simp, by simp, by simp, by simp, by simp, by simp, by simp, by simp⟩, by simp, by simp⟩
        case measure => simp [intOf]; omega
      · clear hcells
        go_wp2_with (at_builtin; go_must (refine H_append_b valK rfl (.tmp 101) (.tmp 103) 35 47 _ 72 rfl Try.underlying35 info_val rfl (by decide) (by decide) (.slice A vs.length c) vs ⟨2, 0, (n : Int) % 2, [], []⟩ (valCells 2 0 ((n : Int) % 2) (.slice none 0 0) (.slice none 0 0)) _ rfl rfl (by simp) ((((H1.alloc _).nilRow (Kd.int .i64) 3).nilRow (Kd.int .u8) 5).eltVal 2 0 ((n : Int) % 2)) hl1 ?_; intro B1 A4 c4 w3 hB1 K1 k1 Q3))
        go_roundw
        case rel =>
          refine ⟨i + 1, B1, A4, c4, by omega, by omega, by go_num, rfl, by rw [hB1.out]; simp; omega, ?_, K1, (Q1.alloc _).trans Q3⟩
          intro v hv
          rw [hB1.out] at hv
          rcases List.mem_append.1 hv with hv | hv
          · exact hvs.out v hv
          · obtain rfl := List.mem_singleton.1 hv
            exact ⟨⟨by simp, by simp, by simp, by simp, (by unfold I64; dsimp only; omega), h8, by simp, by simp, by simp, by simp, by simp, (fun _ => by dsimp only; omega), by simp, by simp⟩, by simp, by simp⟩
        case measure => simp [intOf]; omega
      · have HB := (((H1.nilRow (Kd.int .u8) 5).box 47 #[.int .i64 k, .int .u64 0, .int .i64 0, .slice none 0 0, .slice none 0 0]))
        have QB := Q1.alloc (.cells #[.int .i64 k, .int .u64 0, .int .i64 0, .slice none 0 0, .slice none 0 0] 47)
        have hnB : (n : Int) % 10 = ((n % 10 : Nat) : Int) := by omega
        have hn10 : n % 10 < 10 := by omega
        clear hcells
        have hka : ((k : Int) == 0) = false ∧ ((k : Int) == 1) = false ∧ ((k : Int) == 2) = false := by rcases hk34 with rfl | rfl <;> decide
        obtain ⟨ka, kb, kc⟩ := hka
        have hkd : ((k : Int) == 3) = true ∨ ((k : Int) == 3) = false ∧ ((k : Int) == 4) = true := by rcases hk34 with rfl | rfl <;> decide
        have hk' : (3 : Int) ≤ (k : Int) := by omega
        obtain ⟨m, hm⟩ : ∃ m : Nat, Hid (n % 10 = m) := ⟨_, Lib.hid rfl⟩
        rw [hm.out] at hnB hn10
        rcases hkd with kd | ⟨kd, ke⟩
        all_goals
          go_wp2
          generalize wr.heap.size = p at *
          go_loopw [8] (fun jv ws => ∃ (j : Nat) (b : List Int) (Ab : Option Addr) (cb : Nat), j ≤ m ∧ jv = .int .i64 (j : Int) ∧ b.length ≤ j ∧ Hid (U8s b) ∧ Holds ws (blkH p 47 #[.int .i64 k, .int .u64 0, .int .i64 0, .slice Ab b.length cb, .slice none 0 0] :: rowH (Kd.int .u8) 5 (.slice Ab b.length cb) b :: rowH valK 47 (.slice A vs.length c) vs :: F) ∧ Calm w ws) (fun jv _ => m - (intOf jv).toNat)
          case atStart => exact ⟨0, [], none, 0, by omega, rfl, by simp, h8, HB, QB⟩
          case round =>
            clear HB QB H1 Q1 hcell
            obtain ⟨j, b, Ab, cb, hj, rfl, hbl, hb8, H2, Q2⟩ := hrel
            by_cases hjm : j < m
            · have hjmi : (j : Int) < ((m : Nat) : Int) := by omega
              obtain ⟨ad2, e2, hcell⟩ := at_nat (hR _ H2.drop.drop.drop) hlt
              cases e2
              rw [hxl.out] at hcell
              have hc3 := H2.c 3 (.slice Ab b.length cb) rfl
              have hf3 := H2.frozen 3
              have hl3 := H2.lt
              have hl4 : (b.length + 1) * 1 ≤ 140737488355328 := by omega
              go_wp2
              go_region_law (refine H_append_int_step (W := wr.drew) .u8 rfl (.tmp 89) (.tmp 98) 24 5 1 rfl Try.underlying24 info_u8 (by decide) (.slice Ab b.length cb) b _ _ rfl rfl (by simp) H2.f2.drew hl4 ?_; intro B1 A4 c4 w3 hB1 K1 k1 Q3; have d3 := K1.f2.c 3 (.slice Ab b.length cb) rfl; have f3 := K1.f2.frozen 3; have l3 := K1.f2.lt)
              all_goals
                have K2 := K1.f2.set 3 (.slice A4 B1.length c4)
                go_wp2
                go_roundw
                case rel =>
                  refine ⟨j + 1, B1, A4, c4, by omega, by go_num, by rw [hB1.out]; simp; omega, ?_, K2, (Q2.drew.trans Q3).setCell _ _⟩
                  intro y hy
                  rw [hB1.out] at hy
                  rcases List.mem_append.1 hy with hy | hy
                  · exact hb8.out y hy
                  · rw [List.mem_singleton.1 hy, IntKind.wrap_u8]; omega
                case measure => simp [intOf]; omega
            · obtain rfl : j = m := by omega
              have c0' := H2.c 0 (.int .i64 k) rfl
              have c1' := H2.c 1 (.int .u64 0) rfl
              have c2' := H2.c 2 (.int .i64 0) rfl
              have c3' := H2.c 3 (.slice Ab b.length cb) rfl
              have c4' := H2.c 4 (.slice none 0 0) rfl
              go_wp2_with (at_builtin; go_must (refine H_append_b valK rfl (.tmp 101) (.tmp 103) 35 47 _ 72 rfl Try.underlying35 info_val rfl (by decide) (by decide) (.slice A vs.length c) vs ⟨k, 0, 0, b, []⟩ (valCells k 0 0 (.slice Ab b.length cb) (.slice none 0 0)) _ rfl rfl (by simp) ((H2.drop.nilRow (Kd.int .i64) 3).f2.eltVal k 0 0) hl1 ?_; intro B1 A4 c4 w3 hB1 K1 k1 Q3))
              go_roundw
              case rel =>
                refine ⟨i + 1, B1, A4, c4, by omega, by omega, by go_num, rfl, by rw [hB1.out]; simp; omega, ?_, K1, Q2.trans Q3⟩
                intro v hv
                rw [hB1.out] at hv
                rcases List.mem_append.1 hv with hv | hv
                · exact hvs.out v hv
                · obtain rfl := List.mem_singleton.1 hv
                  exact ⟨⟨by dsimp only; omega, by dsimp only; omega, by simp, by simp, hI, hb8.out, by dsimp only; omega, by simp, by simp, by simp, by simp, fun h => by dsimp only at h; omega, fun h h' => by dsimp only at h h'; omega, by simp⟩, by dsimp only; omega, by simp⟩
              case measure => simp [intOf]; omega
      · have HB := (((H1.nilRow (Kd.int .i64) 3).box 47 #[.int .i64 5, .int .u64 0, .int .i64 0, .slice none 0 0, .slice none 0 0]))
        have QB := Q1.alloc (.cells #[.int .i64 5, .int .u64 0, .int .i64 0, .slice none 0 0, .slice none 0 0] 47)
        have hnB : (n : Int) % 5 = ((n % 5 : Nat) : Int) := by omega
        have hn10 : n % 5 < 5 := by omega
        clear hcells
        obtain ⟨m, hm⟩ : ∃ m : Nat, Hid (n % 5 = m) := ⟨_, Lib.hid rfl⟩
        rw [hm.out] at hnB hn10
        go_wp2
        generalize wr.heap.size = p at *
        go_loopw [9] (fun jv ws => ∃ (j : Nat) (b : List Int) (Ab : Option Addr) (cb : Nat), j ≤ m ∧ jv = .int .i64 (j : Int) ∧ b.length ≤ j ∧ Hid (∀ y ∈ b, I64 y) ∧ Holds ws (blkH p 47 #[.int .i64 5, .int .u64 0, .int .i64 0, .slice none 0 0, .slice Ab b.length cb] :: rowH (Kd.int .i64) 3 (.slice Ab b.length cb) b :: rowH valK 47 (.slice A vs.length c) vs :: F) ∧ Calm w ws) (fun jv _ => m - (intOf jv).toNat)
        case atStart => exact ⟨0, [], none, 0, by omega, rfl, by simp, by intro y hy; simp at hy, HB, QB⟩
        case round =>
          clear HB QB H1 Q1 hcell
          obtain ⟨j, b, Ab, cb, hj, rfl, hbl, hb8, H2, Q2⟩ := hrel
          by_cases hjm : j < m
          · have hjmi : (j : Int) < ((m : Nat) : Int) := by omega
            obtain ⟨ad2, e2, hcell⟩ := at_nat (hR _ H2.drop.drop.drop) hlt
            cases e2
            rw [hxl.out] at hcell
            have hc3 := H2.c 4 (.slice Ab b.length cb) rfl
            have hf3 := H2.frozen 4
            have hl3 := H2.lt
            have hl4 : (b.length + 1) * 8 ≤ 140737488355328 := by omega
            go_wp2
            go_region_law (refine H_append_int_step (W := wr.drew) .i64 rfl (.tmp 41) (.tmp 50) 33 3 8 rfl Try.underlying33 info_int (by decide) (.slice Ab b.length cb) b _ _ rfl rfl (by simp) H2.f2.drew hl4 ?_; intro B1 A4 c4 w3 hB1 K1 k1 Q3; have d3 := K1.f2.c 4 (.slice Ab b.length cb) rfl; have f3 := K1.f2.frozen 4; have l3 := K1.f2.lt)
            all_goals
              have K2 := K1.f2.set 4 (.slice A4 B1.length c4)
              go_wp2
              go_roundw
              case rel =>
                refine ⟨j + 1, B1, A4, c4, by omega, by go_num, by rw [hB1.out]; simp; omega, ?_, K2, (Q2.drew.trans Q3).setCell _ _⟩
                intro y hy
                rw [hB1.out] at hy
                rcases List.mem_append.1 hy with hy | hy
                · exact hb8.out y hy
                · rw [List.mem_singleton.1 hy]
                  exact shr_i64 _ H64.out
              case measure => simp [intOf]; omega
          · obtain rfl : j = m := by omega
            have c0' := H2.c 0 (.int .i64 5) rfl
            have c1' := H2.c 1 (.int .u64 0) rfl
            have c2' := H2.c 2 (.int .i64 0) rfl
            have c3' := H2.c 3 (.slice none 0 0) rfl
            have c4' := H2.c 4 (.slice Ab b.length cb) rfl
            go_wp2_with (at_builtin; go_must (refine H_append_b valK rfl (.tmp 101) (.tmp 103) 35 47 _ 72 rfl Try.underlying35 info_val rfl (by decide) (by decide) (.slice A vs.length c) vs ⟨5, 0, 0, [], b⟩ (valCells 5 0 0 (.slice none 0 0) (.slice Ab b.length cb)) _ rfl rfl (by simp) ((H2.drop.nilRow (Kd.int .u8) 5).eltVal 5 0 0) hl1 ?_; intro B1 A4 c4 w3 hB1 K1 k1 Q3))
            go_roundw
            case rel =>
              refine ⟨i + 1, B1, A4, c4, by omega, by omega, by go_num, rfl, by rw [hB1.out]; simp; omega, ?_, K1, Q2.trans Q3⟩
              intro v hv
              rw [hB1.out] at hv
              rcases List.mem_append.1 hv with hv | hv
              · exact hvs.out v hv
              · obtain rfl := List.mem_singleton.1 hv
                exact ⟨⟨by simp, by simp, by simp, by simp, hI, h8, by simp, hb8.out, by dsimp only; omega, by simp, by simp, by simp, by simp, by simp⟩, by simp, by dsimp only; omega⟩
            case measure => simp [intOf]; omega
    · obtain ⟨_, _, hlen, hle, _⟩ := H1.row
      cases hlen
      by_cases hll : i < l.length
      · have h1 : (i : Int) < (l.length : Int) := by omega
        have h2 : ¬ (i : Int) < 8 := by omega
        clear hlt
        go_wp2
        go_ret
        exact ⟨A, c, vs, rfl, by omega, hvs.out, H1, hle, Q1⟩
      · have h1 : ¬ (i : Int) < (l.length : Int) := by omega
        clear hlt
        go_wp2
        go_ret
        exact ⟨A, c, vs, rfl, by omega, hvs.out, H1, hle, Q1⟩
end Go.Proofs.Ythkmfmcofkcjeaa
