/- The law BitsWire: the bytes that package wire writes are those of a stream of groups of 7 bits behind a bit that tells whether another group follows. -/
import Derived.Test.YtkkhpdbognaioaaBitsOps
import Derived.Test.YtkkhpdbognaioaaWireR2
namespace Go.Proofs.Ytkkhpdbognaioaa
set_option linter.unusedVariables false
set_option linter.unusedSimpArgs false
open Go.RowKit Go.Shelf Go.Proofs.YtkkhpdbognaioaaW.PrintWords Go.Proofs.YtkkhpdbognaioaaW.PrintLast Go.Proofs.YtkkhpdbognaioaaW.PrintMore

theorem info_u64 : (Try.prog.info? 23).map (fun i => (i.zero, i.size, i.bytes)) = some (some (.int .u64 0), 1, 8) := by kernel_rfl
theorem Holds.wrNew {w : World} {F : List Hp} (h : Holds w F) : Holds (w.alloc (.cells #[.slice none 0 0] 63)) (wrH w.heap.size [] :: F) :=
  (((h.box 63 #[.slice none 0 0]).nilRow (Kd.int .u8) 5).f2).wrShut
theorem byte_bits (r more : Nat) (h : more ≤ 1) : bitsN more 1 ++ bitsN r 7 = bitsN (r % 128 + 128 * more) 8 := by
  have h1 : bitsN (r % 128 + 128 * more) 7 = bitsN r 7 := by
    rw [← bitsN_mod, ← bitsN_mod r 7]
    congr 1
    show (r % 128 + 128 * more) % 128 = r % 128
    omega
  show decide (more / 2 ^ 0 % 2 = 1) :: ([] ++ bitsN r 7) = decide ((r % 128 + 128 * more) / 2 ^ 7 % 2 = 1) :: bitsN (r % 128 + 128 * more) 7
  rw [h1, List.nil_append]
  congr 1
  rw [decide_eq_decide]
  show more / 1 % 2 = 1 ↔ (r % 128 + 128 * more) / 128 % 2 = 1
  omega
theorem unpack_snoc (l : List Int) (x : Nat) : unpack (l ++ [(x : Int)]) = unpack l ++ bitsN x 8 := by
  rw [unpack_append]; simp [unpack]
def encNs : List Int → List Int
  | [] => []
  | x :: l => encN x.toNat ++ encNs l
theorem encNs_append : ∀ l m : List Int, encNs (l ++ m) = encNs l ++ encNs m
  | [], m => rfl
  | x :: l, m => by rw [List.cons_append, encNs, encNs_append l m, encNs, List.append_assoc]
theorem encNs_u8 : ∀ l : List Int, AllU8' (encNs l)
  | [] => fun x hx => by simp [encNs] at hx
  | x :: l => fun y hy => by
    rw [encNs] at hy
    rcases List.mem_append.1 hy with h | h
    · exact encN_u8 _ y h
    · exact encNs_u8 l y h
theorem encNs_take (l : List Int) (i : Nat) (h : i < l.length) : encNs (l.take (i + 1)) = encNs (l.take i) ++ encN (l[i]).toNat := by
  rw [List.take_succ_eq_append_getElem h, encNs_append]; simp [encNs]
theorem encNs_drop (l : List Int) (i : Nat) (h : i < l.length) : encNs (l.drop i) = encN (l[i]).toNat ++ encNs (l.drop (i + 1)) := by
  rw [List.drop_eq_getElem_cons h, encNs]
theorem encNs_len : ∀ l : List Int, (∀ x ∈ l, 0 ≤ x ∧ x < 18446744073709551616) → (encNs l).length ≤ 10 * l.length
  | [], _ => by simp [encNs]
  | x :: l, h => by
    have hx := h x (by simp)
    have h1 := encNs_len l (fun y hy => h y (by simp [hy]))
    have h2 := encN_len 9 x.toNat (by simp only [Nat.reducePow, Nat.reduceAdd]; omega)
    rw [encNs, List.length_append, List.length_cons]
    omega

set_option maxRecDepth 100000 in
set_option maxHeartbeats 16000000 in
theorem BitsWire_walk (a0 : Option Addr) (len0 cap0 : Nat) (z0 : List Int) (a1 : Int) (w : World)
    (w0 : IsRow .i64 w a0 len0 cap0 z0) (y0 : len0 * 8 ≤ 140737488351232) (wf1 : (Lit.int .u64 a1).wf = true) :
    Calls Try.prog 10 #[.slice a0 len0 cap0, .int .u64 a1] w fun e w' => e = .returned (.bool true) ∧ Below w.heap.size w w' := by
  obtain ⟨l, rfl, hlc, hCl, hwl⟩ := row_in w0
  have HWL := Lib.hid hwl
  have ha : 0 ≤ a1 ∧ a1 < 18446744073709551616 := by
    simp [Lit.wf, IntKind.min, IntKind.max, IntKind.bits, IntKind.signed] at wf1
    omega
  obtain ⟨ha0, ha1⟩ := ha
  have hb0 : 0 ≤ a1 / 2 ^ 30 := Int.ediv_nonneg ha0 (by decide)
  have hb1 : a1 / 2 ^ 30 ≤ a1 := Int.ediv_le_self _ ha0
  have hc0 : 0 ≤ a1 / 2 ^ 57 := Int.ediv_nonneg ha0 (by decide)
  have hc1 : a1 / 2 ^ 57 ≤ a1 := Int.ediv_le_self _ ha0
  clear w0 hwl wf1
  have H0 := (Holds.start w).wrNew
  have Q0 := (Calm.refl w).alloc (.cells #[.slice none 0 0] 63)
  have H1 := H0.bwNew
  have Q1 := Q0.alloc (.cells #[.slice none 0 0, .int .i64 0] 31)
  go_enter Try.func10, Try.ntmps10
  go_wp2_with fail
  have H2 := H1.lit .u64 23 [a1, a1 / 1073741824, a1 / 144115188075855872] (by simp)
  have Q2 := Q1.alloc (.cells (nums .u64 [a1, a1 / 1073741824, a1 / 144115188075855872]).toArray 23)
  simp only [World.size_alloc] at H2
  rw [show (nums .u64 [a1, a1 / 1073741824, a1 / 144115188075855872]).toArray = #[Value.int IntKind.u64 a1, Value.int IntKind.u64 (a1 / 1073741824), Value.int IntKind.u64 (a1 / 144115188075855872)] from rfl] at H2 Q2
  have hN0 : ∀ x ∈ [a1, a1 / 1073741824, a1 / 144115188075855872], 0 ≤ x ∧ x < 18446744073709551616 := fun x hx => by
    have e0 : (2 : Int) ^ 30 = 1073741824 := by decide
    have e1 : (2 : Int) ^ 57 = 144115188075855872 := by decide
    rw [e0] at hb0 hb1
    rw [e1] at hc0 hc1
    simp only [List.mem_cons, List.not_mem_nil, or_false] at hx
    rcases hx with rfl | rfl | rfl
    · exact ⟨ha0, ha1⟩
    · exact ⟨hb0, by omega⟩
    · exact ⟨hc0, by omega⟩
  have HN0 := Lib.hid hN0
  obtain ⟨N0, hN00⟩ : ∃ N0 : List Int, Hid ([a1, a1 / 1073741824, a1 / 144115188075855872] = N0) := ⟨_, Lib.hid rfl⟩
  have hN03 : Hid (N0.length = 3) := by show _ = _; rw [← hN00.out]; rfl
  rw [hN00.out] at H2 HN0
  have H3 : Holds _ [rowH (Kd.int .u64) 23 (.slice (some ⟨w.heap.size + 1 + 1, 0, none⟩) 3 3) N0, bwH (w.heap.size + 1) [], wrH w.heap.size [], oldH w] := (congrArg (fun k => Holds (((w.alloc (.cells #[.slice none 0 0] 63)).alloc (.cells #[.slice none 0 0, .int .i64 0] 31)).alloc (.cells #[Value.int IntKind.u64 a1, Value.int IntKind.u64 (a1 / 1073741824), Value.int IntKind.u64 (a1 / 144115188075855872)] 23)) [rowH (Kd.int .u64) 23 (.slice (some ⟨w.heap.size + 1 + 1, 0, none⟩) k k) N0, bwH (w.heap.size + 1) [], wrH w.heap.size [], oldH w]) hN03.out).mp H2
  clear hb0 hb1 hc0 hc1 ha0 ha1 hN0 H0 Q0 H1 Q1 H2
  generalize hx : w.heap.size + 1 = x at *
  generalize hp : w.heap.size = p at *
  clear hx hp
  generalize ((w.alloc (.cells #[.slice none 0 0] 63)).alloc (.cells #[.slice none 0 0, .int .i64 0] 31)).alloc (.cells #[Value.int IntKind.u64 a1, Value.int IntKind.u64 (a1 / 1073741824), Value.int IntKind.u64 (a1 / 144115188075855872)] 23) = w1 at *
  go_loopw [7, 8] (fun nv iv wr => ∃ (i : Nat) (N : List Int) (A : Option Addr) (c : Nat), i ≤ 8 ∧ iv = .int .i64 (i : Int) ∧ nv = .slice A N.length c ∧ N.length ≤ 3 + i ∧ Hid (∀ x ∈ N, 0 ≤ x ∧ x < 18446744073709551616) ∧ Holds wr [rowH (Kd.int .u64) 23 (.slice A N.length c) N, bwH x [], wrH p [], oldH w] ∧ Calm w wr) (fun _ iv _ => 8 - (intOf iv).toNat)
  case atStart => exact ⟨0, N0, _, 3, by omega, rfl, by rw [hN03.out], by rw [hN03.out]; omega, HN0, by rw [hN03.out]; exact H3, Q2⟩
  case round =>
    clear H3 Q2 HN0 hN00 hN03
    obtain ⟨i, N, A, c, hi, rfl, rfl, hNl, hN, H1, Q1⟩ := hrel
    by_cases hgo : i < l.length ∧ i < 8
    · obtain ⟨hm1, h8⟩ := hgo
      have him : (i : Int) < (l.length : Int) := by omega
      have hi8 : (i : Int) < 8 := by omega
      obtain ⟨ad, had, hcell⟩ := at_nat (Rd.old_int hCl [] wr H1.drop.drop.drop) hm1
      subst had
      generalize l[i]?.getD 0 = kx at *
      have hl1 : (N.length + 1) * 8 ≤ 140737488355328 := by omega
      have hr := wrap_u64_range kx
      go_wp2_with (at_builtin; go_must (refine H_append_int .u64 rfl (.tmp 31) (.tmp 37) 65 23 8 rfl Try.underlying65 info_u64 (by decide) (.slice A N.length c) N (IntKind.u64.wrap kx) rfl rfl H1 hl1 ?_; intro B2 A2 c2 w2 hB2 K2 k2 Q2))
      go_roundw
      case rel => exact ⟨i + 1, B2, A2, c2, by omega, by go_num, rfl, by rw [hB2.out]; simp; omega, by
          intro y hy
          rw [hB2.out] at hy
          rcases List.mem_append.1 hy with h | h
          · exact hN.out y h
          · rw [List.mem_singleton.1 h]; exact hr, K2, Q1.trans Q2⟩
      case measure => simp [intOf]; omega
    · have hNl11 : N.length ≤ 11 := by omega
      by_cases hlt : i < l.length
      focus
        have him : (i : Int) < (l.length : Int) := by omega
        have hi8 : ¬ (i : Int) < 8 := by omega
        go_wp2_with fail
      rotate_left
      focus
        have him : ¬ (i : Int) < (l.length : Int) := by omega
        go_wp2_with fail
      all_goals
        have H2 := H1.b3
        clear H1 hgo hNl hi hlt
        go_loopw [9] (fun iv wr => ∃ (i : Nat) (E : List Int), i ≤ N.length ∧ iv = .int .i64 (i : Int) ∧ E.length ≤ 10 * i ∧ Hid (E = encNs (N.take i)) ∧ Holds wr [bwH x (unpack E), wrH p E, rowH (Kd.int .u64) 23 (.slice A N.length c) N, oldH w] ∧ Calm w wr) (fun iv _ => N.length - (intOf iv).toNat)
        case atStart => exact ⟨0, [], by omega, rfl, by simp, rfl, H2.b3.f3, Q1⟩
        case round =>
          clear H2 Q1
          obtain ⟨i, E, hi, rfl, hEl, hE, H1, Q1⟩ := hrel
          by_cases hlt : i < N.length
          · have hii : (i : Int) < (N.length : Int) := by omega
            have hNi := hN.out N[i] (List.getElem_mem hlt)
            obtain ⟨n, hn⟩ : ∃ n : Nat, Hid (N[i]?.getD 0 = (n : Int) ∧ N[i].toNat = n ∧ n < 18446744073709551616) := ⟨N[i].toNat, by refine ⟨?_, ?_, ?_⟩; rw [List.getElem?_eq_getElem hlt]; show N[i] = _; omega; rfl; omega⟩
            have hat := fun W F (K : Holds W (rowH (Kd.int .u64) 23 (.slice A N.length c) N :: F)) => at_nat K.row'.2.2 hlt
            rw [hn.out.1] at hat
            obtain ⟨ad, had, hcell⟩ := hat wr _ H1.drop.drop
            subst had
            have hn64 := hn.out.2.2
            have hen := encN_len 9 n (by simp only [Nat.reducePow, Nat.reduceAdd]; omega)
            have hnew : Hid (E ++ encN n = encNs (N.take (i + 1))) := by show _ = _; rw [encNs_take N i hlt, hE.out, hn.out.2.1]
            clear hNi
            go_wp2_with fail
            refine (wUint p E n hn64 (by omega) wr H1.f2).mono ?_
            rintro e w2 ⟨rfl, H2, Q2⟩
            obtain ⟨ad', had', hcell2⟩ := hat w2 _ H2.drop.drop
            cases had'
            have H3 := H2.f2
            have Q3 := Q1.trans Q2
            clear H1 Q1 H2 Q2 hcell
            generalize hW2 : E ++ encN n = E2 at *
            have HE2 := Lib.hid hW2
            clear hW2
            go_wp2_with fail
            obtain ⟨wo, hwo⟩ : ∃ wo, wo = w2 := ⟨_, rfl⟩
            go_loopw [10, 11] (fun rv kv wr => ∃ (k r : Nat) (P : List Int), rv = .int .u64 (r : Int) ∧ kv = .int .i64 (k : Int) ∧ r < 18446744073709551616 ∧ P.length = k ∧ k < 10 ∧ Hid (encN n = P ++ encN r) ∧ Holds wr [bwH x (unpack (E ++ P)), wrH p E2, rowH (Kd.int .u64) 23 (.slice (some ad) N.length c) N, oldH w] ∧ Calm w wr) (fun _ kv _ => 10 - (intOf kv).toNat)
            case atStart => exact ⟨0, n, [], rfl, rfl, hn64, rfl, by omega, rfl, by rw [List.append_nil]; exact H3, Q3⟩
            case round =>
              clear H3 Q3 hcell2
              obtain ⟨k, r, P, rfl, rfl, hr, hPk, hk, hP, H1, Q1⟩ := hrel
              have hk10 : (k : Int) < 10 := by omega
              have hul := unpack_length (E ++ P)
              rw [List.length_append] at hul
              have hb1 := fun (m : Nat) (hm : m < 18446744073709551616) => bBits x (unpack (E ++ P)) m hm 1 (by omega) wr H1
              rw [show clampN 1 64 = 1 from rfl] at hb1
              have hb7 := fun (S : List Bool) (hS : S.length ≤ 5000) W F (K : Holds W (bwH x S :: F)) => bBits x S r hr 7 (by omega) W K
              rw [show clampN 7 64 = 7 from rfl] at hb7
              have hp := encN_pos (r / 128)
              have hPlen : (encN n).length = P.length + (encN r).length := by rw [hP.out, List.length_append]
              by_cases h128 : r < 128
              · have hri : ¬ (128 : Int) ≤ (r : Int) := by omega
                have hfin := hP.out
                rw [encN_lt h128] at hfin
                have hst : (unpack (E ++ P) ++ bitsN 0 1) ++ bitsN r 7 = unpack E2 := by
                  rw [List.append_assoc, byte_bits r 0 (by omega), ← HE2.out, hfin, ← List.append_assoc, unpack_snoc]
                  congr 2
                  omega
                have h0 := hb1 0 (by decide)
                have h7 := fun W F K => hb7 (unpack (E ++ P) ++ bitsN 0 1) (by rw [List.length_append, bitsN_length]; omega) W F K
                rw [hst] at h7
                have H0' := Lib.hid h0
                clear hb1 hb7 hst hfin hPlen hul h0
                generalize unpack (E ++ P) ++ bitsN 0 1 = S1 at *
                go_wp2_with fail
                refine H0'.out.mono ?_
                rintro e w3 ⟨rfl, H3, Q3⟩
                go_wp2_with fail
                refine (h7 w3 _ H3).mono ?_
                rintro e w4 ⟨rfl, H4, Q4⟩
                go_wp2
                go_roundw
                case rel => exact ⟨i + 1, E2, by omega, by go_num, by rw [← HE2.out, List.length_append]; omega, hnew, H4, (Q1.trans Q3).trans Q4⟩
                case measure => simp [intOf]; omega
              · have hri : (128 : Int) ≤ (r : Int) := by omega
                have hfin := hP.out
                rw [encN_ge (n := r) (by omega)] at hfin hPlen
                have hst : (unpack (E ++ P) ++ bitsN 1 1) ++ bitsN r 7 = unpack (E ++ (P ++ [((r % 128 + 128 : Nat) : Int)])) := by
                  rw [List.append_assoc, byte_bits r 1 (by omega), ← List.append_assoc E, unpack_snoc]
                have h0 := hb1 1 (by decide)
                have h7 := fun W F K => hb7 (unpack (E ++ P) ++ bitsN 1 1) (by rw [List.length_append, bitsN_length]; omega) W F K
                rw [hst] at h7
                have H0' := Lib.hid h0
                have hPn : Hid (encN n = (P ++ [((r % 128 + 128 : Nat) : Int)]) ++ encN (r / 128)) := by show _ = _; rw [hfin, List.append_assoc]; rfl
                have hk9 : k + 1 < 10 := by
                  rw [List.length_cons] at hPlen
                  omega
                clear hb1 hb7 hst hfin hPlen hul h0
                generalize unpack (E ++ P) ++ bitsN 1 1 = S1 at *
                go_wp2_with fail
                refine H0'.out.mono ?_
                rintro e w3 ⟨rfl, H3, Q3⟩
                go_wp2_with fail
                refine (h7 w3 _ H3).mono ?_
                rintro e w4 ⟨rfl, H4, Q4⟩
                go_wp2
                go_roundw
                case rel => exact ⟨k + 1, r / 128, P ++ [((r % 128 + 128 : Nat) : Int)], by go_num, by go_num, by omega, by simp [hPk], hk9, hPn, H4, (Q1.trans Q3).trans Q4⟩
                case measure => simp [intOf]; omega
          · obtain rfl : i = N.length := by omega
            have hE' : Hid (E = encNs N) := by show _ = _; rw [hE.out, List.take_length]
            have hEl' : E.length ≤ 110 := by omega
            have hE8 : Hid (AllU8' E) := by rw [hE'.out]; exact encNs_u8 N
            have hul := unpack_length E
            have hdn := fun W F (K : Holds W (bwH x (unpack E) :: F)) => bDone x (unpack E) (by omega) W K
            rw [pack_unpack E hE8.out] at hdn
            clear hul
            go_wp2_with fail
            refine (hdn wr _ H1).mono ?_
            rintro e w3 ⟨A3, c3, rfl, H3, hc3, Q3⟩
            go_wp2_with fail
            refine (read_calls A3 c3 E (by omega) w3 H3 H3.row'.2.2).mono ?_
            rintro e w4 ⟨r, AL, rfl, R4, Q4⟩
            have H4 := R4.holds
            have Q5 := (Q1.trans Q3).trans Q4
            clear H1 H3 Q1 Q3 Q4 R4
            go_wp2
            go_loopw [14] (fun iv wr => ∃ (i : Nat), i ≤ N.length ∧ iv = .int .i64 (i : Int) ∧ Holds wr [rdrH 84 [viewH .u8 AL E] r (encNs (N.drop i)) 0, viewH .u8 AL E, rowH (Kd.int .u8) 5 (.slice A3 E.length c3) E, bwH x (unpack E), wrH p E, rowH (Kd.int .u64) 23 (.slice A N.length c) N, oldH w] ∧ Calm w wr) (fun iv _ => N.length - (intOf iv).toNat)
            case atStart => exact ⟨0, by omega, rfl, by rw [List.drop_zero, ← hE'.out]; exact H4, Q5⟩
            case round =>
              clear H4 Q5
              obtain ⟨i, hi, rfl, H1, Q1⟩ := hrel
              by_cases hlt : i < N.length
              · have hii : (i : Int) < (N.length : Int) := by omega
                have hNi := hN.out N[i] (List.getElem_mem hlt)
                obtain ⟨n, hn⟩ : ∃ n : Nat, Hid (N[i]?.getD 0 = (n : Int) ∧ N[i].toNat = n ∧ n < 18446744073709551616) := ⟨N[i].toNat, by refine ⟨?_, ?_, ?_⟩; rw [List.getElem?_eq_getElem hlt]; show N[i] = _; omega; rfl; omega⟩
                have hat := fun W F (K : Holds W (rowH (Kd.int .u64) 23 (.slice A N.length c) N :: F)) => at_nat K.row'.2.2 hlt
                rw [hn.out.1] at hat
                obtain ⟨ad, had, hcell⟩ := hat wr.drew _ H1.drew.drop.drop.drop.drop.drop
                subst had
                have hd := encNs_drop N i hlt
                rw [hn.out.2.1] at hd
                have hur := uRd_full n hn.out.2.2 (encNs (N.drop (i + 1)))
                rw [← hd] at hur
                have hru := rUint r (encNs (N.drop i)) (encNs_u8 _) wr.drew (G := [viewH .u8 AL E]) (Sub.head _ _) (RdS.of H1.drew)
                rw [hur] at hru
                have Hat := Lib.hid hat
                have Hru := Lib.hid hru
                clear hNi hat hd hur hru
                go_wp2_with fail
                go_region_held3 (fun w' => w'.cell? (ad.add i) = some (.int .u64 (n : Int)))
                  (first | exact hcell | exact hcell2)
                  ((go_at_call 37; refine Hru.out.mono ?_; rintro e w2 ⟨rfl, R2, Q2⟩; obtain ⟨ad', had', hcell2⟩ := Hat.out w2 _ R2.frame.drop.drop.drop.drop; cases had'))
                have H2 := R2.holds
                go_wp2
                go_roundw
                case rel => exact ⟨i + 1, by omega, by go_num, H2, Q1.drew.trans Q2⟩
                case measure => simp [intOf]; omega
              · obtain rfl : i = N.length := by omega
                have hnil : encNs (N.drop N.length) = [] := by rw [List.drop_length]; rfl
                rw [hnil] at H1
                have hE1 := rEnd r [] 0 wr (RdS.of H1)
                rw [show endE [] 0 = 0 from rfl] at hE1
                go_wp2_with fail
                refine hE1.mono ?_
                rintro e _ ⟨rfl, rfl⟩
                go_wp2_with fail
                refine (wDone p E (by omega) wr H1.f5).mono ?_
                rintro e w5 ⟨A5, c5, rfl, H5, hc5, Q5⟩
                go_wp2_with fail
                refine (hdn w5 _ H5.f6).mono ?_
                rintro e w6 ⟨A6, c6, rfl, H6, hc6, Q6⟩
                go_wp2_with fail
                refine (SameBytes_H A5 c5 E.length E A6 c6 E.length E true (decide_eq_true rfl) w6 rfl rfl H6.drop.drop.row'.2.2 H6.row'.2.2 (by omega) H6).mono ?_
                rintro e w7 ⟨rfl, H7, Q7⟩
                go_wp2_with fail
                refine (lives_calls w7 H7).mono ?_
                rintro e w8 ⟨rfl, H8, Q8⟩
                have HB := Lib.hid (H8.drop.drop.drop.drop.drop.drop.drop.drop.old ((((Q1.trans Q5).trans Q6).trans Q7).trans Q8))
                go_wp2
                go_ret
                exact ⟨rfl, HB.out⟩
end Go.Proofs.Ytkkhpdbognaioaa
