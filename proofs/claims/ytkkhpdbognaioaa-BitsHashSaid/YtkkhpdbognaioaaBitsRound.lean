/- The law BitsRound: reading the bytes with the same sequence of methods returns what was written. -/
import Derived.Test.YtkkhpdbognaioaaBitsPad
namespace Go.Proofs.Ytkkhpdbognaioaa
set_option linter.unusedVariables false
set_option linter.unusedSimpArgs false
open Go.RowKit Go.Shelf Go.Proofs.YtkkhpdbognaioaaW.PrintWords Go.Proofs.YtkkhpdbognaioaaW.PrintLast Go.Proofs.YtkkhpdbognaioaaW.PrintMore

theorem bitsR_at (pre rest : List Bool) (n k : Nat) : bitsR (pre ++ (bitsN n k ++ rest)) pre.length 0 k = (n % 2 ^ k, pre.length + k, 0) := by
  unfold bitsR
  have hl := bitsN_length n k
  rw [if_pos rfl, if_neg (by simp [hl]), List.drop_left, List.take_append_of_le_length (by rw [hl]; exact Nat.le_refl _), List.take_of_length_le (by rw [hl]; exact Nat.le_refl _), valB_bitsN]
theorem unR_at (at_ : Nat) (limit : Int) : ∀ (m n0 : Nat) (rest : List Bool), ((n0 + m : Nat) : Int) ≤ limit → unR at_ limit (List.replicate m true ++ (false :: rest)) n0 = (n0 + m, at_ + (n0 + m) + 1, 0)
  | 0, n0, rest, _ => rfl
  | m + 1, n0, rest, h => by
    rw [List.replicate_succ, List.cons_append, unR, if_neg (by omega), unR_at at_ limit m (n0 + 1) rest (by omega)]
    rw [show n0 + 1 + m = n0 + (m + 1) by omega]
theorem unaryR_at (pre rest : List Bool) (n : Nat) : unaryR (pre ++ (unaryB n ++ rest)) pre.length 0 (n : Int) = (n, pre.length + n + 1, 0) := by
  unfold unaryR unaryB
  rw [if_pos rfl, List.drop_left, List.append_assoc, List.singleton_append, unR_at pre.length (n : Int) n 0 rest (by omega)]
  simp
theorem endB_at (S : List Bool) : endB (unpack (pack S)) S.length 0 = 0 := by
  rw [unpack_pack]
  unfold endB
  rw [if_neg (by simp), if_neg (by simp; unfold nbytes; omega), if_neg (by rw [List.drop_left]; intro h; have := List.eq_of_mem_replicate h; exact absurd this (by decide))]

/-- The bits of several values. -/
def opsBits : List OpV → List Bool
  | [] => []
  | o :: l => o.bits ++ opsBits l
theorem opsBits_append : ∀ l m : List OpV, opsBits (l ++ m) = opsBits l ++ opsBits m
  | [], m => rfl
  | o :: l, m => by rw [List.cons_append, opsBits, opsBits_append l m, opsBits, List.append_assoc]
theorem opsBits_take (l : List OpV) (i : Nat) (h : i < l.length) : opsBits (l.take (i + 1)) = opsBits (l.take i) ++ l[i].bits := by
  rw [List.take_succ_eq_append_getElem h, opsBits_append]
  simp [opsBits]
theorem opsBits_split (l : List OpV) (i : Nat) (h : i < l.length) : opsBits l = opsBits (l.take i) ++ (l[i].bits ++ opsBits (l.drop (i + 1))) := by
  have h1 : l = l.take i ++ (l[i] :: l.drop (i + 1)) := by rw [← List.drop_eq_getElem_cons h, List.take_append_drop]
  have h2 := congrArg opsBits h1
  rw [opsBits_append, opsBits] at h2
  exact h2
set_option maxRecDepth 100000 in
set_option maxHeartbeats 8000000 in
theorem BitsRound_walk (a0 : Option Addr) (len0 cap0 : Nat) (z0 : List Int) (a1 a2 : Int) (w : World)
    (w0 : IsRow .i64 w a0 len0 cap0 z0) (y0 : len0 * 8 ≤ 140737488351232) (wf1 : (Lit.int .u64 a1).wf = true) (wf2 : (Lit.int .i64 a2).wf = true) :
    Calls Try.prog 5 #[.slice a0 len0 cap0, .int .u64 a1, .int .i64 a2] w fun e w' => e = .returned (.bool true) ∧ Below w.heap.size w w' := by
  obtain ⟨l, rfl, hlc, hCl, hwl⟩ := row_in w0
  have HWL := Lib.hid hwl
  obtain ⟨n, hn, hn64⟩ : ∃ n : Nat, a1 = (n : Int) ∧ n < 18446744073709551616 := ⟨a1.toNat, by
    simp [Lit.wf, IntKind.min, IntKind.max, IntKind.bits, IntKind.signed] at wf1
    omega⟩
  subst hn
  clear w0 hwl wf1
  have H0 := Holds.start w
  go_enter Try.func5, Try.ntmps5
  go_wp2_with fail
  refine (Ops_calls a0 cap0 l HWL.out y0 w H0 (Rd.old_int hCl [])).mono ?_
  rintro e w1 ⟨A, c, ops0, rfl, hol0, hops0, H1, hoc, Q1⟩
  have Hops0 := Lib.hid hops0
  have HE := H1.eltOp ⟨false, n, a2⟩
  have hl1 : (ops0.length + 1) * 24 ≤ 140737488355328 := by omega
  clear hops0 H0 H1
  go_wp2_with (at_builtin; go_must (refine H_append opK rfl (.tmp 13) (.tmp 17) 24 27 _ 24 rfl Try.underlying24 info_op rfl (by decide) (by decide) (.slice A ops0.length c) ops0 ⟨false, n, a2⟩ (OpV.cells ⟨false, n, a2⟩) rfl rfl HE hl1 ?_; intro ops A1 c1 w1' hB1 K1 k1 Q2))
  have hol : ops.length ≤ 13 := by rw [hB1.out]; simp; omega
  have hops : ∀ o ∈ ops, o.n < 18446744073709551616 ∧ (o.un = true → o.n < 40) := fun o ho => by
    rw [hB1.out] at ho
    rcases List.mem_append.1 ho with h | h
    · exact ⟨(Hops0.out o h).n64, (Hops0.out o h).un40⟩
    · obtain rfl := List.mem_singleton.1 h
      exact ⟨hn64, fun h => absurd h Bool.false_ne_true⟩
  have Hops := Lib.hid hops
  have H2 := K1.bwNew
  have Q3 := (Q1.trans Q2).alloc (.cells #[.slice none 0 0, .int .i64 0] 31)
  clear hops HE K1 Q1 Q2 Hops0 hol0 hoc hB1
  generalize w1'.heap.size = p at *
  generalize w1'.alloc (.cells #[.slice none 0 0, .int .i64 0] 31) = w2 at *
  go_loopw [9] (fun iv wr => ∃ (i : Nat) (S : List Bool), i ≤ ops.length ∧ iv = .int .i64 (i : Int) ∧ S.length ≤ 65537 * i ∧ Hid (S = opsBits (ops.take i)) ∧ Holds wr [bwH p S, rowH opK 27 (.slice A1 ops.length c1) ops, oldH w] ∧ Calm w wr) (fun iv _ => ops.length - (intOf iv).toNat)
  case atStart => exact ⟨0, [], by omega, rfl, by simp, rfl, H2, Q3⟩
  case round =>
    clear H2 Q3
    obtain ⟨i, S, hi, rfl, hSl, hS, H1, Q1⟩ := hrel
    by_cases hlt : i < ops.length
    · have hii : (i : Int) < (ops.length : Int) := by omega
      obtain ⟨g, rfl, d0, d1, d2⟩ := H1.drop.opAt i hlt
      have hok := Hops.out ops[i] (List.getElem_mem hlt)
      have hbl := OpV.bits_len ops[i]
      have hw := lwrite p S ops[i] hok.1 (by omega) wr H1
      have hnew : Hid (S ++ ops[i].bits = opsBits (ops.take (i + 1))) := by show _ = _; rw [opsBits_take ops i hlt, hS.out]
      clear hok
      generalize ops[i] = o at *
      go_wp2_with fail
      refine hw.mono ?_
      rintro e w3 ⟨rfl, H3, Q3⟩
      go_wp2
      go_roundw
      case rel => exact ⟨i + 1, S ++ o.bits, by omega, by go_num, by rw [List.length_append]; omega, hnew, H3, Q1.trans Q3⟩
      case measure => simp [intOf]; omega
    · obtain rfl : i = ops.length := by omega
      have hS6 : S.length ≤ 1000000 := by omega
      have hS' : Hid (S = opsBits ops) := by show _ = _; rw [hS.out, List.take_length]
      have hdn := bDone p S (by omega) wr H1
      have hU8 : Hid (AllU8' (pack S)) := pack_u8 S
      have hpl := pack_length S
      obtain ⟨P, hP⟩ : ∃ P : List Int, Hid (pack S = P) := ⟨_, Lib.hid rfl⟩
      rw [hP.out] at hdn hU8 hpl
      have hPl : P.length ≤ 200000 := by rw [hpl]; unfold nbytes; omega
      have hSP : S.length ≤ 8 * P.length := by rw [hpl]; unfold nbytes; omega
      clear hpl
      go_wp2_with fail
      refine hdn.mono ?_
      rintro e w3 ⟨A3, c3, rfl, H3, hc3, Q3⟩
      go_wp2_with fail
      refine (bRead A3 c3 P (by omega) w3 H3 H3.row'.2.2).mono ?_
      rintro e w4 ⟨r, rfl, H4, Q4⟩
      have Q5 := (Q1.trans Q3).trans Q4
      have H5 := H4.f2.drop
      clear hdn H3 H4 H1 Q1 Q3 Q4
      go_wp2
      go_loopw [11] (fun iv wr => ∃ (i at_ : Nat), i ≤ ops.length ∧ iv = .int .i64 (i : Int) ∧ Hid (at_ = (opsBits (ops.take i)).length) ∧ Holds wr [rdH r P at_ 0, bwH p S, rowH opK 27 (.slice A1 ops.length c1) ops, oldH w] ∧ Calm w wr) (fun iv _ => ops.length - (intOf iv).toNat)
      case atStart => exact ⟨0, 0, by omega, rfl, rfl, H5, Q5⟩
      case round =>
        clear H5 Q5
        obtain ⟨i, at_, hi, rfl, hat, H1, Q1⟩ := hrel
        by_cases hlt : i < ops.length
        · have hii : (i : Int) < (ops.length : Int) := by omega
          have hd := fun W (K : Holds W (rowH opK 27 (.slice A1 ops.length c1) ops :: [oldH w])) => K.opAt i hlt
          obtain ⟨g, hg, d0, d1, d2⟩ := hd wr H1.drop.drop
          subst hg
          have hok := Hops.out ops[i] (List.getElem_mem hlt)
          have hsplit : unpack P = opsBits (ops.take i) ++ (ops[i].bits ++ (opsBits (ops.drop (i + 1)) ++ List.replicate (8 * nbytes S.length - S.length) false)) := by
            rw [← hP.out, unpack_pack, hS'.out]
            rw [show opsBits ops ++ _ = (opsBits (ops.take i) ++ (ops[i].bits ++ opsBits (ops.drop (i + 1)))) ++ List.replicate (8 * nbytes (opsBits ops).length - (opsBits ops).length) false from by rw [← opsBits_split ops i hlt]]
            simp only [List.append_assoc]
          have hnew : Hid (at_ + ops[i].bits.length = (opsBits (ops.take (i + 1))).length) := by show _ = _; rw [opsBits_take ops i hlt, List.length_append, hat.out]
          have hatl : at_ ≤ 8 * P.length := by
            rw [← unpack_length, hsplit, hat.out]
            simp
          have hib : Hid (i + 1 ≤ ops.length) := hlt
          generalize ops[i] = o at *
          obtain ⟨un, n', c'⟩ := o
          cases un
          · have hbits : OpV.bits ⟨false, n', c'⟩ = bitsN n' (clampN c' 64) := rfl
            rw [hbits] at hsplit hnew
            have hrd := bitsR_at (opsBits (ops.take i)) (opsBits (ops.drop (i + 1)) ++ List.replicate (8 * nbytes S.length - S.length) false) n' (clampN c' 64)
            rw [← hsplit, ← hat.out] at hrd
            have hrb := fun W F (K : Holds W (rdH r P at_ 0 :: F)) => rBits r P hU8.out at_ 0 c' (by omega) hatl W K
            rw [hrd] at hrb
            have hlow := fun W => low_calls n' hok.1 c' W
            obtain ⟨v, hv⟩ : ∃ v : Nat, Hid (n' % 2 ^ clampN c' 64 = v) := ⟨_, Lib.hid rfl⟩
            rw [hv.out] at hrb hlow
            rw [bitsN_length] at hnew
            clear hrd hsplit hbits hok
            generalize clampN c' 64 = kk at *
            go_wp2_with fail
            go_region
            clear HWL Hops hSl hS6 hlc hCl y0 hi hlt hn64 wf2 hPl
            go_wp2_with fail
            have H1' := H1.drew
            have Q1' := Q1.drew
            obtain ⟨g0, hg0, x0, x1, x2⟩ := hd _ H1'.drop.drop
            cases hg0
            clear H1 Q1 d0 d1 d2
            generalize wr.drew = wa at *
            go_region_held3 (fun w' => w'.cell? ⟨g, i * 3, none⟩ = some (.bool false) ∧ w'.cell? ⟨g, i * 3 + 1, none⟩ = some (.int .u64 (n' : Int)) ∧ w'.cell? ⟨g, i * 3 + 2, none⟩ = some (.int .i64 c'))
              (first | exact ⟨x0, x1, x2⟩ | exact ⟨d0', d1', d2'⟩)
              (first | (go_at_call 25; refine (hrb _ _ H1'.drew).mono ?_; rintro e w6 ⟨rfl, H6, Q6⟩; obtain ⟨g', hg', d0', d1', d2'⟩ := hd w6 H6.drop.drop; cases hg') | (go_at_call 32; refine (hlow _).mono ?_; rintro e _ ⟨rfl, rfl⟩))
            go_wp2
            go_roundw
            case rel => exact ⟨i + 1, at_ + kk, hib.out, by go_num, hnew, H6, Q1'.drew.trans Q6⟩
            case measure => simp [intOf]; have := hib.out; omega
          · have hn40 : n' < 40 := hok.2 rfl
            have hwr : IntKind.i64.wrap (n' : Int) = (n' : Int) := by rw [IntKind.wrap_i64]; omega
            have hcl : clampN (n' : Int) 65536 = n' := by unfold clampN; omega
            have hbits : OpV.bits ⟨true, n', c'⟩ = unaryB n' := by
              show unaryB (clampN (IntKind.i64.wrap (n' : Int)) 65536) = _
              rw [hwr, hcl]
            rw [hbits] at hsplit hnew
            have hrd := unaryR_at (opsBits (ops.take i)) (opsBits (ops.drop (i + 1)) ++ List.replicate (8 * nbytes S.length - S.length) false) n'
            rw [← hsplit, ← hat.out] at hrd
            have hrb := fun W F (K : Holds W (rdH r P at_ 0 :: F)) => rUnary r P hU8.out at_ 0 (n' : Int) (by omega) hatl W K
            rw [hrd] at hrb
            have hul : (unaryB n').length = n' + 1 := by simp [unaryB]
            rw [hul] at hnew
            have Hwr := Lib.hid hwr
            clear hrd hsplit hbits hok hwr hcl hul
            have hn40i : (n' : Int) < 40 := by omega
            clear HWL Hops hSl hS6 hlc hCl y0 hi hlt hn64 wf2 hPl
            go_wp2_with fail
            have x0 : wr.drew.cell? ⟨g, i * 3, none⟩ = some (.bool true) := d0
            have x1 : wr.drew.cell? ⟨g, i * 3 + 1, none⟩ = some (.int .u64 (n' : Int)) := d1
            have H1' := H1.drew
            have Q1' := Q1.drew
            clear H1 Q1
            go_region_held3 (fun w' => w'.cell? ⟨g, i * 3, none⟩ = some (.bool true) ∧ w'.cell? ⟨g, i * 3 + 1, none⟩ = some (.int .u64 (n' : Int)))
              (first | exact ⟨x0, x1⟩ | exact ⟨d0', d1'⟩)
              ((go_at_call 27; rw [Hwr.out]; refine (hrb _ _ H1').mono ?_; rintro e w6 ⟨rfl, H6, Q6⟩; obtain ⟨g', hg', d0', d1', d2'⟩ := hd w6 H6.drop.drop; cases hg'))
            clear d0 d1 d2 x0 x1 hrb
            go_wp2_with fail
            go_region
            go_wp2
            go_roundw
            case rel => exact ⟨i + 1, at_ + n' + 1, hib.out, by go_num, hnew, H6.drew, (Q1'.trans Q6).drew⟩
            case measure => simp [intOf]; have := hib.out; omega
        · obtain rfl : i = ops.length := by omega
          have hat' : at_ = S.length := by rw [hat.out, hS'.out, List.take_length]
          subst hat'
          have hend := rEndB r P hU8.out S.length 0 (by omega) hSP wr H1
          have he : endB (unpack P) S.length 0 = 0 := by rw [← hP.out]; exact endB_at S
          rw [he] at hend
          clear he
          go_wp2_with fail
          refine hend.mono ?_
          rintro e w4 ⟨rfl, H4, Q4⟩
          go_wp2_with fail
          refine (rAt r P S.length 0 w4 H4).mono ?_
          rintro e _ ⟨rfl, rfl⟩
          go_wp2_with fail
          refine (bLen p S w4 H4.f2).mono ?_
          rintro e _ ⟨rfl, rfl⟩
          go_wp2_with fail
          refine (lives_calls w4 H4).mono ?_
          rintro e w5 ⟨rfl, H5, Q5⟩
          have HB := Lib.hid (H5.drop.drop.drop.old ((Q1.trans Q4).trans Q5))
          go_wp2
          go_ret
          exact ⟨rfl, HB.out⟩
end Go.Proofs.Ytkkhpdbognaioaa
