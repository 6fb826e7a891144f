/- The contract of the reference's Ops: a row of values. -/
import Derived.Test.YtkkhpdbognaioaaBitsRef2
import Derived.Test.YtkkhpdbognaioaaWApart
namespace Go.Proofs.Ytkkhpdbognaioaa
set_option linter.unusedVariables false
set_option linter.unusedSimpArgs false
open Go.RowKit Go.Shelf Go.Proofs.YtkkhpdbognaioaaW.PrintWords Go.Proofs.YtkkhpdbognaioaaW.PrintLast Go.Proofs.YtkkhpdbognaioaaW.PrintMore

def opK : Kd OpV := Kd.iso (Kd.raw 3) OpV.cells
theorem info_op : (Try.prog.info? 27).map (fun i => (i.zero, i.size, i.bytes)) = some (some (.agg #[.bool false, .int .u64 0, .int .i64 0]), opK.sz, 24) := by kernel_rfl
theorem Holds.eltOp {w : World} {F : List Hp} (h : Holds w F) (o : OpV) : Holds w (eltH opK o o.cells :: F) := h.emp.imp (fun S _ _ => by
  refine ⟨rfl, rfl, fun u hu => ?_⟩
  simp only [OpV.cells, List.mem_cons, List.not_mem_nil, or_false] at hu
  rcases hu with rfl | rfl | rfl <;> rfl)
theorem wrap_u64_range (z : Int) : 0 ≤ IntKind.u64.wrap z ∧ IntKind.u64.wrap z < 18446744073709551616 := by rw [IntKind.wrap_u64]; omega
/-- What the generator's values are. -/
structure OpOk (o : OpV) : Prop where
  n64 : o.n < 18446744073709551616
  un40 : o.un = true → o.n < 40
  c0 : -2 ≤ o.c
  c1 : o.c ≤ 65
set_option maxRecDepth 100000 in
set_option maxHeartbeats 4000000 in
theorem Ops_calls (a : Option Addr) (cap : Nat) (l : List Int) (hl64 : ∀ x ∈ l, (Lit.int .i64 x).wf = true) (hl : l.length * 8 ≤ 140737488351232) (w : World) {F : List Hp} (H : Holds w F) (hR : Rd (Kd.int .i64) F a l.length l) :
    Calls Try.prog 12 #[.slice a l.length cap] w fun e w' => ∃ A c ops, e = .returned (.slice A ops.length c) ∧ ops.length ≤ 12 ∧ (∀ o ∈ ops, OpOk o) ∧ Holds w' (rowH opK 27 (.slice A ops.length c) ops :: F) ∧ ops.length ≤ c ∧ Calm w w' := by
  have HR := Lib.hid hR
  have HL := Lib.hid hl64
  clear hR hl64
  go_enter Try.func12, Try.ntmps12
  go_wp2
  go_loopw [3, 4] (fun o iv wr => ∃ (i : Nat) (ops : List OpV) (A : Option Addr) (c : Nat), i ≤ 12 ∧ iv = .int .i64 (i : Int) ∧ o = .slice A ops.length c ∧ ops.length ≤ i ∧ Hid (∀ o ∈ ops, OpOk o) ∧ Holds wr (rowH opK 27 (.slice A ops.length c) ops :: F) ∧ Calm w wr) (fun _ iv _ => 12 - (intOf iv).toNat)
  case atStart => exact ⟨0, [], none, 0, by omega, rfl, rfl, by simp, fun o ho => by simp at ho, H.nilRow opK 27, Calm.refl _⟩
  case round =>
    obtain ⟨i, ops, A, c, hi, rfl, rfl, hol, hops, H1, Q1⟩ := hrel
    by_cases hgo : i < l.length ∧ i < 12
    · obtain ⟨hil, hi12⟩ := hgo
      have him : (i : Int) < (l.length : Int) := by omega
      have hi10 : (i : Int) < 12 := by omega
      obtain ⟨ad, had, hcell⟩ := at_nat (HR.out wr H1.drop) hil
      obtain ⟨x, hx⟩ : ∃ x : Int, Hid (l[i]?.getD 0 = x) := ⟨_, Lib.hid rfl⟩
      have hxw : (Lit.int .i64 x).wf = true := by
        rw [← hx.out, List.getElem?_eq_getElem hil]
        exact HL.out _ (List.getElem_mem hil)
      rw [hx.out] at hcell
      subst had
      obtain ⟨k3, hk3, hk3l⟩ := around_name x 3 (by omega)
      obtain ⟨k68, hk68, hk68l⟩ := around_name (x.tdiv 3) 68 (by omega)
      obtain ⟨k40, hk40, hk40l⟩ := around_name (x.tdiv 3) 40 (by omega)
      have hA3 := fun W => Around_at x 3 k3 hk3 hxw (by omega) (by omega) W
      have hA68 := fun W => Around_at (x.tdiv 3) 68 k68 hk68 (tdiv_wf hxw 3 (by omega)) (by omega) (by omega) W
      have hA40 := fun W => Around_at (x.tdiv 3) 40 k40 hk40 (tdiv_wf hxw 3 (by omega)) (by omega) (by omega) W
      clear hk3 hk68 hk40
      have hr := wf_range hxw
      obtain ⟨hr0, hr1⟩ := hr
      go_wp2_with fail
      refine (hA3 wr).mono ?_
      rintro e _ ⟨rfl, rfl⟩
      go_wp2_with fail
      refine (hA68 wr).mono ?_
      rintro e _ ⟨rfl, rfl⟩
      clear hA3 hA68
      have hN0 := wrap_u64_range (IntKind.u64.wrap x * 11400714819323198485)
      by_cases hz : k3 = 0
      · have hzb : ((k3 : Int) == 0) = true := by rw [hz]; rfl
        have HB := H1.box 27 #[.bool true, .int .u64 (IntKind.u64.wrap (IntKind.u64.wrap x * 11400714819323198485)), .int .i64 ((k68 : Int) - 2)]
        have QB := Q1.alloc (.cells #[.bool true, .int .u64 (IntKind.u64.wrap (IntKind.u64.wrap x * 11400714819323198485)), .int .i64 ((k68 : Int) - 2)] 27)
        obtain ⟨ad', had', hcell2⟩ := at_nat (HR.out _ HB.drop.drop) hil
        cases had'
        rw [hx.out] at hcell2
        have b0 := HB.c 0 (.bool true) rfl
        have b1 := HB.c 1 (.int .u64 (IntKind.u64.wrap (IntKind.u64.wrap x * 11400714819323198485))) rfl
        have b2 := HB.c 2 (.int .i64 ((k68 : Int) - 2)) rfl
        have f1 := HB.frozen 1
        have lt := HB.lt
        have KB := H1.box 27 #[.bool true, .int .u64 (k40 : Int), .int .i64 ((k68 : Int) - 2)]
        have QK := Q1.alloc (.cells #[.bool true, .int .u64 (k40 : Int), .int .i64 ((k68 : Int) - 2)] 27)
        have HE := KB.f2.eltOp ⟨true, k40, (k68 : Int) - 2⟩
        have g0 := KB.c 0 (.bool true) rfl
        have g1 := KB.c 1 (.int .u64 (k40 : Int)) rfl
        have g2 := KB.c 2 (.int .i64 ((k68 : Int) - 2)) rfl
        have hl1 : (ops.length + 1) * 24 ≤ 140737488355328 := by omega
        go_wp2_with fail
        refine (hA40 _).mono ?_
        rintro e _ ⟨rfl, rfl⟩
        clear hA40
        go_wp2_with (at_builtin; go_must (refine H_append_b opK rfl (.tmp 50) (.tmp 52) 24 27 _ 24 rfl Try.underlying24 info_op rfl (by decide) (by decide) (.slice A ops.length c) ops ⟨true, k40, (k68 : Int) - 2⟩ (OpV.cells ⟨true, k40, (k68 : Int) - 2⟩) _ rfl rfl (by simp) HE hl1 ?_; intro B1 A1 c1 w1 hB1 K1 k1 Q2))
        have hok : Hid (∀ o ∈ B1, OpOk o) := fun o ho => by
          rw [hB1.out] at ho
          rcases List.mem_append.1 ho with h | h
          · exact hops.out o h
          · obtain rfl := List.mem_singleton.1 h
            exact ⟨by show k40 < _; omega, fun _ => hk40l, by show -2 ≤ (k68 : Int) - 2; omega, by show (k68 : Int) - 2 ≤ 65; omega⟩
        go_roundw
        case rel => exact ⟨i + 1, B1, A1, c1, by omega, by go_num, rfl, by rw [hB1.out]; simp; omega, hok, K1.f2.drop, QK.trans Q2⟩
        case measure => simp [intOf]; omega
      · have hzb : ((k3 : Int) == 0) = false := by simpa using hz
        obtain ⟨N, hN⟩ : ∃ N : Nat, Hid ((IntKind.u64.wrap (IntKind.u64.wrap x * 11400714819323198485)) = (N : Int)) := ⟨(IntKind.u64.wrap (IntKind.u64.wrap x * 11400714819323198485)).toNat, by show _ = _; omega⟩
        have hN64 : N < 18446744073709551616 := by have := hN.out; omega
        have KB := H1.box 27 #[.bool false, .int .u64 (IntKind.u64.wrap (IntKind.u64.wrap x * 11400714819323198485)), .int .i64 ((k68 : Int) - 2)]
        have QK := Q1.alloc (.cells #[.bool false, .int .u64 (IntKind.u64.wrap (IntKind.u64.wrap x * 11400714819323198485)), .int .i64 ((k68 : Int) - 2)] 27)
        have HE := KB.f2.eltOp ⟨false, N, (k68 : Int) - 2⟩
        have g0 := KB.c 0 (.bool false) rfl
        have g1 := KB.c 1 (.int .u64 (IntKind.u64.wrap (IntKind.u64.wrap x * 11400714819323198485))) rfl
        have g2 := KB.c 2 (.int .i64 ((k68 : Int) - 2)) rfl
        have hl1 : (ops.length + 1) * 24 ≤ 140737488355328 := by omega
        rw [show OpV.cells ⟨false, N, (k68 : Int) - 2⟩ = [.bool false, .int .u64 (IntKind.u64.wrap (IntKind.u64.wrap x * 11400714819323198485)), .int .i64 ((k68 : Int) - 2)] by rw [hN.out]; rfl] at HE
        go_wp2_with (at_builtin; go_must (refine H_append_b opK rfl (.tmp 50) (.tmp 52) 24 27 _ 24 rfl Try.underlying24 info_op rfl (by decide) (by decide) (.slice A ops.length c) ops ⟨false, N, (k68 : Int) - 2⟩ [.bool false, .int .u64 (IntKind.u64.wrap (IntKind.u64.wrap x * 11400714819323198485)), .int .i64 ((k68 : Int) - 2)] _ rfl rfl (by simp) HE hl1 ?_; intro B1 A1 c1 w1 hB1 K1 k1 Q2))
        have hok : Hid (∀ o ∈ B1, OpOk o) := fun o ho => by
          rw [hB1.out] at ho
          rcases List.mem_append.1 ho with h | h
          · exact hops.out o h
          · obtain rfl := List.mem_singleton.1 h
            exact ⟨hN64, fun h => absurd h Bool.false_ne_true, by show -2 ≤ (k68 : Int) - 2; omega, by show (k68 : Int) - 2 ≤ 65; omega⟩
        go_roundw
        case rel => exact ⟨i + 1, B1, A1, c1, by omega, by go_num, rfl, by rw [hB1.out]; simp; omega, hok, K1.f2.drop, QK.trans Q2⟩
        case measure => simp [intOf]; omega
    · by_cases hlt : i < l.length
      · have him : (i : Int) < (l.length : Int) := by omega
        have hi12 : ¬ (i : Int) < 12 := by omega
        go_wp2
        go_ret
        exact ⟨A, c, ops, rfl, by omega, hops.out, H1, H1.row'.2.1, Q1⟩
      · have him : ¬ (i : Int) < (l.length : Int) := by omega
        go_wp2
        go_ret
        exact ⟨A, c, ops, rfl, by omega, hops.out, H1, H1.row'.2.1, Q1⟩

/-- The cells of one value of the row. -/
theorem Holds.opAt {w : World} {F : List Hp} {e : TypeId} {A0 : Option Addr} {N c : Nat} {ops : List OpV} (h : Holds w (rowH opK e (.slice A0 N c) ops :: F)) (i : Nat) (hi : i < ops.length) : ∃ g, A0 = some ⟨g, 0, none⟩ ∧ w.cell? ⟨g, i * 3, none⟩ = some (.bool ops[i].un) ∧ w.cell? ⟨g, i * 3 + 1, none⟩ = some (.int .u64 (ops[i].n : Int)) ∧ w.cell? ⟨g, i * 3 + 2, none⟩ = some (.int .i64 ops[i].c) := by
  obtain ⟨S, a, _⟩ := h.get
  obtain ⟨g, cap, hv, _⟩ := Kd.R_form a (show 0 < ops.length by omega)
  cases hv
  obtain ⟨ad, cs, he, hl, hK, hc⟩ := Kd.C_get (Kd.R_reads' a).2.2 ops[i] (i : Int) (by omega) (by omega)
  cases he
  rw [Int.toNat_natCast] at hK hc
  have hK' : cs = ops[i].cells := by
    have := hK.1
    rw [this]
    simp [List.getD_eq_getElem?_getD, hi]
  subst hK'
  have hc' : ∀ j u, ops[i].cells[j]? = some u → w.cell? ⟨g, i * 3 + j, none⟩ = some u := fun j u hu => by
    have := hc j u hu
    rw [add_plain] at this
    exact this
  exact ⟨g, rfl, hc' 0 _ rfl, hc' 1 _ rfl, hc' 2 _ rfl⟩
end Go.Proofs.Ytkkhpdbognaioaa
