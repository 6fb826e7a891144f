/- The contracts of the reference model's small functions: Ints, Few copy the first elements. -/
import Derived.Test.YtnkbaaffihocjaaHashSum
import Derived.Deep.QuietTactic
import Derived.BigQuiet
import Derived.Lib.Hide
import Derived.Deep.DeepMust
namespace Go.Proofs.Ytnkbaaffihocjaa
set_option linter.unusedVariables false
set_option linter.unusedSimpArgs false
open Go.RowKit Go.Shelf Go.Proofs.YtnkbaaffihocjaaW.PrintWords Go.Proofs.YtnkbaaffihocjaaW.PrintLast Go.Proofs.YtnkbaaffihocjaaW.PrintMore
attribute [local go_sem] max2_int min2_int max_two min_two

theorem kd_take {k : IntKind} {w : World} {A : Option Addr} {xs : List Int} (h : (Kd.int k).C w A xs.length xs) {m : Nat} (hm : m ≤ xs.length) : (Kd.int k).C w A m (xs.take m) := by
  exact Kd.C_of_reads (d := (0 : Int)) (h1 := fun _ => rfl) (ReadsInt.take_ (Kd.reads_of_C (d := (0 : Int)) (h1 := fun _ => rfl) h) m hm)

theorem wf_range {n : Int} (h : (Lit.int .i64 n).wf = true) : -9223372036854775808 ≤ n ∧ n ≤ 9223372036854775807 := by
  simp [Lit.wf, IntKind.min, IntKind.max, IntKind.bits, IntKind.signed] at h
  omega

theorem info_u8 : (Try.prog.info? 5).map (fun i => (i.zero, i.size, i.bytes)) = some (some (.int .u8 0), 1, 1) := by kernel_rfl

set_option maxRecDepth 100000 in
set_option maxHeartbeats 1000000 in
theorem Ints_calls (A : Option Addr) (c : Nat) (l : List Int) (most : Int) (h0 : 0 ≤ most) (hl : l.length * 8 ≤ 140737488351232) (w : World) (hC : (Kd.int .i64).C w A l.length l) (hc : l.length ≤ c) :
    Calls Try.prog 12 #[.slice A l.length c, .int .i64 most] w fun e w' => ∃ v, e = .returned v ∧ (Kd.int .i64).R 3 w' w.heap.size (fun _ => True) v (l.take most.toNat) ∧ Below w.heap.size w w' := by
  by_cases hm : most < (l.length : Int)
  · have hR := kd_take hC (show most.toNat ≤ l.length by omega)
    have hlen : (most.toNat : Nat) ≤ l.length := by omega
    go_enter Try.func12, Try.ntmps12
    go_wp2_with (at_builtin; refine Kd.R_append_rows (Kd.int .i64) (w0 := w) w.heap.size rfl _ _ 22 3 (.int .i64 0) 8 rfl Try.underlying22 info_int rfl (by decide) (by omega) (.slice none 0 0) [] (l.take most.toNat) _ _ _ (fun _ => True) (fun _ => False) rfl rfl (Kd.R_nil _ _ _ _ _) hR (fun _ _ h => h) (fun _ h => h.elim) (fun _ _ => trivial) (Below.refl _ _) (Nat.le_refl _) (by simp; omega) ?_; intro v1 w1 ho hb hg hat)
    go_ret
    exact ⟨_, rfl, ho, hb⟩
  · have hT : l.take most.toNat = l := List.take_of_length_le (by omega)
    rw [hT]
    clear hT
    go_enter Try.func12, Try.ntmps12
    go_wp2_with (at_builtin; refine Kd.R_append_rows (Kd.int .i64) (w0 := w) w.heap.size rfl _ _ 22 3 (.int .i64 0) 8 rfl Try.underlying22 info_int rfl (by decide) (by omega) (.slice none 0 0) [] l _ _ _ (fun _ => True) (fun _ => False) rfl rfl (Kd.R_nil _ _ _ _ _) hC (fun _ _ h => h) (fun _ h => h.elim) (fun _ _ => trivial) (Below.refl _ _) (Nat.le_refl _) (by simp; omega) ?_; intro v1 w1 ho hb hg hat)
    go_ret
    exact ⟨_, rfl, ho, hb⟩

set_option maxRecDepth 100000 in
set_option maxHeartbeats 1000000 in
theorem Few_calls (A : Option Addr) (c : Nat) (l : List Int) (most : Int) (h0 : 0 ≤ most) (hl : l.length ≤ 140737488351232) (w : World) (hC : (Kd.int .u8).C w A l.length l) (hc : l.length ≤ c) :
    Calls Try.prog 16 #[.slice A l.length c, .int .i64 most] w fun e w' => ∃ v, e = .returned v ∧ (Kd.int .u8).R 5 w' w.heap.size (fun _ => True) v (l.take most.toNat) ∧ Below w.heap.size w w' := by
  by_cases hm : most < (l.length : Int)
  · have hR := kd_take hC (show most.toNat ≤ l.length by omega)
    have hlen : (most.toNat : Nat) ≤ l.length := by omega
    go_enter Try.func16, Try.ntmps16
    go_wp2_with (at_builtin; refine Kd.R_append_rows (Kd.int .u8) (w0 := w) w.heap.size rfl _ _ 30 5 (.int .u8 0) 1 rfl Try.underlying30 info_u8 rfl (by decide) (by omega) (.slice none 0 0) [] (l.take most.toNat) _ _ _ (fun _ => True) (fun _ => False) rfl rfl (Kd.R_nil _ _ _ _ _) hR (fun _ _ h => h) (fun _ h => h.elim) (fun _ _ => trivial) (Below.refl _ _) (Nat.le_refl _) (by simp; omega) ?_; intro v1 w1 ho hb hg hat)
    go_ret
    exact ⟨_, rfl, ho, hb⟩
  · have hT : l.take most.toNat = l := List.take_of_length_le (by omega)
    rw [hT]
    clear hT
    go_enter Try.func16, Try.ntmps16
    go_wp2_with (at_builtin; refine Kd.R_append_rows (Kd.int .u8) (w0 := w) w.heap.size rfl _ _ 30 5 (.int .u8 0) 1 rfl Try.underlying30 info_u8 rfl (by decide) (by omega) (.slice none 0 0) [] l _ _ _ (fun _ => True) (fun _ => False) rfl rfl (Kd.R_nil _ _ _ _ _) hC (fun _ _ h => h) (fun _ h => h.elim) (fun _ _ => trivial) (Below.refl _ _) (Nat.le_refl _) (by simp; omega) ?_; intro v1 w1 ho hb hg hat)
    go_ret
    exact ⟨_, rfl, ho, hb⟩

/-- The first bytes of a string. -/
def shortS (s : ByteArray) (k : Nat) : ByteArray := if k < s.size then s.extract 0 k else s
theorem shortS_size (s : ByteArray) (k : Nat) : (shortS s k).size ≤ s.size ∧ (shortS s k).size ≤ k := by
  unfold shortS
  split
  · simp [ByteArray.size_extract]; omega
  · omega

set_option maxRecDepth 100000 in
set_option maxHeartbeats 1000000 in
theorem Short_calls (s : ByteArray) (hs : s.size ≤ 140737488351232) (k : Nat) (hk : k ≤ 1000000) (w : World) :
    Calls Try.prog 11 #[.string s, .int .i64 (k : Int)] w fun e w' => e = .returned (.string (shortS s k)) ∧ w = w' := by
  by_cases h : k < s.size
  · have hT : shortS s k = s.extract 0 k := by unfold shortS; rw [if_pos h]
    rw [hT]
    clear hT
    go_enter Try.func11, Try.ntmps11
    go_wp2
    go_ret
    exact ⟨rfl, rfl⟩
  · have hT : shortS s k = s := by unfold shortS; rw [if_neg h]
    rw [hT]
    clear hT
    go_enter Try.func11, Try.ntmps11
    go_wp2
    go_ret
    exact ⟨rfl, rfl⟩

/-- n modulo most, never negative. -/
def aroundI (n most : Int) : Int := (if n < 0 then -(n + 1) else n) % most
theorem aroundI_range (n : Int) {most : Int} (h : 1 ≤ most) : 0 ≤ aroundI n most ∧ aroundI n most < most :=
  ⟨Int.emod_nonneg _ (by omega), Int.emod_lt_of_pos _ (by omega)⟩

set_option maxRecDepth 100000 in
set_option maxHeartbeats 1000000 in
theorem Around_calls (n most : Int) (hn : (Lit.int .i64 n).wf = true) (hm : 1 ≤ most) (hm2 : most ≤ 9223372036854775807) (w : World) :
    Calls Try.prog 21 #[.int .i64 n, .int .i64 most] w fun e w' => e = .returned (.int .i64 (aroundI n most)) ∧ w = w' := by
  have hr := wf_range hn
  clear hn
  by_cases h : n < 0
  · have hT : aroundI n most = -((n + 1).tmod most) := by unfold aroundI; rw [if_pos h, ← Int.neg_tmod, Int.tmod_eq_emod_of_nonneg (by omega)]
    rw [hT]
    clear hT
    go_enter Try.func21, Try.ntmps21
    go_wp2
    go_ret
    exact ⟨rfl, rfl⟩
  · have hT : aroundI n most = n % most := by unfold aroundI; rw [if_neg h]
    rw [hT]
    clear hT
    go_enter Try.func21, Try.ntmps21
    go_wp2
    go_ret
    exact ⟨rfl, rfl⟩

theorem take_eq_succ {l1 l2 : List Int} {k : Nat} (h1 : k < l1.length) (h2 : k < l2.length) (h : l1.take k = l2.take k) (e : l1[k] = l2[k]) : l1.take (k + 1) = l2.take (k + 1) := by
  rw [List.take_succ_eq_append_getElem h1, List.take_succ_eq_append_getElem h2, h, e]

set_option maxRecDepth 100000 in
set_option maxHeartbeats 2000000 in
theorem SameInts_calls (A1 : Option Addr) (c1 : Nat) (l1 : List Int) (A2 : Option Addr) (c2 : Nat) (l2 : List Int) (w : World) (hC1 : (Kd.int .i64).C w A1 l1.length l1) (hC2 : (Kd.int .i64).C w A2 l2.length l2) (hl : l1.length ≤ 140737488351232) :
    Calls Try.prog 24 #[.slice A1 l1.length c1, .slice A2 l2.length c2] w fun e w' => e = .returned (.bool (decide (l1 = l2))) ∧ Drawn0 w w' := by
  by_cases hne : l1.length = l2.length
  · have hB : ((l1.length : Int) == (l2.length : Int)) = true := beq_iff_eq.mpr (by omega)
    have hB1 : ((l1.length : Int) != (l2.length : Int)) = false := bne_eq_false_iff_eq.mpr (by omega)
    have hB2 : (l1.length == l2.length) = true := by simpa using hne
    have Hne := Lib.hid hne
    have hle : l1.length ≤ l2.length := by omega
    clear hne
    go_enter Try.func24, Try.ntmps24
    go_wp2
    repeat (go_quiet (fail); try go_wp2)
    go_loopw [5] (fun i wr => ∃ k : Nat, k ≤ l1.length ∧ i = .int .i64 (k : Int) ∧ Hid (l1.take k = l2.take k) ∧ Drawn0 w wr) (fun i _ => l1.length - (intOf i).toNat)
    case atStart => exact ⟨0, Nat.zero_le _, rfl, rfl, by repeat (first | exact Drawn0.refl _ | apply Drawn0.step)⟩
    case round =>
      obtain ⟨k, hk, rfl, hT, ⟨m1, rfl⟩⟩ := hrel
      by_cases hlt : k < l1.length
      · obtain ⟨ad1, e1, hcell1⟩ := at_nat hC1 hlt
        obtain ⟨ad2, e2, hcell2⟩ := at_nat hC2 (show k < l2.length by omega)
        cases e1
        cases e2
        have hlt2 : k < l2.length := by omega
        have hx1 : l1[k]?.getD 0 = l1[k] := by simp [hlt]
        have hx2 : l2[k]?.getD 0 = l2[k] := by simp [hlt2]
        rw [hx1] at hcell1
        rw [hx2] at hcell2
        clear hx1 hx2
        have hi0 : 0 ≤ (k : Int) := by omega
        have hi1 : (k : Int) < (l1.length : Int) := by omega
        have hi2 : (k : Int) < (l2.length : Int) := by omega
        by_cases hx : l1[k] = l2[k]
        · have hxB : (l1[k] == l2[k]) = true := by simpa using hx
          have hxB1 : (l1[k] != l2[k]) = false := by simpa using hx
          have HX := Lib.hid hx
          clear hx
          go_wp2
          repeat (go_quiet (fail); try go_wp2)
          go_roundw
          case rel => exact ⟨k + 1, by omega, by go_num, take_eq_succ hlt hlt2 hT.out HX.out, by repeat (first | exact Drawn0.refl _ | apply Drawn0.step)⟩
          case measure => simp [intOf]; omega
        · have hxB : (l1[k] == l2[k]) = false := by simpa using hx
          have hxB1 : (l1[k] != l2[k]) = true := by simpa using hx
          have HR : Hid (decide (l1 = l2) = false) := decide_eq_false (fun e => hx (by subst e; rfl))
          clear hx
          go_wp2
          repeat (go_quiet (fail); try go_wp2)
          go_ret
          exact ⟨by rw [HR.out]; rfl, by repeat (first | exact Drawn0.refl _ | apply Drawn0.step)⟩
      · have HR : Hid (decide (l1 = l2) = true) := decide_eq_true (by
          have h := hT.out
          have h1 := Hne.out
          rwa [List.take_of_length_le (by omega), List.take_of_length_le (by omega)] at h)
        go_wp2
        repeat (go_quiet (fail); try go_wp2)
        go_ret
        exact ⟨by rw [HR.out]; rfl, by repeat (first | exact Drawn0.refl _ | apply Drawn0.step)⟩
  · have hB : ((l1.length : Int) == (l2.length : Int)) = false := beq_eq_false_iff_ne.mpr (by omega)
    have hB1 : ((l1.length : Int) != (l2.length : Int)) = true := bne_iff_ne.mpr (by omega)
    have hB2 : (l1.length == l2.length) = false := by simpa using hne
    have HR : Hid (decide (l1 = l2) = false) := decide_eq_false (fun e => hne (by rw [e]))
    clear hne
    go_enter Try.func24, Try.ntmps24
    go_wp2
    repeat (go_quiet (fail); try go_wp2)
    go_ret
    exact ⟨by rw [HR.out]; rfl, by repeat (first | exact Drawn0.refl _ | apply Drawn0.step)⟩

set_option maxRecDepth 100000 in
set_option maxHeartbeats 2000000 in
theorem SameBytes_calls (A1 : Option Addr) (c1 : Nat) (l1 : List Int) (A2 : Option Addr) (c2 : Nat) (l2 : List Int) (w : World) (hC1 : (Kd.int .u8).C w A1 l1.length l1) (hC2 : (Kd.int .u8).C w A2 l2.length l2) (hl : l1.length ≤ 140737488351232) :
    Calls Try.prog 22 #[.slice A1 l1.length c1, .slice A2 l2.length c2] w fun e w' => e = .returned (.bool (decide (l1 = l2))) ∧ Drawn0 w w' := by
  by_cases hne : l1.length = l2.length
  · have hB : ((l1.length : Int) == (l2.length : Int)) = true := beq_iff_eq.mpr (by omega)
    have hB1 : ((l1.length : Int) != (l2.length : Int)) = false := bne_eq_false_iff_eq.mpr (by omega)
    have hB2 : (l1.length == l2.length) = true := by simpa using hne
    have Hne := Lib.hid hne
    have hle : l1.length ≤ l2.length := by omega
    clear hne
    go_enter Try.func22, Try.ntmps22
    go_wp2
    repeat (go_quiet (fail); try go_wp2)
    go_loopw [5] (fun i wr => ∃ k : Nat, k ≤ l1.length ∧ i = .int .i64 (k : Int) ∧ Hid (l1.take k = l2.take k) ∧ Drawn0 w wr) (fun i _ => l1.length - (intOf i).toNat)
    case atStart => exact ⟨0, Nat.zero_le _, rfl, rfl, by repeat (first | exact Drawn0.refl _ | apply Drawn0.step)⟩
    case round =>
      obtain ⟨k, hk, rfl, hT, ⟨m1, rfl⟩⟩ := hrel
      by_cases hlt : k < l1.length
      · obtain ⟨ad1, e1, hcell1⟩ := at_nat hC1 hlt
        obtain ⟨ad2, e2, hcell2⟩ := at_nat hC2 (show k < l2.length by omega)
        cases e1
        cases e2
        have hlt2 : k < l2.length := by omega
        have hx1 : l1[k]?.getD 0 = l1[k] := by simp [hlt]
        have hx2 : l2[k]?.getD 0 = l2[k] := by simp [hlt2]
        rw [hx1] at hcell1
        rw [hx2] at hcell2
        clear hx1 hx2
        have hi0 : 0 ≤ (k : Int) := by omega
        have hi1 : (k : Int) < (l1.length : Int) := by omega
        have hi2 : (k : Int) < (l2.length : Int) := by omega
        by_cases hx : l1[k] = l2[k]
        · have hxB : (l1[k] == l2[k]) = true := by simpa using hx
          have hxB1 : (l1[k] != l2[k]) = false := by simpa using hx
          have HX := Lib.hid hx
          clear hx
          go_wp2
          repeat (go_quiet (fail); try go_wp2)
          go_roundw
          case rel => exact ⟨k + 1, by omega, by go_num, take_eq_succ hlt hlt2 hT.out HX.out, by repeat (first | exact Drawn0.refl _ | apply Drawn0.step)⟩
          case measure => simp [intOf]; omega
        · have hxB : (l1[k] == l2[k]) = false := by simpa using hx
          have hxB1 : (l1[k] != l2[k]) = true := by simpa using hx
          have HR : Hid (decide (l1 = l2) = false) := decide_eq_false (fun e => hx (by subst e; rfl))
          clear hx
          go_wp2
          repeat (go_quiet (fail); try go_wp2)
          go_ret
          exact ⟨by rw [HR.out]; rfl, by repeat (first | exact Drawn0.refl _ | apply Drawn0.step)⟩
      · have HR : Hid (decide (l1 = l2) = true) := decide_eq_true (by
          have h := hT.out
          have h1 := Hne.out
          rwa [List.take_of_length_le (by omega), List.take_of_length_le (by omega)] at h)
        go_wp2
        repeat (go_quiet (fail); try go_wp2)
        go_ret
        exact ⟨by rw [HR.out]; rfl, by repeat (first | exact Drawn0.refl _ | apply Drawn0.step)⟩
  · have hB : ((l1.length : Int) == (l2.length : Int)) = false := beq_eq_false_iff_ne.mpr (by omega)
    have hB1 : ((l1.length : Int) != (l2.length : Int)) = true := bne_iff_ne.mpr (by omega)
    have hB2 : (l1.length == l2.length) = false := by simpa using hne
    have HR : Hid (decide (l1 = l2) = false) := decide_eq_false (fun e => hne (by rw [e]))
    clear hne
    go_enter Try.func22, Try.ntmps22
    go_wp2
    repeat (go_quiet (fail); try go_wp2)
    go_ret
    exact ⟨by rw [HR.out]; rfl, by repeat (first | exact Drawn0.refl _ | apply Drawn0.step)⟩

theorem info_u64 : (Try.prog.info? 25).map (fun i => (i.zero, i.size, i.bytes)) = some (some (.int .u64 0), 1, 8) := by kernel_rfl
theorem int_eq {k : IntKind} {a b : Int} (h : a = b) : Value.int k a = Value.int k b := by rw [h]

set_option maxRecDepth 100000 in
set_option maxHeartbeats 2000000 in
theorem Words_calls (A : Option Addr) (c : Nat) (l : List Int) (hz : AllU8 l) (hl : l.length ≤ 140737488351232) (w : World) (hC : (Kd.int .u8).C w A l.length l) (hc : l.length ≤ c) :
    Calls Try.prog 23 #[.slice A l.length c] w fun e w' => ∃ v, e = .returned v ∧ (Kd.int .u64).R 25 w' w.heap.size (fun _ => True) v (wordsOf l) ∧ Below w.heap.size w w' := by
  go_enter Try.func23, Try.ntmps23
  go_wp2
  go_loopw [3, 4] (fun v i wr => ∃ j : Nat, j ≤ nwords l.length ∧ i = .int .i64 (8 * (j : Int)) ∧ (Kd.int .u64).R 25 wr w.heap.size (fun _ => True) v (upto (wordAt l) j) ∧ Below w.heap.size w wr)
    (fun _ i _ => l.length + 8 - (intOf i).toNat)
  case atStart => exact ⟨0, Nat.zero_le _, rfl, Kd.R_nil _ _ _ _ _, Below.refl _ _⟩
  case round =>
    obtain ⟨j, hj, rfl, hR, hB⟩ := hrel
    by_cases hlt : 8 * j < l.length
    · have hltB : decide (8 * (j : Int) < (l.length : Int)) = true := decide_eq_true (by omega)
      have hl8 : 8 * j + 8 ≤ l.length ∨ l.length < 8 * j + 8 := by omega
      obtain ⟨lim, hlim1, hlim2, hlim3, hlim4⟩ : ∃ lim : Nat, lim ≤ 8 * j + 8 ∧ lim ≤ l.length ∧ (lim = 8 * j + 8 ∨ lim = l.length) ∧ 8 * j < lim := by
        rcases hl8 with h | h
        · exact ⟨8 * j + 8, by omega, by omega, .inl rfl, by omega⟩
        · exact ⟨l.length, by omega, by omega, .inr rfl, by omega⟩
      obtain ⟨wo, hwo⟩ : ∃ wo : World, wo = wr := ⟨_, rfl⟩
      subst hwo
      rcases hl8 with h | h
      all_goals
        go_wp2
        go_loopw [5, 6] (fun a b w2 => ∃ m : Nat, 8 * j + m ≤ lim ∧ b = .int .i64 (8 * (j : Int) + m - 1) ∧ a = .int .u64 (wordOf ((l.drop (8 * j + m)).take (lim - (8 * j + m)))) ∧ w2 = wo)
          (fun _ b _ => (intOf b + 1).toNat)
        case atStart => exact ⟨lim - 8 * j, by omega, int_eq (by omega), int_eq (by rw [show lim - (8 * j + (lim - 8 * j)) = 0 from by omega]; rfl), rfl⟩
        case round =>
          obtain ⟨m, hm, rfl, rfl, rfl⟩ := hrel
          rcases m with _ | m
          · -- THE WORD IS WHOLE
            have hT : ((l.drop (8 * j + 0)).take (lim - (8 * j + 0))) = (l.drop (8 * j)).take 8 := take_eq_take (by rw [List.length_drop]; omega)
            rw [hT]
            have hW : (wordOf ((l.drop (8 * j)).take 8)) = wordAt l j := rfl
            rw [hW]
            clear hT hW
            have hexit : decide (8 * (j : Int) ≤ 8 * (j : Int) + ((0 : Nat) : Int) - 1) = false := decide_eq_false (by omega)
            go_wp2_with (at_builtin; go_must (refine Kd.R_append (Kd.int .u64) (w0 := w) w.heap.size rfl _ _ 40 25 (.int .u64 0) 8 rfl Try.underlying40 info_u64 rfl (by decide) (by decide) u3 (upto (wordAt l) j) (wordAt l j) [.int .u64 (wordAt l j)] (fun _ => True) (fun _ => False) rfl rfl rfl (fun _ h => h.elim) (fun _ _ => trivial) hR hB hB.size (by rw [upto_length]; unfold nwords at hj; omega) ?_; intro v1 w1 ho hb hg hat))
            go_roundw
            case rel => exact ⟨j + 1, by unfold nwords; omega, by go_num, by rw [upto_succ]; exact ho, hb⟩
            case measure => simp [intOf]; omega
          · obtain ⟨ad, e0, hcell0⟩ := at_nat hC (show 8 * j + m < l.length by omega)
            cases e0
            have hx := hz _ (List.getElem_mem (show 8 * j + m < l.length by omega))
            have hcell := (hB.cell (World.block_lt_of_cell? w _ hcell0)).trans hcell0
            clear hcell0
            go_wp2
            go_roundw
            case rel =>
              refine ⟨m, by omega, by go_num, int_eq ?_, trivial⟩
              rw [drop_take_cons (show 8 * j + m < lim by omega) hlim2, ← getD_get l (show 8 * j + m < l.length by omega)]
              exact word_horner (allU8_take (allU8_drop hz _) _) (by rw [List.length_take]; omega) ⟨hx.1, hx.2⟩
            case measure => simp [intOf]; omega
    · obtain rfl : j = nwords l.length := by unfold nwords at hj ⊢; omega
      go_wp2
      go_ret
      exact ⟨_, rfl, hR, hB⟩

theorem wrap_tdiv (x : Int) : IntKind.u64.wrap ((IntKind.u64.wrap x).tdiv 4294967296) = IntKind.u64.wrap x / 4294967296 := by
  have h := wrap_u64_u64 x
  rw [Int.tdiv_eq_ediv_of_nonneg h.1]
  have h1 := h.1
  have h2 := h.2
  generalize IntKind.u64.wrap x = y at h1 h2 ⊢
  rw [IntKind.wrap_u64]
  omega

set_option maxRecDepth 100000 in
set_option maxHeartbeats 1000000 in
theorem refmix_calls (a b : Int) (w : World) : Calls Try.prog 27 #[.int .u64 a, .int .u64 b] w fun e w' => e = .returned (.int .u64 (mixI a b)) ∧ w = w' := by
  go_enter Try.func27, Try.ntmps27
  go_wp2
  go_ret
  exact ⟨ret_int (by unfold mixI; rw [wrap_tdiv]), rfl⟩

theorem Words_string (s : ByteArray) (hs : s.size ≤ 140737488351232) (w : World) (c : Nat) (hc : s.size ≤ c) :
    Calls Try.prog 23 #[.slice (some ⟨w.heap.size, 0, none⟩) s.size c] (Lib.bytesWorld w 5 s) fun e w' => ∃ A c', e = .returned (.slice A (nwords s.size) c') ∧ (Kd.int .u64).C w' A (wordsOf (bytesOf s)).length (wordsOf (bytesOf s)) ∧ Below w.heap.size w w' := by
  have hC : (Kd.int .u8).C (Lib.bytesWorld w 5 s) (some ⟨w.heap.size, 0, none⟩) (bytesOf s).length (bytesOf s) := by
    rw [bytesOf_length]
    exact Kd.C_of_reads (d := (0 : Int)) (h1 := fun _ => rfl) (bytes_reads w 5 s (by omega))
  have h := Words_calls (some ⟨w.heap.size, 0, none⟩) c (bytesOf s) (bytesOf_u8 s) (by rw [bytesOf_length]; exact hs) (Lib.bytesWorld w 5 s) hC (by rw [bytesOf_length]; exact hc)
  rw [bytesOf_length] at h
  refine h.mono ?_
  rintro e w' ⟨v, rfl, hR, hB⟩
  obtain ⟨A, c', rfl, _, hC'⟩ := Kd.R_reads hR
  have hb0 := bytes_below (Below.refl w.heap.size w) (Nat.le_refl _) 5 s
  exact ⟨A, c', by rw [wordsOf_length, bytesOf_length], hC', hb0.trans (hB.mono hb0.size)⟩

set_option maxRecDepth 100000 in
set_option maxHeartbeats 2000000 in
theorem refSum_calls (s : ByteArray) (hs : s.size ≤ 140737488351232) (A : Option Addr) (c : Nat) (l : List Int) (hl : l.length ≤ 140737488351232) (w : World) (hC : (Kd.int .i64).C w A l.length l) :
    Calls Try.prog 14 #[.string s, .slice A l.length c] w fun e w' => e = .returned (.int .u64 (sumI (bytesOf s) l)) ∧ Below w.heap.size w w' := by
  have Hfin := Lib.hid (sumI_string s l)
  have hnw : nwords s.size ≤ s.size := by unfold nwords; omega
  have hwl : (wordsOf (bytesOf s)).length ≤ nwords s.size := by rw [wordsOf_length, bytesOf_length]; exact Nat.le_refl _
  have hwl2 : nwords s.size ≤ (wordsOf (bytesOf s)).length := by rw [wordsOf_length, bytesOf_length]; exact Nat.le_refl _
  have kb := fun W => print_bytes (P := Try.prog) 9 30 5 Try.underlying9 Try.underlying30 Try.underlying5 s W
  go_enter Try.func14, Try.ntmps14
  go_wp2_with (go_at_call 23; go_must (refine (Words_string s hs w _ (grownCap_ge _ _ _ _)).mono ?_; rintro e w1 ⟨A1, c1, rfl, hC1, hB1⟩))
  clear kb
  go_loopw [5, 7] (fun a i wr => ∃ k : Nat, k ≤ nwords s.size ∧ i = .int .i64 (k : Int) ∧ a = .int .u64 (fold 0 ((wordsOf (bytesOf s)).take k)) ∧ wr = w1) (fun _ i _ => nwords s.size - (intOf i).toNat)
  case atStart => exact ⟨0, Nat.zero_le _, rfl, rfl, rfl⟩
  case round =>
    obtain ⟨k, hk, rfl, rfl, rfl⟩ := hrel
    by_cases hlt : k < nwords s.size
    · have hkw : k < (wordsOf (bytesOf s)).length := by omega
      obtain ⟨ad, e0, hcell0⟩ := at_nat hC1 hkw
      cases e0
      rw [← getD_get _ hkw] at hcell0
      go_wp2_with (go_at_call 27; refine (refmix_calls _ _ _).mono ?_; rintro e w' ⟨rfl, rfl⟩)
      go_roundw
      case rel => exact ⟨k + 1, by omega, by go_num, int_eq (by rw [List.take_succ_eq_append_getElem hkw, fold_snoc]), trivial⟩
      case measure => simp [intOf]; omega
    · obtain rfl : k = nwords s.size := by omega
      have hT : (wordsOf (bytesOf s)).take (nwords s.size) = wordsOf (bytesOf s) := List.take_of_length_le (by omega)
      rw [hT]
      clear hT
      go_wp2_with (go_at_call 27; refine (refmix_calls _ _ _).mono ?_; rintro e w' ⟨rfl, rfl⟩)
      obtain ⟨wo, hwo⟩ : ∃ wo : World, wo = wr := ⟨_, rfl⟩
      subst hwo
      go_loopw [5, 8] (fun a i w2 => ∃ k : Nat, k ≤ l.length ∧ i = .int .i64 (k : Int) ∧ a = .int .u64 (fold (mixI (mixI (fold 0 (wordsOf (bytesOf s))) s.size) l.length) (u64s (l.take k))) ∧ w2 = wo) (fun _ i _ => l.length - (intOf i).toNat)
      case atStart => exact ⟨0, Nat.zero_le _, rfl, rfl, rfl⟩
      case round =>
        obtain ⟨k, hk, rfl, rfl, rfl⟩ := hrel
        by_cases hlt : k < l.length
        · obtain ⟨ad, e0, hcell0⟩ := at_nat hC hlt
          subst e0
          have hcell := (hB1.cell (World.block_lt_of_cell? w _ hcell0)).trans hcell0
          clear hcell0
          go_wp2_with (go_at_call 27; refine (refmix_calls _ _ _).mono ?_; rintro e w' ⟨rfl, rfl⟩)
          go_roundw
          case rel => exact ⟨k + 1, by omega, by go_num, int_eq (by rw [u64s_take_succ l hlt, fold_snoc]), trivial⟩
          case measure => simp [intOf]; omega
        · obtain rfl : k = l.length := by omega
          go_wp2_with (go_at_call 27; refine (refmix_calls _ _ _).mono ?_; rintro e w' ⟨rfl, rfl⟩)
          go_ret
          exact ⟨by rw [Hfin.out]; rfl, hB1⟩

theorem bytesL_len (b : List Int) : (i64s (wordsOf b) ++ [(b.length : Int)]).length = (wordsOf b).length + 1 := bytesL_length b

/-- The reference's Sum at a row of the call's own. -/
theorem refSum_own (s : ByteArray) (hs : s.size ≤ 140737488351232) {base e n cap : Nat} {A : Option Addr} (l : List Int) (hn : n = l.length) (hl : l.length ≤ 140737488351232) (w : World) (h : (Kd.int .i64).R e w base (fun _ => True) (.slice A n cap) l) :
    Calls Try.prog 14 #[.string s, .slice A n cap] w fun e w' => e = .returned (.int .u64 (sumI (bytesOf s) l)) ∧ Below w.heap.size w w' := by
  obtain ⟨_, hle, hC⟩ := Kd.R_reads' h
  subst hn
  exact refSum_calls s hs _ cap l hl w hC
/-- Sum at a row of the call's own. -/
theorem Sum_R (s : ByteArray) (hs : s.size ≤ 140737488351232) {base e n cap : Nat} {A : Option Addr} (l : List Int) (hn : n = l.length) (hl : l.length ≤ 140737488351232) (w : World) (h : (Kd.int .i64).R e w base (fun _ => True) (.slice A n cap) l) :
    Calls Try.prog 13 #[.string s, .slice A n cap] w fun e w' => e = .returned (.int .u64 (sumI (bytesOf s) l)) ∧ Below w.heap.size w w' := by
  obtain ⟨_, hle, hC⟩ := Kd.R_reads' h
  subst hn
  exact Sum_calls s hs _ cap l hl w hC hle

set_option maxRecDepth 100000 in
set_option maxHeartbeats 2000000 in
theorem refBytes_calls (s : ByteArray) (hs : s.size ≤ 140737488351232) (A : Option Addr) (c : Nat) (b : List Int) (hz : AllU8 b) (hl : b.length ≤ 140737488351232) (w : World) (hC : (Kd.int .u8).C w A b.length b) (hc : b.length ≤ c) :
    Calls Try.prog 18 #[.string s, .slice A b.length c] w fun e w' => e = .returned (.int .u64 (sumI (bytesOf s) (bytesL b))) ∧ Below w.heap.size w w' := by
  have hnw : nwords b.length * 8 ≤ b.length + 7 := by unfold nwords; omega
  have hwl : (wordsOf b).length ≤ nwords b.length := by rw [wordsOf_length]; exact Nat.le_refl _
  have hbl : (bytesL b).length ≤ (wordsOf b).length + 1 := by rw [bytesL_length]; exact Nat.le_refl _
  go_enter Try.func18, Try.ntmps18
  go_wp2_with (go_at_call 23; go_must (refine (Words_calls A c b hz hl w hC hc).mono ?_; rintro e w1 ⟨v1, rfl, hR1, hB1⟩; obtain ⟨A1, c1, rfl, hc1, hC1⟩ := Kd.R_reads hR1; clear hR1))
  go_loopw [6, 7] (fun v i wr => ∃ k : Nat, k ≤ (wordsOf b).length ∧ i = .int .i64 (k : Int) ∧ (Kd.int .i64).R 3 wr w1.heap.size (fun _ => True) v (i64s ((wordsOf b).take k)) ∧ Below w1.heap.size w1 wr) (fun _ i _ => (wordsOf b).length - (intOf i).toNat)
  case atStart => exact ⟨0, Nat.zero_le _, rfl, Kd.R_nil _ _ _ _ _, Below.refl _ _⟩
  case round =>
    obtain ⟨k, hk, rfl, hR, hB⟩ := hrel
    have hkl : (i64s ((wordsOf b).take k)).length = k := by rw [i64s_length, List.length_take]; omega
    have Hkl := Lib.hid hkl
    clear hkl
    by_cases hlt : k < (wordsOf b).length
    · obtain ⟨ad, e0, hcell0⟩ := at_nat hC1 hlt
      cases e0
      rw [← getD_get _ hlt] at hcell0
      have hcell := (hB.cell (World.block_lt_of_cell? w1 _ hcell0)).trans hcell0
      clear hcell0
      go_wp2_with (at_builtin; go_must (refine Kd.R_append (Kd.int .i64) (w0 := w1) w1.heap.size rfl _ _ 22 3 (.int .i64 0) 8 rfl Try.underlying22 info_int rfl (by decide) (by decide) u6 (i64s ((wordsOf b).take k)) (wrap64 (wordsOf b)[k]) [.int .i64 (wrap64 (wordsOf b)[k])] (fun _ => True) (fun _ => False) rfl rfl rfl (fun _ h => h.elim) (fun _ _ => trivial) hR hB hB.size (by rw [Hkl.out]; omega) ?_; intro v1 w2 ho hb hg hat))
      go_roundw
      case rel => exact ⟨k + 1, by omega, by go_num, by rw [List.take_succ_eq_append_getElem hlt, i64s_snoc]; exact ho, hb⟩
      case measure => simp [intOf]; omega
    · obtain rfl : k = (wordsOf b).length := by omega
      rw [List.take_of_length_le (Nat.le_refl _)] at hR Hkl
      go_wp2_with (first
        | (at_builtin; go_must (refine Kd.R_append (Kd.int .i64) (w0 := w1) w1.heap.size rfl _ _ 22 3 (.int .i64 0) 8 rfl Try.underlying22 info_int rfl (by decide) (by decide) u6 (i64s (wordsOf b)) (b.length : Int) [.int .i64 (b.length : Int)] (fun _ => True) (fun _ => False) rfl rfl rfl (fun _ h => h.elim) (fun _ _ => trivial) hR hB hB.size (by rw [Hkl.out]; omega) ?_; intro v1 w2 ho hb hg hat; obtain ⟨A2, c2, hv2, hc2, _⟩ := Kd.R_reads ho; rw [bytesL_len b] at hv2; subst hv2; clear hat hc2))
        | (go_at_call 14; go_must (refine (refSum_own s hs (bytesL b) (bytesL_length b).symm (by omega) w2 ho).mono ?_; rintro e w3 ⟨rfl, hB3⟩)))
      go_ret
      exact ⟨rfl, hB1.trans ((hb.mono hB1.size).trans (hB3.mono (Nat.le_trans hB1.size hb.size)))⟩


set_option maxRecDepth 100000 in
set_option maxHeartbeats 2000000 in
theorem Pair_calls (a b : Int) (w : World) :
    Calls Try.prog 19 #[.int .u64 a, .int .u64 b] w fun e w' => e = .returned (.int .u64 (pairI a b)) ∧ Below w.heap.size w w' := by
  go_enter Try.func19, Try.ntmps19
  go_wp2_with (go_at_call 13; go_must (refine (Sum_own _ (by decide) (base := w.heap.size) (e := 3) [wrap64 a, wrap64 b] rfl (by simp) _ (World.ownsRow_lit w _ 2 (Nat.le_refl _) (by decide) rfl)).mono ?_; rintro e w2 ⟨rfl, hB2⟩))
  go_ret
  exact ⟨rfl, ((Below.refl _ w).alloc (Nat.le_refl _) _).trans (hB2.mono (by simp))⟩

set_option maxRecDepth 100000 in
set_option maxHeartbeats 2000000 in
theorem refPair_calls (a b : Int) (w : World) :
    Calls Try.prog 20 #[.int .u64 a, .int .u64 b] w fun e w' => e = .returned (.int .u64 (pairI a b)) ∧ Below w.heap.size w w' := by
  go_enter Try.func20, Try.ntmps20
  go_wp2_with (go_at_call 14; go_must (refine (refSum_own _ (by decide) (base := w.heap.size) (e := 3) [wrap64 a, wrap64 b] rfl (by simp) _ (Kd.R_of_own (h1 := fun _ => rfl) (World.ownsRow_lit w _ 2 (Nat.le_refl _) (by decide) rfl) (fun _ _ => trivial))).mono ?_; rintro e w2 ⟨rfl, hB2⟩))
  go_ret
  exact ⟨rfl, ((Below.refl _ w).alloc (Nat.le_refl _) _).trans (hB2.mono (by simp))⟩

end Go.Proofs.Ytnkbaaffihocjaa
