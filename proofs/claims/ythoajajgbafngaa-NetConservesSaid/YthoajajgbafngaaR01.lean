/- Small lemmas, and the contracts of the reference model's small functions. -/
import Derived.Test.YthoajajgbafngaaProg
import Derived.Test.YthoajajgbafngaaSep3
namespace Go.Proofs.Ythoajajgbafngaa
set_option linter.unusedVariables false
set_option linter.unusedSimpArgs false
open Go.RowKit Go.Shelf Go.Proofs.YthoajajgbafngaaW.PrintWords Go.Proofs.YthoajajgbafngaaW.PrintLast Go.Proofs.YthoajajgbafngaaW.PrintMore
attribute [local go_sem] max2_int min2_int max_two min_two

theorem info_int : (Try.prog.info? 3).map (fun i => (i.zero, i.size, i.bytes)) = some (some (.int .i64 0), 1, 8) := by kernel_rfl

theorem info_u8 : (Try.prog.info? 5).map (fun i => (i.zero, i.size, i.bytes)) = some (some (.int .u8 0), 1, 1) := by kernel_rfl

def AllU8 (l : List Int) : Prop := ∀ x ∈ l, 0 ≤ x ∧ x < 256

theorem allU8_take {l : List Int} (hl : AllU8 l) (k : Nat) : AllU8 (l.take k) := fun x hx => hl x (List.mem_of_mem_take hx)

theorem allU8_drop {l : List Int} (hl : AllU8 l) (k : Nat) : AllU8 (l.drop k) := fun x hx => hl x (List.mem_of_mem_drop hx)

theorem getD_get (l : List Int) {i : Nat} (h : i < l.length) : l[i] = l[i]?.getD 0 := by simp [h]

/-- Element k of a row that is read. -/
theorem at_nat {k : IntKind} {w : World} {A : Option Addr} {n : Nat} {xs : List Int} (h : (Kd.int k).C w A n xs) {i : Nat} (hi : i < n) : ∃ ad, A = some ad ∧ w.cell? (ad.add i) = some (.int k (xs[i]?.getD 0)) := by
  obtain ⟨ad, e, hc⟩ := Kd.at_int h (i : Int) (by omega) (by omega)
  refine ⟨ad, e, ?_⟩
  simpa [rd, List.getD_eq_getElem?_getD] using hc

theorem kd_take {k : IntKind} {w : World} {A : Option Addr} {xs : List Int} (h : (Kd.int k).C w A xs.length xs) {m : Nat} (hm : m ≤ xs.length) : (Kd.int k).C w A m (xs.take m) := by
  exact Kd.C_of_reads (d := (0 : Int)) (h1 := fun _ => rfl) (ReadsInt.take_ (Kd.reads_of_C (d := (0 : Int)) (h1 := fun _ => rfl) h) m hm)

theorem wf_range {n : Int} (h : (Lit.int .i64 n).wf = true) : -9223372036854775808 ≤ n ∧ n ≤ 9223372036854775807 := by
  simp [Lit.wf, IntKind.min, IntKind.max, IntKind.bits, IntKind.signed] at h
  omega

theorem int_eq {k : IntKind} {a b : Int} (h : a = b) : Value.int k a = Value.int k b := by rw [h]

theorem ret_int {k : IntKind} {a b : Int} (h : a = b) : Ending.returned (.int k a) = .returned (.int k b) := by rw [h]

/-- What a row of the call's own that holds whole numbers is, for a reader. -/
theorem own_kd {w : World} {base n : Nat} {e : TypeId} {k : IntKind} {v : Value} {xs : List Int} (h : w.ownsRow base e 1 v n (nums k xs)) : ∃ A c, v = .slice A xs.length c ∧ xs.length ≤ c ∧ (Kd.int k).C w A xs.length xs := by
  have hn : n = xs.length := by have := h.1; simp [nums] at this; omega
  subst hn
  exact Kd.R_reads (Kd.R_of_own (ok := fun _ => True) (h1 := fun _ => rfl) h (fun _ _ => trivial))

theorem own_kd' {w : World} {base n : Nat} {e : TypeId} {k : IntKind} {A : Option Addr} {c : Nat} {xs : List Int} (h : w.ownsRow base e 1 (.slice A n c) n (nums k xs)) : n = xs.length ∧ n ≤ c ∧ (Kd.int k).C w A xs.length xs := by
  obtain ⟨A', c', he, hle, hC⟩ := own_kd h
  injection he with h1 h2 h3
  subst h1 h2 h3
  exact ⟨rfl, hle, hC⟩

theorem nums_one (k : IntKind) (x : Int) : nums k [x] = [.int k x] := rfl

theorem u8_of_wf {l : List Int} (h : ∀ x ∈ l, (Lit.int .u8 x).wf = true) : AllU8 l := by
  intro x hx
  have := h x hx
  simp [Lit.wf, IntKind.min, IntKind.max, IntKind.bits, IntKind.signed] at this
  omega

theorem byte_of_wf {b : Int} (h : (Lit.int .u8 b).wf = true) : 0 ≤ b ∧ b < 256 := by
  simp [Lit.wf, IntKind.min, IntKind.max, IntKind.bits, IntKind.signed] at h
  omega

/-- A slice of whole numbers that came in. -/
def IsRow (k : IntKind) (w : World) (a : Option Addr) (len cap : Nat) (zs : List Int) : Prop :=
  (a = none ∧ len = 0 ∧ cap = 0 ∧ zs = []) ∨
  ∃ x, a = some x ∧ len ≤ cap ∧ cap ≤ maxLen ∧ zs.length = cap ∧ (∀ i, i < zs.length → w.cell? (x.add i) = some (.int k (zs.getD i 0))) ∧ ∀ n ∈ zs, (Lit.int k n).wf = true

/-- What came in, for the contracts. -/
theorem row_in {k : IntKind} {w : World} {a : Option Addr} {len cap : Nat} {zs : List Int} (h : IsRow k w a len cap zs) : ∃ l : List Int, len = l.length ∧ l.length ≤ cap ∧ (Kd.int k).C w a l.length l ∧ ∀ x ∈ l, (Lit.int k x).wf = true := by
  obtain ⟨l, rfl, hr, _, hw, hc⟩ := ReadsInt.ofRowC h
  exact ⟨l, rfl, hc, Kd.C_of_reads (d := (0 : Int)) (h1 := fun _ => rfl) hr, hw⟩

theorem bthen {w w1 w2 : World} (h : Below w.heap.size w w1) (k : Below w1.heap.size w1 w2) : Below w.heap.size w w2 := h.trans (k.mono h.size)

/-- The first elements, under a name. -/
theorem take_name (l : List Int) (most : Int) : ∃ r, Hid (l.take most.toNat = r) ∧ r.length ≤ most.toNat ∧ r.length ≤ l.length ∧ (AllU8 l → AllU8 r) :=
  ⟨l.take most.toNat, rfl, by rw [List.length_take]; omega, by rw [List.length_take]; omega, fun h => allU8_take h _⟩

theorem beq_beq {α β : Type} [BEq α] [LawfulBEq α] [BEq β] [LawfulBEq β] {x y : α} {a b : β} (h : x = y ↔ a = b) : ((x == y) == (a == b)) = true := by
  have e : (x == y) = (a == b) := by rw [Bool.eq_iff_iff, beq_iff_eq, beq_iff_eq]; exact h
  rw [e]; simp

theorem bytesOf_u8 (s : ByteArray) : AllU8 (bytesOf s) := by
  intro x hx
  simp only [bytesOf, List.mem_map] at hx
  obtain ⟨b, _, rfl⟩ := hx
  have := b.toNat_lt
  exact ⟨by omega, by omega⟩

theorem bytesOf_nums {l : List Int} (h : AllU8 l) : bytesOf (strOfNums l) = l := by
  unfold bytesOf
  rw [strOfNums_data, List.map_map]
  conv => rhs; rw [← List.map_id l]
  apply List.map_congr_left
  intro x hx
  have := h x hx
  simp
  omega

theorem take_eq_succ {l1 l2 : List Int} {k : Nat} (h1 : k < l1.length) (h2 : k < l2.length) (h : l1.take k = l2.take k) (e : l1[k] = l2[k]) : l1.take (k + 1) = l2.take (k + 1) := by
  rw [List.take_succ_eq_append_getElem h1, List.take_succ_eq_append_getElem h2, h, e]

theorem allU8_set {l : List Int} (hl : AllU8 l) (k : Nat) {v : Int} (hv : 0 ≤ v ∧ v < 256) : AllU8 (l.set k v) := by
  intro x hx
  rcases List.mem_or_eq_of_mem_set hx with h | h
  · exact hl x h
  · rw [h]; exact hv

/-- n modulo most, never negative. -/
def aroundI (n most : Int) : Int := (if n < 0 then -(n + 1) else n) % most

theorem aroundI_range (n : Int) {most : Int} (h : 1 ≤ most) : 0 ≤ aroundI n most ∧ aroundI n most < most :=
  ⟨Int.emod_nonneg _ (by omega), Int.emod_lt_of_pos _ (by omega)⟩

set_option maxRecDepth 100000 in
set_option maxHeartbeats 1000000 in
theorem Around_calls (n most : Int) (hn : (Lit.int .i64 n).wf = true) (hm : 1 ≤ most) (hm2 : most ≤ 9223372036854775807) (w : World) :
    Calls Try.prog 26 #[.int .i64 n, .int .i64 most] w fun e w' => e = .returned (.int .i64 (aroundI n most)) ∧ w = w' := by
  have hr := wf_range hn
  clear hn
  by_cases h : n < 0
  · have hT : aroundI n most = -((n + 1).tmod most) := by unfold aroundI; rw [if_pos h, ← Int.neg_tmod, Int.tmod_eq_emod_of_nonneg (by omega)]
    rw [hT]
    clear hT
    go_enter Try.func26, Try.ntmps26
    go_wp2
    go_ret
    exact ⟨rfl, rfl⟩
  · have hT : aroundI n most = n % most := by unfold aroundI; rw [if_neg h]
    rw [hT]
    clear hT
    go_enter Try.func26, Try.ntmps26
    go_wp2
    go_ret
    exact ⟨rfl, rfl⟩

theorem Around_at (n most : Int) (k : Nat) (hk : Hid (aroundI n most = (k : Int))) (hn : (Lit.int .i64 n).wf = true) (hm : 1 ≤ most) (hm2 : most ≤ 9223372036854775807) (w : World) :
    Calls Try.prog 26 #[.int .i64 n, .int .i64 most] w fun e w' => e = .returned (.int .i64 (k : Int)) ∧ w = w' := by
  rw [← hk.out]
  exact Around_calls n most hn hm hm2 w

theorem around_name (n : Int) (m : Nat) (hm : 1 ≤ m) : ∃ k : Nat, Hid (aroundI n (m : Int) = (k : Int)) ∧ k < m := by
  have h := aroundI_range n (show (1 : Int) ≤ (m : Int) by omega)
  exact ⟨(aroundI n m).toNat, show _ = _ by omega, by omega⟩

set_option maxRecDepth 100000 in
set_option maxHeartbeats 1000000 in
theorem Few_calls (A : Option Addr) (c : Nat) (l : List Int) (most : Int) (h0 : 0 ≤ most) (hl : l.length ≤ 140737488351232) (w : World) (hC : (Kd.int .u8).C w A l.length l) (hc : l.length ≤ c) :
    Calls Try.prog 28 #[.slice A l.length c, .int .i64 most] w fun e w' => ∃ v, e = .returned v ∧ (Kd.int .u8).R 5 w' w.heap.size (fun _ => True) v (l.take most.toNat) ∧ Below w.heap.size w w' := by
  by_cases hm : most < (l.length : Int)
  · have hR := kd_take hC (show most.toNat ≤ l.length by omega)
    have hlen : (most.toNat : Nat) ≤ l.length := by omega
    go_enter Try.func28, Try.ntmps28
    go_wp2_with (at_builtin; refine Kd.R_append_rows (Kd.int .u8) (w0 := w) w.heap.size rfl _ _ 30 5 (.int .u8 0) 1 rfl Try.underlying30 info_u8 rfl (by decide) (by omega) (.slice none 0 0) [] (l.take most.toNat) _ _ _ (fun _ => True) (fun _ => False) rfl rfl (Kd.R_nil _ _ _ _ _) hR (fun _ _ h => h) (fun _ h => h.elim) (fun _ _ => trivial) (Below.refl _ _) (Nat.le_refl _) (by simp; omega) ?_; intro v1 w1 ho hb hg hat)
    go_ret
    exact ⟨_, rfl, ho, hb⟩
  · have hT : l.take most.toNat = l := List.take_of_length_le (by omega)
    rw [hT]
    clear hT
    go_enter Try.func28, Try.ntmps28
    go_wp2_with (at_builtin; refine Kd.R_append_rows (Kd.int .u8) (w0 := w) w.heap.size rfl _ _ 30 5 (.int .u8 0) 1 rfl Try.underlying30 info_u8 rfl (by decide) (by omega) (.slice none 0 0) [] l _ _ _ (fun _ => True) (fun _ => False) rfl rfl (Kd.R_nil _ _ _ _ _) hC (fun _ _ h => h) (fun _ h => h.elim) (fun _ _ => trivial) (Below.refl _ _) (Nat.le_refl _) (by simp; omega) ?_; intro v1 w1 ho hb hg hat)
    go_ret
    exact ⟨_, rfl, ho, hb⟩

theorem Few_at (A : Option Addr) (c : Nat) (l : List Int) (most : Int) (r : List Int) (hr : Hid (l.take most.toNat = r)) (h0 : 0 ≤ most) (hl : l.length ≤ 140737488351232) (w : World) (hC : (Kd.int .u8).C w A l.length l) (hc : l.length ≤ c) :
    Calls Try.prog 28 #[.slice A l.length c, .int .i64 most] w fun e w' => ∃ A' c', e = .returned (.slice A' r.length c') ∧ r.length ≤ c' ∧ (Kd.int .u8).R 5 w' w.heap.size (fun _ => True) (.slice A' r.length c') r ∧ Below w.heap.size w w' := by
  have hr' := hr.out
  subst hr'
  refine (Few_calls A c l most h0 hl w hC hc).mono ?_
  rintro e w' ⟨v, rfl, hR, hB⟩
  obtain ⟨A', c', rfl, h1, h2⟩ := Kd.R_reads hR
  exact ⟨A', c', rfl, h1, hR, hB⟩

theorem Few_H (A : Option Addr) (c : Nat) (l : List Int) (most : Int) (h0 : 0 ≤ most) (hl : l.length ≤ 140737488351232) (w : World) (hC : (Kd.int .u8).C w A l.length l) (hc : l.length ≤ c) {F : List Hp} (H : Holds w F) :
    Calls Try.prog 28 #[.slice A l.length c, .int .i64 most] w fun e w' => ∃ A' c', e = .returned (.slice A' (l.take most.toNat).length c') ∧ Holds w' (rowH (Kd.int .u8) 5 (.slice A' (l.take most.toNat).length c') (l.take most.toNat) :: F) ∧ Calm w w' := by
  refine (Few_calls A c l most h0 hl w hC hc).mono ?_
  rintro e w' ⟨v, rfl, hR, hB⟩
  have H1 := H.made hB hR
  obtain ⟨A', c', rfl, _⟩ := H1.row
  exact ⟨A', c', rfl, H1, Calm.of_below hB⟩

set_option maxRecDepth 100000 in
set_option maxHeartbeats 1000000 in
theorem Ints_calls (A : Option Addr) (c : Nat) (l : List Int) (most : Int) (h0 : 0 ≤ most) (hl : l.length * 8 ≤ 140737488351232) (w : World) (hC : (Kd.int .i64).C w A l.length l) (hc : l.length ≤ c) :
    Calls Try.prog 27 #[.slice A l.length c, .int .i64 most] w fun e w' => ∃ v, e = .returned v ∧ (Kd.int .i64).R 3 w' w.heap.size (fun _ => True) v (l.take most.toNat) ∧ Below w.heap.size w w' := by
  by_cases hm : most < (l.length : Int)
  · have hR := kd_take hC (show most.toNat ≤ l.length by omega)
    have hlen : (most.toNat : Nat) ≤ l.length := by omega
    go_enter Try.func27, Try.ntmps27
    go_wp2_with (at_builtin; refine Kd.R_append_rows (Kd.int .i64) (w0 := w) w.heap.size rfl _ _ 22 3 (.int .i64 0) 8 rfl Try.underlying22 info_int rfl (by decide) (by omega) (.slice none 0 0) [] (l.take most.toNat) _ _ _ (fun _ => True) (fun _ => False) rfl rfl (Kd.R_nil _ _ _ _ _) hR (fun _ _ h => h) (fun _ h => h.elim) (fun _ _ => trivial) (Below.refl _ _) (Nat.le_refl _) (by simp; omega) ?_; intro v1 w1 ho hb hg hat)
    go_ret
    exact ⟨_, rfl, ho, hb⟩
  · have hT : l.take most.toNat = l := List.take_of_length_le (by omega)
    rw [hT]
    clear hT
    go_enter Try.func27, Try.ntmps27
    go_wp2_with (at_builtin; refine Kd.R_append_rows (Kd.int .i64) (w0 := w) w.heap.size rfl _ _ 22 3 (.int .i64 0) 8 rfl Try.underlying22 info_int rfl (by decide) (by omega) (.slice none 0 0) [] l _ _ _ (fun _ => True) (fun _ => False) rfl rfl (Kd.R_nil _ _ _ _ _) hC (fun _ _ h => h) (fun _ h => h.elim) (fun _ _ => trivial) (Below.refl _ _) (Nat.le_refl _) (by simp; omega) ?_; intro v1 w1 ho hb hg hat)
    go_ret
    exact ⟨_, rfl, ho, hb⟩

theorem Ints_at (A : Option Addr) (c : Nat) (l : List Int) (most : Int) (r : List Int) (hr : Hid (l.take most.toNat = r)) (h0 : 0 ≤ most) (hl : l.length * 8 ≤ 140737488351232) (w : World) (hC : (Kd.int .i64).C w A l.length l) (hc : l.length ≤ c) :
    Calls Try.prog 27 #[.slice A l.length c, .int .i64 most] w fun e w' => ∃ A' c', e = .returned (.slice A' r.length c') ∧ r.length ≤ c' ∧ (Kd.int .i64).R 3 w' w.heap.size (fun _ => True) (.slice A' r.length c') r ∧ Below w.heap.size w w' := by
  have hr' := hr.out
  subst hr'
  refine (Ints_calls A c l most h0 hl w hC hc).mono ?_
  rintro e w' ⟨v, rfl, hR, hB⟩
  obtain ⟨A', c', rfl, h1, h2⟩ := Kd.R_reads hR
  exact ⟨A', c', rfl, h1, hR, hB⟩

theorem Ints_H (A : Option Addr) (c : Nat) (l : List Int) (most : Int) (h0 : 0 ≤ most) (hl : l.length * 8 ≤ 140737488351232) (w : World) (hC : (Kd.int .i64).C w A l.length l) (hc : l.length ≤ c) {F : List Hp} (H : Holds w F) :
    Calls Try.prog 27 #[.slice A l.length c, .int .i64 most] w fun e w' => ∃ A' c', e = .returned (.slice A' (l.take most.toNat).length c') ∧ Holds w' (rowH (Kd.int .i64) 3 (.slice A' (l.take most.toNat).length c') (l.take most.toNat) :: F) ∧ Calm w w' := by
  refine (Ints_calls A c l most h0 hl w hC hc).mono ?_
  rintro e w' ⟨v, rfl, hR, hB⟩
  have H1 := H.made hB hR
  obtain ⟨A', c', rfl, _⟩ := H1.row
  exact ⟨A', c', rfl, H1, Calm.of_below hB⟩

set_option maxRecDepth 100000 in
set_option maxHeartbeats 2000000 in
theorem SameBytes_calls (A1 : Option Addr) (c1 : Nat) (l1 : List Int) (A2 : Option Addr) (c2 : Nat) (l2 : List Int) (w : World) (hC1 : (Kd.int .u8).C w A1 l1.length l1) (hC2 : (Kd.int .u8).C w A2 l2.length l2) (hl : l1.length ≤ 140737488351232) :
    Calls Try.prog 29 #[.slice A1 l1.length c1, .slice A2 l2.length c2] w fun e w' => e = .returned (.bool (decide (l1 = l2))) ∧ Drawn0 w w' := by
  by_cases hne : l1.length = l2.length
  · have hB : ((l1.length : Int) == (l2.length : Int)) = true := beq_iff_eq.mpr (by omega)
    have hB1 : ((l1.length : Int) != (l2.length : Int)) = false := bne_eq_false_iff_eq.mpr (by omega)
    have hB2 : (l1.length == l2.length) = true := by simpa using hne
    have Hne := Lib.hid hne
    have hle : l1.length ≤ l2.length := by omega
    clear hne
    go_enter Try.func29, Try.ntmps29
    go_wp2
    repeat (go_quiet (fail); try go_wp2)
    go_loopw [5] (fun i wr => ∃ k : Nat, k ≤ l1.length ∧ i = .int .i64 (k : Int) ∧ Hid (l1.take k = l2.take k) ∧ Drawn0 w wr) (fun i _ => l1.length - (intOf i).toNat)
    case atStart => exact ⟨0, Nat.zero_le _, rfl, rfl, by repeat (first | exact Drawn0.refl _ | apply Drawn0.step)⟩
    case round =>
      obtain ⟨k, hk, rfl, hT, ⟨m1, rfl⟩⟩ := hrel
      by_cases hlt : k < l1.length
      · obtain ⟨ad1, e1, hcell1⟩ := at_nat hC1 hlt
        obtain ⟨ad2, e2, hcell2⟩ := at_nat hC2 (show k < l2.length by omega)
        cases e1
        cases e2
        have hlt2 : k < l2.length := by omega
        have hx1 : l1[k]?.getD 0 = l1[k] := by simp [hlt]
        have hx2 : l2[k]?.getD 0 = l2[k] := by simp [hlt2]
        rw [hx1] at hcell1
        rw [hx2] at hcell2
        clear hx1 hx2
        have hi0 : 0 ≤ (k : Int) := by omega
        have hi1 : (k : Int) < (l1.length : Int) := by omega
        have hi2 : (k : Int) < (l2.length : Int) := by omega
        by_cases hx : l1[k] = l2[k]
        · have hxB : (l1[k] == l2[k]) = true := by simpa using hx
          have hxB1 : (l1[k] != l2[k]) = false := by simpa using hx
          have HX := Lib.hid hx
          clear hx
          go_wp2
          repeat (go_quiet (fail); try go_wp2)
          go_roundw
          case rel => exact ⟨k + 1, by omega, by go_num, take_eq_succ hlt hlt2 hT.out HX.out, by repeat (first | exact Drawn0.refl _ | apply Drawn0.step)⟩
          case measure => simp [intOf]; omega
        · have hxB : (l1[k] == l2[k]) = false := by simpa using hx
          have hxB1 : (l1[k] != l2[k]) = true := by simpa using hx
          have HR : Hid (decide (l1 = l2) = false) := decide_eq_false (fun e => hx (by subst e; rfl))
          clear hx
          go_wp2
          repeat (go_quiet (fail); try go_wp2)
          go_ret
          exact ⟨by rw [HR.out]; rfl, by repeat (first | exact Drawn0.refl _ | apply Drawn0.step)⟩
      · have HR : Hid (decide (l1 = l2) = true) := decide_eq_true (by
          have h := hT.out
          have h1 := Hne.out
          rwa [List.take_of_length_le (by omega), List.take_of_length_le (by omega)] at h)
        go_wp2
        repeat (go_quiet (fail); try go_wp2)
        go_ret
        exact ⟨by rw [HR.out]; rfl, by repeat (first | exact Drawn0.refl _ | apply Drawn0.step)⟩
  · have hB : ((l1.length : Int) == (l2.length : Int)) = false := beq_eq_false_iff_ne.mpr (by omega)
    have hB1 : ((l1.length : Int) != (l2.length : Int)) = true := bne_iff_ne.mpr (by omega)
    have hB2 : (l1.length == l2.length) = false := by simpa using hne
    have HR : Hid (decide (l1 = l2) = false) := decide_eq_false (fun e => hne (by rw [e]))
    clear hne
    go_enter Try.func29, Try.ntmps29
    go_wp2
    repeat (go_quiet (fail); try go_wp2)
    go_ret
    exact ⟨by rw [HR.out]; rfl, by repeat (first | exact Drawn0.refl _ | apply Drawn0.step)⟩

theorem Same_n (A1 : Option Addr) (c1 n1 : Nat) (l1 : List Int) (A2 : Option Addr) (c2 n2 : Nat) (l2 : List Int) (w : World) (h1 : n1 = l1.length) (h2 : n2 = l2.length) (hC1 : (Kd.int .u8).C w A1 l1.length l1) (hC2 : (Kd.int .u8).C w A2 l2.length l2) (hl : n1 ≤ 140737488351232) :
    Calls Try.prog 29 #[.slice A1 n1 c1, .slice A2 n2 c2] w fun e w' => e = .returned (.bool (decide (l1 = l2))) ∧ Below w.heap.size w w' := by
  subst h1 h2
  exact (SameBytes_calls A1 c1 l1 A2 c2 l2 w hC1 hC2 hl).mono fun e w' h => ⟨h.1, h.2.below⟩

theorem SameBytes_H (A1 : Option Addr) (c1 n1 : Nat) (l1 : List Int) (A2 : Option Addr) (c2 n2 : Nat) (l2 : List Int) (b : Bool) (hb : Hid (decide (l1 = l2) = b)) (w : World) (h1 : n1 = l1.length) (h2 : n2 = l2.length) (hC1 : (Kd.int .u8).C w A1 l1.length l1) (hC2 : (Kd.int .u8).C w A2 l2.length l2) (hl : n1 ≤ 140737488351232) {F : List Hp} (H : Holds w F) :
    Calls Try.prog 29 #[.slice A1 n1 c1, .slice A2 n2 c2] w fun e w' => e = .returned (.bool b) ∧ Holds w' F ∧ Calm w w' := by
  refine (Same_n A1 c1 n1 l1 A2 c2 n2 l2 w h1 h2 hC1 hC2 hl).mono ?_
  rintro e w' ⟨rfl, hB⟩
  rw [hb.out]
  exact ⟨rfl, H.below hB, Calm.of_below hB⟩

end Go.Proofs.Ythoajajgbafngaa
