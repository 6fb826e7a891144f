/- The contracts of package bits' Writer: Bits, Unary, Len, Done. -/
import Derived.Test.YtkkhpdbognaioaaBitsW
import Derived.Test.YtkkhpdbognaioaaSep7
import Derived.Stop.RegionWithIn
import Derived.BigRegionIn
import Derived.Shelf.RegionOpen
namespace Go.Proofs.Ytkkhpdbognaioaa
set_option linter.unusedVariables false
set_option linter.unusedSimpArgs false
open Go.RowKit Go.Shelf Go.Proofs.YtkkhpdbognaioaaW.PrintWords Go.Proofs.YtkkhpdbognaioaaW.PrintLast Go.Proofs.YtkkhpdbognaioaaW.PrintMore

attribute [local go_sem] Oper.semAt_some

/-- A count held between 0 and a limit. -/
def clampN (n : Int) (m : Nat) : Nat := (max 0 (min n (m : Int))).toNat
theorem clampN_le (n : Int) (m : Nat) : clampN n m ≤ m := by unfold clampN; omega
set_option maxRecDepth 100000 in
set_option maxHeartbeats 1000000 in
theorem clamp_calls (n : Int) (m : Nat) (hm : m ≤ 1000000) (w : World) : Calls Try.prog 47 #[.int .i64 n, .int .i64 (m : Int)] w fun e w' => e = .returned (.int .i64 (clampN n m : Int)) ∧ w = w' := by
  go_enter Try.func47, Try.ntmps47
  go_wp2
  all_goals
    go_ret
    refine ⟨ret_int ?_, rfl⟩
    unfold clampN
    omega

/-! ### counting down -/
def downL : Nat → List Nat
  | 0 => []
  | k + 1 => k :: downL k
theorem downL_length (k : Nat) : (downL k).length = k := by
  induction k with
  | zero => rfl
  | succ k ih => simp [downL, ih]
theorem downL_get : ∀ (k j : Nat) (h : j < (downL k).length), (downL k)[j] = k - 1 - j
  | 0, j, h => by simp [downL] at h
  | k + 1, 0, h => by simp [downL]
  | k + 1, j + 1, h => by
    have := downL_get k j (by simpa [downL] using h)
    simp only [downL, List.getElem_cons_succ, this]
    omega
theorem downL_bits (n : Nat) : ∀ k : Nat, (downL k).map (fun x => decide (n / 2 ^ x % 2 = 1)) = bitsN n k
  | 0 => rfl
  | k + 1 => by rw [downL, List.map_cons, downL_bits n k, bitsN]
/-- What the iterator needs kept: its box. -/
def KpX (Bs : Nat) (W W' : World) : Prop := W'.heap[Bs]? = W.heap[Bs]?
theorem KpX.cell {Bs : Nat} {A B : World} (h : KpX Bs A B) (i : Nat) : B.cell? ⟨Bs, i, none⟩ = A.cell? ⟨Bs, i, none⟩ := World.cell?_of_block (w := A) h

theorem down_in (F : Fence) (n : Nat) (h : F.fn 51) (hro : F.round = none) (k : Int) (w : World) :
    CallsIn F n Try.prog 51 #[.int .i64 k] w fun e w' => e = .returned (.func (.func 59) #[] #[.pointer (some ⟨w.heap.size, 0, none⟩)]) ∧ w' = w.alloc (.cells #[.int .i64 k] 3) := by
  refine callsIn_of_wp Try.func51 rfl h ?_ hro
  simp only [Try.ntmps51, List.size_toArray, List.length_cons, List.length_nil, Nat.reduceAdd, Nat.reduceSub, Array.replicate_succ, Array.replicate_zero, List.push_toArray, List.append_toArray, List.nil_append, List.cons_append]
  gi_wp2
  go_ret
  exact ⟨rfl, rfl⟩

set_option maxRecDepth 100000 in
set_option maxHeartbeats 2000000 in
theorem down_1 (F : Fence) (n : Nat) (h29 : F.fn 59) (hro : F.round = none) (hn : 1 ≤ n) (l Bs k : Nat) (hk : k ≤ 1000000) (J Jx : List Nat → World → Prop)
    (hY : ∀ pre x W, J pre W → pre.length < k → YieldAt F (n - 1) Try.prog l #[.int .i64 (x : Nat)] W fun e W' =>
      (e = .returned (.bool true) ∧ J (pre ++ [x]) W' ∧ KpX Bs W W') ∨ (e = .returned (.bool false) ∧ Jx (pre ++ [x]) W'))
    (W : World) (hBs : W.cell? ⟨Bs, 0, none⟩ = some (.int .i64 (k : Int))) (h0 : J [] W) :
    CallsIn F n Try.prog 59 #[.func (.yield l) #[] #[], .pointer (some ⟨Bs, 0, none⟩)] W fun e W' => (∃ v, e = .returned v) ∧
      ((∃ ys, ys = downL k ∧ J ys W') ∨ (∃ pre, True ∧ Jx pre W')) := by
  refine callsIn_of_wp Try.func59 rfl h29 ?_ hro
  simp only [Try.ntmps59, List.size_toArray, List.length_cons, List.length_nil, Nat.reduceAdd, Nat.reduceSub, Array.replicate_succ, Array.replicate_zero, List.push_toArray, List.append_toArray, List.nil_append, List.cons_append]
  gi_wp2
  gi_loopw [3] (fun i wr => ∃ j : Nat, j ≤ k ∧ i = .int .i64 ((k : Int) - 1 - j) ∧ J ((downL k).take j) wr ∧ KpX Bs W wr)
    (fun i _ => (intOf i + 1).toNat)
  case atStart => exact ⟨0, Nat.zero_le _, by go_num, h0, rfl⟩
  case round =>
    obtain ⟨j, hj, rfl, hJs, hnx⟩ := hrel
    by_cases hlt : j < k
    · have hjl : j < (downL k).length := by rw [downL_length]; exact hlt
      have hge : (0 : Int) ≤ (k : Int) - 1 - j := by omega
      obtain ⟨x, hx⟩ : ∃ x : Nat, Hid ((k : Int) - 1 - j = (x : Int) ∧ k - 1 - j = x) := ⟨k - 1 - j, by constructor <;> omega⟩
      have htk : (downL k).take (j + 1) = (downL k).take j ++ [x] := by
        rw [List.take_succ_eq_append_getElem hjl, downL_get k j hjl, hx.out.2]
      have Htk := Lib.hid htk
      obtain ⟨fn, tmps, assign, body, hy, hR⟩ := hY _ x wr hJs (by rw [List.length_take]; omega)
      clear htk
      rw [hx.out.1]
      rw [hx.out.1] at hge
      have hx1 : (x : Int) ≤ 1000000 := by have := hx.out.2; omega
      gi_wp2
      refine hR.mono ?_
      rintro e W3 (⟨rfl, hJ3, hk3⟩ | ⟨rfl, hJx3⟩)
      · gi_wp2
        go_roundw
        case rel => exact ⟨j + 1, by omega, int_eq (by have := hx.out.1; omega), by rw [Htk.out]; exact hJ3, hk3.trans hnx⟩
        case measure => simp [intOf]; try omega
      · gi_wp2
        refine bodyPost_ret (results_none rfl _ _ _) rfl ?_
        exact ⟨⟨_, rfl⟩, .inr ⟨_, trivial, hJx3⟩⟩
    · obtain rfl : j = k := by omega
      gi_wp2
      go_end0
      exact ⟨⟨_, rfl⟩, .inl ⟨_, rfl, by rw [List.take_of_length_le (by rw [downL_length]; exact Nat.le_refl _)] at hJs; exact hJs⟩⟩

theorem down_stops (F : Fence) (n : Nat) (h29 : F.fn 59) (hro : F.round = none) (hn : 1 ≤ n) (Bs k : Nat) (hk : k ≤ 1000000) (w : World) (hBs : Bs < w.heap.size)
    (hc : w.cell? ⟨Bs, 0, none⟩ = some (.int .i64 (k : Int))) :
    SeqStopsK F n Try.prog 59 #[.pointer (some ⟨Bs, 0, none⟩)] (fun x : Nat => #[Value.int .i64 (x : Int)]) (KpX Bs) (fun ys => ys = downL k) (fun _ => True) k w := fun l J Jx W hW _ _ hY h0 =>
  down_1 F n h29 hro hn l Bs k hk J Jx hY W ((hW.cell (p := ⟨Bs, 0, none⟩) hBs).trans hc) h0

theorem shr_min {n x : Nat} (hn : n < 18446744073709551616) : n / 2 ^ min x 64 = n / 2 ^ x := by
  by_cases h : x ≤ 64
  · rw [Nat.min_eq_left h]
  · have h64 : (2 : Nat) ^ 64 = 18446744073709551616 := by decide
    have hx : 2 ^ 64 ≤ 2 ^ x := Nat.pow_le_pow_right (by decide) (by omega)
    rw [Nat.min_eq_right (by omega), Nat.div_eq_of_lt (by omega), Nat.div_eq_of_lt (by omega)]
theorem Trim.bw (B p : Nat) (l : List Bool) : Trim B (bwH p l) := Trim.ex (fun v => Trim.cons (Trim.blk _ _ _ _) (Trim.cons (Trim.row _ _ _ _ _) (Trim.nil _)))

set_option maxRecDepth 100000 in
set_option maxHeartbeats 2000000 in
theorem bBits (p : Nat) (l : List Bool) (n : Nat) (hn : n < 18446744073709551616) (count : Int) (hl : l.length ≤ 900000000000) (w : World) {F : List Hp} (H : Holds w (bwH p l :: F)) :
    Calls Try.prog 33 #[.pointer (some ⟨p, 0, none⟩), .int .u64 (n : Int), .int .i64 count] w fun e w' => e = .returned (.tuple #[]) ∧ Holds w' (bwH p (l ++ bitsN n (clampN count 64)) :: F) ∧ Calm w w' := by
  obtain ⟨k, hk⟩ : ∃ k : Nat, Hid (clampN count 64 = k) := ⟨_, Lib.hid rfl⟩
  have hk64 : k ≤ 64 := by rw [← hk.out]; exact clampN_le _ _
  have hcl := fun W => clamp_calls count 64 (by omega) W
  rw [hk.out] at hcl
  rw [hk.out]
  obtain ⟨P, HP, hback⟩ := H.frozenF
  refine (callsIn_wide (n := 5)).1 ?_
  have hro : Fence.wide.round = none := rfl
  refine callsIn_of_wp_marks Try.func33 rfl trivial ?_ hro
  simp only [Try.ntmps33, List.size_toArray, List.length_cons, List.length_nil, Nat.reduceAdd, Nat.reduceSub, Array.replicate_succ, Array.replicate_zero, List.push_toArray, List.append_toArray, List.nil_append, List.cons_append]
  gi_wp2_with (refine ⟨trivial, ?_⟩; first | (gi_at_call 47; refine (callsIn_wide.2 (hcl _)).mono ?_; rintro e w' ⟨rfl, rfl⟩) | (gi_at_call 51; refine (down_in Fence.wide (5 - 1) trivial rfl _ _).mono ?_; rintro e w' ⟨rfl, rfl⟩))
  have hkk : k ≤ 1000000 := by omega
  have H1 := HP.box 34 #[.pointer (some ⟨p, 0, none⟩)]
  have H2 := H1.box 23 #[.int .u64 (n : Int)]
  have H3 := H2.box 3 #[.int .i64 (k : Int)]
  simp only [World.size_alloc] at H2 H3
  have Q3 := (((Calm.refl w).alloc (.cells #[.pointer (some ⟨p, 0, none⟩)] 34)).alloc (.cells #[.int .u64 (n : Int)] 23)).alloc (.cells #[.int .i64 (k : Int)] 3)
  obtain ⟨s0, hs0⟩ : ∃ s0, w.heap.size = s0 := ⟨_, rfl⟩
  have hW0 : (((w.alloc (.cells #[.pointer (some ⟨p, 0, none⟩)] 34)).alloc (.cells #[.int .u64 (n : Int)] 23)).alloc (.cells #[.int .i64 (k : Int)] 3)).heap.size = s0 + 3 := by simp [hs0]
  generalize ((w.alloc (.cells #[.pointer (some ⟨p, 0, none⟩)] 34)).alloc (.cells #[.int .u64 (n : Int)] 23)).alloc (.cells #[.int .i64 (k : Int)] 3) = W0 at *
  rw [hs0] at H3 ⊢
  refine wpIn_rangeFunc_ownG hro (by omega) (gf := 59) (lb := #[.pointer (some ⟨s0 + 1 + 1, 0, none⟩)]) rfl trivial (enters_of Try.func59 (by kernel_rfl) rfl)
    (down_stops Fence.wide (5 - 1) trivial hro (by omega) (s0 + 1 + 1) k hkk W0 (by omega) (H3.c 0 _ rfl)) (fun h k => k.trans h) (fun W l o o' hB ho hc hw => World.putObj_heap_other (by omega)) (Below.refl _ _) (fun _ => rfl)
    (fun pre W => Holds W [blkH (s0 + 1 + 1) 3 #[.int .i64 (k : Int)], blkH (s0 + 1) 23 #[.int .u64 (n : Int)], blkH s0 34 #[.pointer (some ⟨p, 0, none⟩)], bwH p (l ++ pre.map (fun x => decide (n / 2 ^ x % 2 = 1))), copyH w P] ∧ Calm w W)
    (fun _ _ _ => False)
    (OwnFrom.and (Holds.ownFrom (fun pre => Trim.cons (Trim.blk _ _ _ _) (Trim.cons (Trim.blk _ _ _ _) (Trim.cons (Trim.blk _ _ _ _) (Trim.cons (Trim.bw _ _ _) (Trim.cons (Trim.copy _ (by omega)) (Trim.nil _))))))) (Calm.ownFrom w))
    (fun _ _ _ _ _ hs _ _ => hs)
    ⟨by simpa using H3, Q3⟩
    (fun x => { tmps := #[.pointer (some ⟨p, 0, none⟩), .int .u64 (n : Int), .int .i64 count, .pointer (some ⟨s0, 0, none⟩), .pointer (some ⟨s0 + 1, 0, none⟩), undef, .int .i64 (x : Int), .int .i64 count, .int .i64 (k : Int), .func (.func 59) #[] #[.pointer (some ⟨s0 + 1 + 1, 0, none⟩)], .int .i64 (x : Int), undef, undef, undef, undef, undef], defers := [] }) ?assign ?body ?done ?stop
  case assign =>
    intro l x W K hK
    gi_wp2
    exact hK
  case body =>
    rintro lr pre x W ⟨hI, hQ⟩ hlt
    have hA := hI.avoid (B := W0.heap.size) (Trim.cons (Trim.blk _ _ _ _) (Trim.cons (Trim.blk _ _ _ _) (Trim.cons (Trim.blk _ _ _ _) (Trim.cons (Trim.bw _ _ _) (Trim.cons (Trim.copy _ (by omega)) (Trim.nil _))))))
    have c0 := hI.f3.c 0 (.pointer (some ⟨p, 0, none⟩)) rfl
    have c1 := hI.f2.c 0 (.int .u64 (n : Int)) rfl
    have d0 : W.drew.cell? ⟨s0, 0, none⟩ = some (.pointer (some ⟨p, 0, none⟩)) := c0
    have hmx : Try.prog.follows .mixedOrders = true := by kernel_rfl
    obtain ⟨y, hy⟩ : ∃ y : Nat, Hid (n / 2 ^ x = y) := ⟨_, Lib.hid rfl⟩
    have hx1 : ((n : Int) / 2 ^ min x 64) = (y : Int) := by rw [← hy.out, ← shr_min hn]; simp
    have hx2 : y < 18446744073709551616 := by rw [← hy.out]; exact Nat.lt_of_le_of_lt (Nat.div_le_self _ _) hn
    have hx3 : (l ++ pre.map (fun x => decide (n / 2 ^ x % 2 = 1))).length ≤ 1000000000000 := by rw [List.length_append, List.length_map]; omega
    have hp := bPush p (l ++ pre.map (fun x => decide (n / 2 ^ x % 2 = 1))) (y : Int) (by omega) hx3 W.drew hA.f5.drew
    have hd : decide ((y : Int) % 2 = 1) = decide (n / 2 ^ x % 2 = 1) := by rw [hy.out, decide_eq_decide]; omega
    rw [hd, List.append_assoc] at hp
    have HP' := Lib.hid hp
    clear hp hd
    gi_wp2_with fail
    gi_region_with_o (refine ⟨trivial, ?_⟩; gi_at_call 52; refine (CallsIn.inRound lr (callsIn_wide.2 HP'.out)).mono ?_; rintro e W' ⟨rfl, H', Q'⟩)
    all_goals
      gi_wp2
      have hS := Q'.size
      rw [show W.drew.heap.size = W.heap.size from rfl] at hS
      have hkf := H'.f2.keepsFrom hS
      have hkb : W'.heap[s0 + 1 + 1]? = W.heap[s0 + 1 + 1]? := (H'.f3.blk).trans (hI.blk).symm
      have hI' := H'.f2.drop.b4
      refine ⟨hkf, hkb, ?_, hQ.drew.trans Q'⟩
      rw [List.map_append]
      exact hI'
  case done =>
    rintro D ys W hD rfl ⟨hI, hQ⟩ hK
    gi_wp2
    have hI2 := hI.avoid (B := W0.heap.size) (Trim.cons (Trim.blk _ _ _ _) (Trim.cons (Trim.blk _ _ _ _) (Trim.cons (Trim.blk _ _ _ _) (Trim.cons (Trim.bw _ _ _) (Trim.cons (Trim.copy _ (by omega)) (Trim.nil _))))))
    have hOwn : OwnFrom W0.heap.size (fun (_ : Unit) W => Holds W [bwH p (l ++ bitsN n k), copyH w P] ∧ Calm w W) := OwnFrom.and (Holds.ownFrom (fun _ => Trim.cons (Trim.bw _ _ _) (Trim.cons (Trim.copy _ (by omega)) (Trim.nil _)))) (Calm.ownFrom w)
    have hI3 := hI.drop.drop.drop
    rw [downL_bits] at hI3
    refine ⟨by simp, .inl ⟨_, _, rfl, run_takeDeferred hK, ?_⟩⟩
    have hE := hOwn.putObj (s := ()) (.deferred none) ⟨hI3, hQ⟩ hD hK rfl
    exact ⟨_, results_none rfl _ _ _, rfl, hback _ _ hE.1, hE.2⟩
  case stop =>
    rintro D c pre W _ _ h _
    exact h.elim
end Go.Proofs.Ytkkhpdbognaioaa
