/- The walks of the laws of package hash: each returns true, whatever its arguments, and leaves what lay as it lay. -/
import Derived.Test.YtnkbaaffihocjaaRef01
import Derived.Deep.RegionHeld3
import Derived.Deep.RegionWith
import Derived.WalkSpells
namespace Go.Proofs.Ytnkbaaffihocjaa
set_option linter.unusedVariables false
set_option linter.unusedSimpArgs false
open Go.RowKit Go.Shelf Go.Proofs.YtnkbaaffihocjaaW.PrintWords Go.Proofs.YtnkbaaffihocjaaW.PrintLast Go.Proofs.YtnkbaaffihocjaaW.PrintMore

theorem live1 : (sumI (bytesOf ⟨#[97]⟩) [5] == sumI (bytesOf ⟨#[97]⟩) [6]) = false := by decide +kernel
theorem live2 : (sumI (bytesOf ⟨#[97]⟩) (bytesL [1, 2]) == sumI (bytesOf ⟨#[97]⟩) [513, 2]) = true := by decide +kernel
theorem live3 : (pairI 1 2 == pairI 1 3) = false := by decide +kernel

theorem Sum_lit (s : ByteArray) (hs : s.size ≤ 140737488351232) (l : List Int) (n : Nat) (hn : l.length = n) (hl : n ≤ 1000) (w0 : World) :
    Calls Try.prog 13 #[.string s, .slice (some ⟨w0.heap.size, 0, none⟩) n n] (w0.alloc (.cells (nums .i64 l).toArray 3)) fun e w' => e = .returned (.int .u64 (sumI (bytesOf s) l)) ∧ Below w0.heap.size w0 w' := by
  have h := World.ownsRow_lit (base := w0.heap.size) (e := 3) (size := 1) w0 (nums .i64 l).toArray n (Nat.le_refl _) (by simp only [maxLen]; omega) (by simp [nums, hn])
  refine (Sum_own s hs (base := w0.heap.size) (e := 3) l hn.symm (by omega) _ (by simpa using h)).mono ?_
  rintro e w' ⟨rfl, hB⟩
  exact ⟨rfl, ((Below.refl _ w0).alloc (Nat.le_refl _) _).trans (hB.mono (by simp))⟩

theorem Bytes_lit (s : ByteArray) (hs : s.size ≤ 140737488351232) (l : List Int) (n : Nat) (hn : l.length = n) (hl : n ≤ 1000) (hz : AllU8 l) (w0 : World) :
    Calls Try.prog 17 #[.string s, .slice (some ⟨w0.heap.size, 0, none⟩) n n] (w0.alloc (.cells (nums .u8 l).toArray 5)) fun e w' => e = .returned (.int .u64 (sumI (bytesOf s) (bytesL l))) ∧ Below w0.heap.size w0 w' := by
  have h := World.ownsRow_lit (base := w0.heap.size) (e := 5) (size := 1) w0 (nums .u8 l).toArray n (Nat.le_refl _) (by simp only [maxLen]; omega) (by simp [nums, hn])
  obtain ⟨_, hle, hC⟩ := own_kd' (xs := l) (k := .u8) (by simpa using h)
  subst hn
  refine (Bytes_calls s hs _ _ l hz (by omega) _ hC hle).mono ?_
  rintro e w' ⟨rfl, hB⟩
  exact ⟨rfl, ((Below.refl _ w0).alloc (Nat.le_refl _) _).trans (hB.mono (by simp))⟩

set_option maxRecDepth 100000 in
set_option maxHeartbeats 2000000 in
theorem lives_calls (w : World) :
    Calls Try.prog 15 #[] w fun e w' => e = .returned (.bool true) ∧ Below w.heap.size w w' := by
  have H1 := live1
  have H2 := live2
  have H3 := live3
  have H1' : (sumI (bytesOf ⟨#[97]⟩) [5] != sumI (bytesOf ⟨#[97]⟩) [6]) = true := by rw [bne, H1]; rfl
  have H3' : (pairI 1 2 != pairI 1 3) = true := by rw [bne, H3]; rfl
  go_enter Try.func15, Try.ntmps15
  go_wp2_with fail
  refine (Sum_lit ⟨#[97]⟩ (by decide) [5] 1 rfl (by omega) w).mono ?_
  rintro e w1 ⟨rfl, hB1⟩
  go_wp2_with fail
  refine (Sum_lit ⟨#[97]⟩ (by decide) [6] 1 rfl (by omega) w1).mono ?_
  rintro e w2 ⟨rfl, hB2⟩
  go_wp2_with fail
  refine (Bytes_lit ⟨#[97]⟩ (by decide) [1, 2] 2 rfl (by omega) (by unfold AllU8; decide) w2).mono ?_
  rintro e w3 ⟨rfl, hB3⟩
  go_wp2_with fail
  refine (Sum_lit ⟨#[97]⟩ (by decide) [513, 2] 2 rfl (by omega) w3).mono ?_
  rintro e w4 ⟨rfl, hB4⟩
  go_wp2_with fail
  refine (Pair_calls 1 2 w4).mono ?_
  rintro e w5 ⟨rfl, hB5⟩
  go_wp2_with fail
  refine (Pair_calls 1 3 w5).mono ?_
  rintro e w6 ⟨rfl, hB6⟩
  go_wp2
  go_ret
  exact ⟨rfl, hB1.trans ((hB2.mono hB1.size).trans ((hB3.mono (Nat.le_trans hB1.size hB2.size)).trans ((hB4.mono (Nat.le_trans hB1.size (Nat.le_trans hB2.size hB3.size))).trans ((hB5.mono (Nat.le_trans hB1.size (Nat.le_trans hB2.size (Nat.le_trans hB3.size hB4.size)))).trans (hB6.mono (Nat.le_trans hB1.size (Nat.le_trans hB2.size (Nat.le_trans hB3.size (Nat.le_trans hB4.size hB5.size)))))))))⟩

/-- A slice of whole numbers that came in. -/
def IsRow (k : IntKind) (w : World) (a : Option Addr) (len cap : Nat) (zs : List Int) : Prop :=
  (a = none ∧ len = 0 ∧ cap = 0 ∧ zs = []) ∨
  ∃ x, a = some x ∧ len ≤ cap ∧ cap ≤ maxLen ∧ zs.length = cap ∧ (∀ i, i < zs.length → w.cell? (x.add i) = some (.int k (zs.getD i 0))) ∧ ∀ n ∈ zs, (Lit.int k n).wf = true

/-- What came in, for the contracts. -/
theorem row_in {k : IntKind} {w : World} {a : Option Addr} {len cap : Nat} {zs : List Int} (h : IsRow k w a len cap zs) : ∃ l : List Int, len = l.length ∧ l.length ≤ cap ∧ (Kd.int k).C w a l.length l ∧ ∀ x ∈ l, (Lit.int k x).wf = true := by
  obtain ⟨l, rfl, hr, _, hw, hc⟩ := ReadsInt.ofRowC h
  exact ⟨l, rfl, hc, Kd.C_of_reads (d := (0 : Int)) (h1 := fun _ => rfl) hr, hw⟩

theorem bthen {w w1 w2 : World} (h : Below w.heap.size w w1) (k : Below w1.heap.size w1 w2) : Below w.heap.size w w2 := h.trans (k.mono h.size)

theorem Sum_nil (s : ByteArray) (hs : s.size ≤ 140737488351232) (w : World) :
    Calls Try.prog 13 #[.string s, .slice none 0 0] w fun e w' => e = .returned (.int .u64 (sumI (bytesOf s) [])) ∧ Below w.heap.size w w' :=
  Sum_calls s hs none 0 [] (by simp) w (Kd.C_nil _ _) (by simp)
theorem refSum_nil (s : ByteArray) (hs : s.size ≤ 140737488351232) (w : World) :
    Calls Try.prog 14 #[.string s, .slice none 0 0] w fun e w' => e = .returned (.int .u64 (sumI (bytesOf s) [])) ∧ Below w.heap.size w w' :=
  refSum_calls s hs none 0 [] (by simp) w (Kd.C_nil _ _)

set_option maxRecDepth 100000 in
set_option maxHeartbeats 2000000 in
theorem HashSum_walk (s : ByteArray) (a : Option Addr) (len cap : Nat) (zs : List Int) (w : World) (hs : s.size ≤ 140737488351232) (hrow : IsRow .i64 w a len cap zs) (hlen : len * 8 ≤ 140737488351232) :
    Calls Try.prog 3 #[.string s, .slice a len cap] w fun e w' => e = .returned (.bool true) ∧ Below w.heap.size w w' := by
  obtain ⟨l, rfl, hc, hC, _⟩ := row_in hrow
  clear hrow
  have hsz := (shortS_size s 40).1
  go_enter Try.func3, Try.ntmps3
  go_wp2_with fail
  refine (Short_calls s hs 40 (by omega) w).mono ?_
  rintro e w1 ⟨rfl, rfl⟩
  go_wp2_with fail
  refine (Ints_calls a cap l 12 (by omega) hlen w hC hc).mono ?_
  rintro e w1 ⟨v, rfl, hR, hB1⟩
  obtain ⟨A1, c1, rfl, hc1, hC1⟩ := Kd.R_reads hR
  clear hR
  generalize hl2 : l.take (12 : Int).toNat = l2 at *
  have hl2' : l2.length ≤ 12 := by rw [← hl2, List.length_take]; omega
  clear hl2
  generalize shortS s 40 = s2 at *
  go_wp2_with fail
  refine (Sum_calls s2 (by omega) A1 c1 l2 (by omega) w1 hC1 hc1).mono ?_
  rintro e w2 ⟨rfl, hB2⟩
  go_wp2_with fail
  refine (refSum_calls s2 (by omega) A1 c1 l2 (by omega) w2 (Kd.C_below hC1 hB2)).mono ?_
  rintro e w3 ⟨rfl, hB3⟩
  go_wp2_with fail
  refine (Sum_nil s2 (by omega) w3).mono ?_
  rintro e w4 ⟨rfl, hB4⟩
  go_wp2_with fail
  refine (refSum_nil s2 (by omega) w4).mono ?_
  rintro e w5 ⟨rfl, hB5⟩
  go_wp2_with fail
  refine (lives_calls w5).mono ?_
  rintro e w6 ⟨rfl, hB6⟩
  go_wp2
  go_ret
  exact ⟨rfl, bthen (bthen (bthen (bthen (bthen hB1 hB2) hB3) hB4) hB5) hB6⟩

end Go.Proofs.Ytnkbaaffihocjaa
