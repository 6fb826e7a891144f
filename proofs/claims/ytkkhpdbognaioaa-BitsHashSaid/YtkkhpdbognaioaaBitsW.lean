/- The contracts of package bits' Writer. -/
import Derived.Test.YtkkhpdbognaioaaR01
import Derived.Test.YtkkhpdbognaioaaSep4
import Derived.Test.YtkkhpdbognaioaaSep5
import Derived.Test.YtkkhpdbognaioaaSep6
import Derived.Test.YtkkhpdbognaioaaBitsMath
import Derived.Lib.Zigzag
import Derived.BigRegion
import Derived.Lib.SliceRun
import Derived.Lib.VarintBits
namespace Go.Proofs.Ytkkhpdbognaioaa
set_option linter.unusedVariables false
set_option linter.unusedSimpArgs false
open Go.RowKit Go.Shelf Go.Proofs.YtkkhpdbognaioaaW.PrintWords Go.Proofs.YtkkhpdbognaioaaW.PrintLast Go.Proofs.YtkkhpdbognaioaaW.PrintMore

/-- A Writer behind the pointer p that holds the stream l. -/
def bwH (p : Nat) (l : List Bool) : Hp := exH fun v => sepL [blkH p 31 #[v, .int .i64 (l.length : Int)], rowH (Kd.int .u8) 5 v (pack l)]
theorem Holds.bwOpen {w : World} {p : Nat} {l : List Bool} {F : List Hp} (h : Holds w (bwH p l :: F)) : ∃ v, Holds w (blkH p 31 #[v, .int .i64 (l.length : Int)] :: rowH (Kd.int .u8) 5 v (pack l) :: F) := by
  obtain ⟨v, h⟩ := h.ex
  exact ⟨v, h.parts⟩
theorem Holds.bwShut {w : World} {p : Nat} {l : List Bool} {F : List Hp} {v : Value} (h : Holds w (blkH p 31 #[v, .int .i64 (l.length : Int)] :: rowH (Kd.int .u8) 5 v (pack l) :: F)) : Holds w (bwH p l :: F) := Holds.mk v (Holds.group h)

theorem b2n_decide_int {n : Int} (h : 0 ≤ n) : b2n (decide (n % 2 = 1)) = (n % 2).toNat := by
  unfold b2n
  by_cases h1 : n % 2 = 1
  · rw [if_pos (by simpa using h1), h1]; rfl
  · rw [if_neg (by simpa using h1)]; omega
/-- What is there before the bit is or-ed. -/
theorem pushFacts {W : World} {p : Nat} {A : Option Addr} {c L q : Nat} {B X : List Int} {x : Int} {F : List Hp} (K : Holds W (blkH p 31 #[.slice A B.length c, .int .i64 (L : Int)] :: rowH (Kd.int .u8) 5 (.slice A B.length c) B :: F)) (hBX : X = B) (hl : X.length = q + 1) (hx : X[q]? = some x) :
    ∃ g, A = some ⟨g, 0, none⟩ ∧ W.cell? ⟨p, 0, none⟩ = some (.slice (some ⟨g, 0, none⟩) B.length c) ∧ Hid (B.length = q + 1) ∧ W.cell? ⟨p, 1, none⟩ = some (.int .i64 (L : Int)) ∧ W.cell? ⟨g, q, none⟩ = some (.int .u8 x) ∧ W.frozen? ⟨g, q, none⟩ = false ∧ g < W.heap.size := by
  subst hBX
  obtain ⟨g, rfl, hg⟩ := K.f2.rowAddr (by omega)
  obtain ⟨d1, d2⟩ := K.f2.rowCell q (by omega)
  refine ⟨g, rfl, K.c 0 _ rfl, hl, K.c 1 _ rfl, ?_, d2, hg⟩
  rw [d1]
  have : X[q]'(by omega) = x := by
    rw [List.getElem?_eq_getElem (by omega)] at hx
    exact Option.some.inj hx
  rw [this]

set_option maxRecDepth 100000 in
set_option maxHeartbeats 2000000 in
theorem bPush (p : Nat) (l : List Bool) (n : Int) (hn : 0 ≤ n ∧ n < 18446744073709551616) (hl : l.length ≤ 1000000000000) (w : World) {F : List Hp} (H : Holds w (bwH p l :: F)) :
    Calls Try.prog 52 #[.pointer (some ⟨p, 0, none⟩), .int .u64 n] w fun e w' => e = .returned (.tuple #[]) ∧ Holds w' (bwH p (l ++ [decide (n % 2 = 1)]) :: F) ∧ Calm w w' := by
  have hand := Lib.u64_and1 n hn.1 hn.2
  obtain ⟨v, H2⟩ := H.bwOpen
  obtain ⟨A, c, rfl, _⟩ := H2.f2.row
  have hlen := packX_length l
  have hlast := packX_last l
  have hX : packX l = if l.length % 8 = 0 then pack l ++ [0] else pack l := rfl
  have hpl := pack_length l
  have hnb : nbytes l.length ≤ 1000000000000 := by unfold nbytes; omega
  obtain ⟨X, hXX⟩ : ∃ X : List Int, Hid (packX l = X) := ⟨_, Lib.hid rfl⟩
  have hpush := pack_push l (decide (n % 2 = 1))
  rw [hXX.out] at hlen hlast hX hpush
  have hbyte := byteOf_or (l.drop (8 * (l.length / 8))) (decide (n % 2 = 1)) (by rw [List.length_drop]; omega)
  rw [b2n_decide_int hn.1] at hbyte
  have hdl : (l.drop (8 * (l.length / 8))).length = l.length % 8 := by rw [List.length_drop]; omega
  rw [hdl] at hbyte
  obtain ⟨L, hL⟩ : ∃ L : Nat, Hid (l.length = L) := ⟨_, Lib.hid rfl⟩
  obtain ⟨P, hP⟩ : ∃ P : List Int, Hid (pack l = P) := ⟨_, Lib.hid rfl⟩
  rw [hL.out] at hX H2 hpl hnb hlen hlast hpush hbyte hl
  rw [hP.out] at hX H2 hpl
  have hc0 := H2.c 0 (.slice A P.length c) rfl
  have hc1 := H2.c 1 (.int .i64 (L : Int)) rfl
  have hf0 := H2.frozen 0
  have hf1 := H2.frozen 1
  have hlt := H2.lt
  have hPl : P.length ≤ 1000000000000 := by omega
  obtain ⟨q, hq⟩ : ∃ q : Nat, Hid (L / 8 = q) := ⟨_, Lib.hid rfl⟩
  rw [hq.out] at hlen hlast hpush hbyte
  obtain ⟨y, hy⟩ : ∃ y : Int, Hid (byteOf (l.drop (8 * q)) = y) := ⟨_, Lib.hid rfl⟩
  rw [hy.out] at hlast hbyte
  obtain ⟨a, ha⟩ : ∃ a : Nat, Hid ((L : Int) % 8 = (a : Int) ∧ L % 8 = a ∧ a < 8) := ⟨L % 8, by refine ⟨?_, ?_, ?_⟩ <;> omega⟩
  rw [ha.out.2.1] at hbyte
  have Hpush := Lib.hid hpush
  have Hlast := Lib.hid hlast
  have Hlen := Lib.hid hlen
  have Hbyte := Lib.hid hbyte
  have HX := Lib.hid hX
  have hn0 := hn.1
  have hn1 := hn.2
  clear hpush hlast hlen hbyte hX hpl hnb hdl hn H
  by_cases h0 : L % 8 = 0
  focus
    have hX := HX.out
    rw [if_pos h0] at hX
    have h0i : ((L : Int) % 8 == 0) = true := by simp; omega
    have hl1 : (P.length + 1) * 1 ≤ 140737488355328 := by omega
    go_enter Try.func52, Try.ntmps52
    go_wp2_with (at_builtin; go_must (refine H_append_int .u8 rfl (.tmp 16) (.tmp 17) 29 5 1 rfl Try.underlying29 info_u8 (by decide) (.slice A P.length c) P _ rfl rfl H2.f2 hl1 ?_; intro B A1 cc w1 hB1 K1 k1 Q2; have d1 := K1.f2.c 0 (.slice A P.length c) rfl; have f1 := K1.f2.frozen 0; have l1 := K1.f2.lt; have K2 := K1.f2.set 0 (.slice A1 B.length cc); have hBX := hX; rw [← hB1.out] at hBX; have e0 := pushFacts K2 hBX Hlen.out Hlast.out; obtain ⟨g, rfl, q0, q1, q2, q3, q4, q5⟩ := e0))
    have QW := Q2.setCell ⟨p, 0, none⟩ (.slice (some ⟨g, 0, none⟩) B.length cc)
    have HBX := Lib.hid hBX
    generalize w1.setCell ⟨p, 0, none⟩ (.slice (some ⟨g, 0, none⟩) B.length cc) = W at *
  rotate_left
  focus
    have hX := HX.out
    rw [if_neg h0] at hX
    have h0i : ((L : Int) % 8 == 0) = false := by simp; omega
    obtain ⟨g, rfl, q0, q1, q2, q3, q4, q5⟩ := pushFacts H2 hX Hlen.out Hlast.out
    go_enter Try.func52, Try.ntmps52
    go_wp2_with fail
    have QW := Calm.refl w
    have HBX := Lib.hid hX
    have K2 := H2
    clear H2 hc0 hc1
    generalize P = B at *
    generalize c = cc at *
  all_goals
    rw [ha.out.1]
    have ha8 := ha.out.2.2
    have q1' := q1.out
    have hq12 : q ≤ 1000000000000 := by have := hq.out; omega
    go_region
    have hV : Hid (bits BinOp.or IntKind.u8 y (n % 2 * 2 ^ (7 - a) % 256) = byteOf (l.drop (8 * q) ++ [decide (n % 2 = 1)])) := by
      show _ = _
      rw [← Hbyte.out]
      congr 1
      have h7 : 2 ^ (7 - a) ≤ 2 ^ 7 := Nat.pow_le_pow_right (by omega) (by omega)
      have hm : (n % 2).toNat * 2 ^ (7 - a) ≤ 1 * 2 ^ (7 - a) := Nat.mul_le_mul_right _ (by omega)
      have e1 : n % 2 = (((n % 2).toNat : Nat) : Int) := by omega
      have e2 : n % 2 * 2 ^ (7 - a) = (((n % 2).toNat * 2 ^ (7 - a) : Nat) : Int) := by
        rw [e1]; simp
      rw [e2]
      omega
    rw [hV.out]
    have K3 := (K2.f2.rowPut q (byteOf (l.drop (8 * q) ++ [decide (n % 2 = 1)]))).drew
    have Q3 := (QW.setCell ⟨g, q, none⟩ (.int .u8 (byteOf (l.drop (8 * q) ++ [decide (n % 2 = 1)])))).drew
    have hrow : Hid (B.set q (byteOf (l.drop (8 * q) ++ [decide (n % 2 = 1)])) = pack (l ++ [decide (n % 2 = 1)])) := by
      show _ = _
      rw [Hpush.out, HBX.out]
    have hbl : Hid (B.length = (B.set q (byteOf (l.drop (8 * q) ++ [decide (n % 2 = 1)]))).length) := by show _ = _; rw [List.length_set]
    rw [hrow.out] at K3 hbl
    have hLL : Hid ((L : Int) + 1 = (((l ++ [decide (n % 2 = 1)]).length : Nat) : Int)) := by show _ = _; rw [List.length_append, hL.out]; simp
    clear q0 q2 q3 q4 K2 hV QW
    generalize byteOf (l.drop (8 * q) ++ [decide (n % 2 = 1)]) = V at *
    generalize (World.setCell _ ⟨g, q, none⟩ (.int .u8 V)).drew = W3 at *
    have s0 := K3.f2.c 1 (.int .i64 (L : Int)) rfl
    have s1 := K3.f2.frozen 1
    have s2 := K3.f2.lt
    go_wp2
    have K4 := K3.f2.set 1 (.int .i64 ((L : Int) + 1))
    have Q4 := Q3.setCell ⟨p, 1, none⟩ (.int .i64 ((L : Int) + 1))
    go_end0
    rw [hbl.out] at K4
    have K5 : Holds (W3.setCell ⟨p, 1, none⟩ (.int .i64 ((L : Int) + 1))) (blkH p 31 #[.slice (some ⟨g, 0, none⟩) (pack (l ++ [decide (n % 2 = 1)])).length cc, .int .i64 (((l ++ [decide (n % 2 = 1)]).length : Nat) : Int)] :: rowH (Kd.int .u8) 5 (.slice (some ⟨g, 0, none⟩) (pack (l ++ [decide (n % 2 = 1)])).length cc) (pack (l ++ [decide (n % 2 = 1)])) :: F) := by
      rw [← hLL.out]
      exact K4
    exact ⟨rfl, K5.bwShut, Q4⟩
end Go.Proofs.Ytkkhpdbognaioaa
