/- The iterator over the words of a string, and of a byte slice: it yields the little-endian words in their order, for every loop body that keeps what it reads. -/
import Derived.RangeFuncBox
import Derived.RangeFuncNested
import Derived.RangeFuncBound
import Derived.RangeFuncCalls
import Derived.RangeFuncLeaves
import Derived.Shelf.Abstract
import Derived.Shelf.RegionOpen
import Derived.WalkKit
import Derived.OwnWalkIn
import Derived.TacticsInMore
import Derived.LoopNIn
import Derived.LoopIn
import Derived.Maps.AppendAt
import Derived.Test.YtkkhpdbognaioaaProg
import Derived.Test.YtkkhpdbognaioaaHxMath
import Derived.Test.YtkkhpdbognaioaaWMore
namespace Go.Proofs.Ytkkhpdbognaioaa.Hx
set_option linter.unusedVariables false
set_option linter.unusedSimpArgs false
open Go.RowKit Go.Shelf Go.Proofs.YtkkhpdbognaioaaW.PrintWords Go.Proofs.YtkkhpdbognaioaaW.PrintLast Go.Proofs.YtkkhpdbognaioaaW.PrintMore
attribute [local go_sem] Oper.semAt_some
attribute [local go_sem] max2_int min2_int max_two min_two

theorem bytesOf_u8 (s : ByteArray) : AllU8 (bytesOf s) := by
  intro x hx
  simp only [bytesOf, List.mem_map] at hx
  obtain ⟨b, _, rfl⟩ := hx
  have := b.toNat_lt
  exact ⟨by omega, by omega⟩
theorem bytesOf_get (s : ByteArray) (i : Nat) (h : i < s.size) (h' : i < (bytesOf s).length) : (bytesOf s)[i] = (s[i].toNat : Int) := by
  simp [bytesOf]
  rfl
theorem take_eq_take {l : List Int} {m k : Nat} (h : m = k ∨ (l.length ≤ m ∧ l.length ≤ k)) : l.take m = l.take k := by
  rcases h with rfl | ⟨h1, h2⟩
  · rfl
  · rw [List.take_of_length_le h1, List.take_of_length_le h2]

/-- What an iterator needs kept: what lies below n₀, and the box Bs. -/
structure KpB (n₀ Bs : Nat) (W W' : World) : Prop where
  below : Below n₀ W W'
  box : W'.heap[Bs]? = W.heap[Bs]?
theorem KpB.refl (n₀ Bs : Nat) (W : World) : KpB n₀ Bs W W := ⟨Below.refl _ _, rfl⟩
theorem KpB.trans {n₀ Bs : Nat} {A B C : World} (h : KpB n₀ Bs A B) (k : KpB n₀ Bs B C) : KpB n₀ Bs A C := ⟨h.below.trans k.below, k.box.trans h.box⟩
theorem KpB.cell {n₀ Bs : Nat} {A B : World} (h : KpB n₀ Bs A B) (i : Nat) : B.cell? ⟨Bs, i, none⟩ = A.cell? ⟨Bs, i, none⟩ := World.cell?_of_block (w := A) h.box
theorem KpB.keep {n₀ Bs : Nat} {w : World} (h0 : n₀ ≤ w.heap.size) (hB : Bs < w.heap.size) (W : World) (l : Nat) (o o' : Obj) (hl : w.heap.size ≤ l) (ho : W.heap[l]? = some o) (hc : o.isCells = false) (hw : o.isWalk = false) : KpB n₀ Bs W (W.putObj l o') :=
  ⟨belowK_b (w := w) h0 W l o o' hl ho hc hw, World.putObj_heap_other (by omega)⟩

theorem words_string_in (F : Fence) (n : Nat) (h : F.fn 61) (hro : F.round = none) (s : ByteArray) (w : World) :
    CallsIn F n Try.prog 61 #[.string s] w fun e w' => e = .returned (.func (.func 63) #[] #[.pointer (some ⟨w.heap.size, 0, none⟩)]) ∧ w' = w.alloc (.cells #[.string s] 9) := by
  refine callsIn_of_wp Try.func61 rfl h ?_ hro
  simp only [Try.ntmps61, List.size_toArray, List.length_cons, List.length_nil, Nat.reduceAdd, Nat.reduceSub, Array.replicate_succ, Array.replicate_zero, List.push_toArray, List.append_toArray, List.nil_append, List.cons_append]
  gi_wp2
  go_ret
  exact ⟨rfl, rfl⟩

theorem words_bytes_in (F : Fence) (n : Nat) (h : F.fn 57) (hro : F.round = none) (a : Option Addr) (len cap : Nat) (w : World) :
    CallsIn F n Try.prog 57 #[.slice a len cap] w fun e w' => e = .returned (.func (.func 60) #[] #[.pointer (some ⟨w.heap.size, 0, none⟩)]) ∧ w' = w.alloc (.cells #[.slice a len cap] 29) := by
  refine callsIn_of_wp Try.func57 rfl h ?_ hro
  simp only [Try.ntmps57, List.size_toArray, List.length_cons, List.length_nil, Nat.reduceAdd, Nat.reduceSub, Array.replicate_succ, Array.replicate_zero, List.push_toArray, List.append_toArray, List.nil_append, List.cons_append]
  gi_wp2
  go_ret
  exact ⟨rfl, rfl⟩

set_option maxRecDepth 100000 in
set_option maxHeartbeats 2000000 in
theorem words_string_1 (F : Fence) (n : Nat) (h29 : F.fn 63) (hro : F.round = none) (hn : 1 ≤ n) (l Bs n₀ : Nat) (s : ByteArray) (hs : s.size ≤ 140737488351232) (J Jx : List Int → World → Prop)
    (hY : ∀ pre x W, J pre W → pre.length < nwords s.size → YieldAt F (n - 1) Try.prog l #[.int .u64 x] W fun e W' =>
      (e = .returned (.bool true) ∧ J (pre ++ [x]) W' ∧ KpB n₀ Bs W W') ∨ (e = .returned (.bool false) ∧ Jx (pre ++ [x]) W'))
    (W : World) (hBs : W.cell? ⟨Bs, 0, none⟩ = some (.string s)) (h0 : J [] W) :
    CallsIn F n Try.prog 63 #[.func (.yield l) #[] #[], .pointer (some ⟨Bs, 0, none⟩)] W fun e W' => (∃ v, e = .returned v) ∧
      ((∃ ys, ys = wordsOf (bytesOf s) ∧ J ys W') ∨ (∃ pre, True ∧ Jx pre W')) := by
  refine callsIn_of_wp Try.func63 rfl h29 ?_ hro
  simp only [Try.ntmps63, List.size_toArray, List.length_cons, List.length_nil, Nat.reduceAdd, Nat.reduceSub, Array.replicate_succ, Array.replicate_zero, List.push_toArray, List.append_toArray, List.nil_append, List.cons_append]
  gi_wp2
  gi_loopw [3] (fun i wr => ∃ j : Nat, j ≤ nwords s.size ∧ i = .int .i64 (8 * (j : Int)) ∧ J (upto (wordAt (bytesOf s)) j) wr ∧ KpB n₀ Bs W wr)
    (fun i _ => s.size + 8 - (intOf i).toNat)
  case atStart => exact ⟨0, Nat.zero_le _, rfl, h0, KpB.refl _ _ _⟩
  case round =>
    obtain ⟨j, hj, rfl, hJs, hnx⟩ := hrel
    have hcx : wr.cell? ⟨Bs, 0, none⟩ = some (.string s) := (hnx.cell 0).trans hBs
    by_cases hlt : 8 * j < s.size
    · have hltB : decide (8 * (j : Int) < (s.size : Int)) = true := decide_eq_true (by omega)
      obtain ⟨fn, tmps, assign, body, hy, hR⟩ := hY _ (wordAt (bytesOf s) j) wr hJs (by rw [upto_length]; unfold nwords; omega)
      have hl8 : 8 * j + 8 ≤ s.size ∨ s.size < 8 * j + 8 := by omega
      obtain ⟨lim, hlim1, hlim2, hlim3⟩ : ∃ lim : Nat, lim ≤ 8 * j + 8 ∧ lim ≤ s.size ∧ (lim = 8 * j + 8 ∨ lim = s.size) := by
        rcases hl8 with h | h
        · exact ⟨8 * j + 8, by omega, by omega, .inl rfl⟩
        · exact ⟨s.size, by omega, by omega, .inr rfl⟩
      gi_wp2
      obtain ⟨wo, hwo⟩ : ∃ wo : World, wo = wr := ⟨_, rfl⟩
      subst hwo
      gi_loopw [4, 5] (fun a b w2 => ∃ m : Nat, 8 * j + m ≤ lim ∧ b = .int .i64 (8 * (j : Int) + m) ∧ a = .int .u64 (wordOf (((bytesOf s).drop (8 * j)).take m)) ∧ w2 = wo)
        (fun _ b _ => s.size - (intOf b).toNat)
      case atStart => exact ⟨0, by omega, rfl, by simp [wordOf], rfl⟩
      case round =>
        obtain ⟨m, hm, rfl, rfl, rfl⟩ := hrel
        by_cases hmlt : 8 * j + m < lim
        · rcases hl8 with h | h
          · gi_wp2
            go_roundw
            case rel => exact ⟨m + 1, by omega, by go_num, congrArg (Value.int .u64) (word_or (allU8_drop (bytesOf_u8 s) _) (by omega) (by rw [List.length_drop, bytesOf_length]; omega) (by rw [List.getElem_drop, bytesOf_get s _ (by omega)])), trivial⟩
            case measure => simp [intOf]; omega
          · gi_wp2
            go_roundw
            case rel => exact ⟨m + 1, by omega, by go_num, congrArg (Value.int .u64) (word_or (allU8_drop (bytesOf_u8 s) _) (by omega) (by rw [List.length_drop, bytesOf_length]; omega) (by rw [List.getElem_drop, bytesOf_get s _ (by omega)])), trivial⟩
            case measure => simp [intOf]; omega
        · have hT : (((bytesOf s).drop (8 * j)).take m) = (((bytesOf s).drop (8 * j)).take 8) := take_eq_take (by rw [List.length_drop, bytesOf_length]; omega)
          have hy' : Sem.run Try.prog (Instr.yield l #[Value.int IntKind.u64 (wordOf (((bytesOf s).drop (8 * j)).take m))]) wr = Result.ok (Next.round l fn tmps assign body) wr := by
            rw [hT]; exact hy
          clear hy hT
          rcases hl8 with h | h
          all_goals
            gi_wp2
            refine hR.mono ?_
            rintro e W3 (⟨rfl, hJ3, hk3⟩ | ⟨rfl, hJx3⟩)
            · gi_wp2
              go_roundw
              case rel => exact ⟨j + 1, by unfold nwords; omega, by go_num, by rw [upto_succ]; exact hJ3, hnx.trans hk3⟩
              case measure => simp [intOf]; omega
            · gi_wp2
              refine bodyPost_ret (results_none rfl _ _ _) rfl ?_
              exact ⟨⟨_, rfl⟩, .inr ⟨_, trivial, hJx3⟩⟩
    · obtain rfl : j = nwords s.size := by unfold nwords at hj ⊢; omega
      gi_wp2
      go_end0
      exact ⟨⟨_, rfl⟩, .inl ⟨_, rfl, by unfold wordsOf; rw [bytesOf_length]; exact hJs⟩⟩

theorem getD_get (l : List Int) {i : Nat} (h : i < l.length) : l[i] = l[i]?.getD 0 := by simp [h]
/-- Element k of a row that is read. -/
theorem at_nat {k : IntKind} {w : World} {A : Option Addr} {n : Nat} {xs : List Int} (h : (Kd.int k).C w A n xs) {i : Nat} (hi : i < n) : ∃ ad, A = some ad ∧ w.cell? (ad.add i) = some (.int k (xs[i]?.getD 0)) := by
  obtain ⟨ad, e, hc⟩ := Kd.at_int h (i : Int) (by omega) (by omega)
  refine ⟨ad, e, ?_⟩
  simpa [rd, List.getD_eq_getElem?_getD] using hc
theorem hA_add {n₀ : Nat} {ad : Addr} (h : ∀ a, some ad = some a → a.block < n₀) (i : Nat) : (ad.add i).block < n₀ := by
  have : (ad.add i).block = ad.block := by unfold Addr.add; split <;> rfl
  rw [this]
  exact h ad rfl

set_option maxRecDepth 100000 in
set_option maxHeartbeats 2000000 in
theorem words_bytes_1 (F : Fence) (n : Nat) (h29 : F.fn 60) (hro : F.round = none) (hn : 1 ≤ n) (l Bs n₀ : Nat) (A : Option Addr) (c : Nat) (zs : List Int) (hz : AllU8 zs) (hs : zs.length ≤ 140737488351232) (hcb : zs.length ≤ c) (hA : ∀ ad, A = some ad → 0 < zs.length → ad.block < n₀) (J Jx : List Int → World → Prop)
    (hY : ∀ pre x W, J pre W → pre.length < nwords zs.length → YieldAt F (n - 1) Try.prog l #[.int .u64 x] W fun e W' =>
      (e = .returned (.bool true) ∧ J (pre ++ [x]) W' ∧ KpB n₀ Bs W W') ∨ (e = .returned (.bool false) ∧ Jx (pre ++ [x]) W'))
    (W : World) (hBs : W.cell? ⟨Bs, 0, none⟩ = some (.slice A zs.length c)) (hC : (Kd.int .u8).C W A zs.length zs) (h0 : J [] W) :
    CallsIn F n Try.prog 60 #[.func (.yield l) #[] #[], .pointer (some ⟨Bs, 0, none⟩)] W fun e W' => (∃ v, e = .returned v) ∧
      ((∃ ys, ys = wordsOf zs ∧ J ys W') ∨ (∃ pre, True ∧ Jx pre W')) := by
  refine callsIn_of_wp Try.func60 rfl h29 ?_ hro
  simp only [Try.ntmps60, List.size_toArray, List.length_cons, List.length_nil, Nat.reduceAdd, Nat.reduceSub, Array.replicate_succ, Array.replicate_zero, List.push_toArray, List.append_toArray, List.nil_append, List.cons_append]
  gi_wp2
  gi_loopw [3] (fun i wr => ∃ j : Nat, j ≤ nwords zs.length ∧ i = .int .i64 (8 * (j : Int)) ∧ J (upto (wordAt zs) j) wr ∧ KpB n₀ Bs W wr)
    (fun i _ => zs.length + 8 - (intOf i).toNat)
  case atStart => exact ⟨0, Nat.zero_le _, rfl, h0, KpB.refl _ _ _⟩
  case round =>
    obtain ⟨j, hj, rfl, hJs, hnx⟩ := hrel
    have hcx : wr.cell? ⟨Bs, 0, none⟩ = some (.slice A zs.length c) := (hnx.cell 0).trans hBs
    by_cases hlt : 8 * j < zs.length
    · have hltB : decide (8 * (j : Int) < (zs.length : Int)) = true := decide_eq_true (by omega)
      obtain ⟨fn, tmps, assign, body, hy, hR⟩ := hY _ (wordAt zs j) wr hJs (by rw [upto_length]; unfold nwords; omega)
      have hl8 : 8 * j + 8 ≤ zs.length ∨ zs.length < 8 * j + 8 := by omega
      obtain ⟨lim, hlim1, hlim2, hlim3⟩ : ∃ lim : Nat, lim ≤ 8 * j + 8 ∧ lim ≤ zs.length ∧ (lim = 8 * j + 8 ∨ lim = zs.length) := by
        rcases hl8 with h | h
        · exact ⟨8 * j + 8, by omega, by omega, .inl rfl⟩
        · exact ⟨zs.length, by omega, by omega, .inr rfl⟩
      gi_wp2
      obtain ⟨wo, hwo⟩ : ∃ wo : World, wo = wr := ⟨_, rfl⟩
      subst hwo
      gi_loopw [4, 5] (fun a b w2 => ∃ m : Nat, 8 * j + m ≤ lim ∧ b = .int .i64 (8 * (j : Int) + m) ∧ a = .int .u64 (wordOf ((zs.drop (8 * j)).take m)) ∧ w2 = wo)
        (fun _ b _ => zs.length - (intOf b).toNat)
      case atStart => exact ⟨0, by omega, rfl, by simp [wordOf], rfl⟩
      case round =>
        obtain ⟨m, hm, rfl, rfl, rfl⟩ := hrel
        by_cases hmlt : 8 * j + m < lim
        · obtain ⟨ad, e0, hcell0⟩ := at_nat hC (show 8 * j + m < zs.length by omega)
          subst e0
          have hcell := (hnx.below.cell (hA_add (fun a e => hA a e (by omega)) (8 * j + m))).trans hcell0
          clear hcell0
          rcases hl8 with h | h
          · gi_wp2
            go_roundw
            case rel => exact ⟨m + 1, by omega, by go_num, congrArg (Value.int .u64) (word_or (allU8_drop (hz) _) (by omega) (by rw [List.length_drop]; omega) (by rw [List.getElem_drop]; exact getD_get _ _)), trivial⟩
            case measure => simp [intOf]; omega
          · gi_wp2
            go_roundw
            case rel => exact ⟨m + 1, by omega, by go_num, congrArg (Value.int .u64) (word_or (allU8_drop (hz) _) (by omega) (by rw [List.length_drop]; omega) (by rw [List.getElem_drop]; exact getD_get _ _)), trivial⟩
            case measure => simp [intOf]; omega
        · have hT : ((zs.drop (8 * j)).take m) = ((zs.drop (8 * j)).take 8) := take_eq_take (by rw [List.length_drop]; omega)
          have hy' : Sem.run Try.prog (Instr.yield l #[Value.int IntKind.u64 (wordOf ((zs.drop (8 * j)).take m))]) wr = Result.ok (Next.round l fn tmps assign body) wr := by
            rw [hT]; exact hy
          clear hy hT
          rcases hl8 with h | h
          all_goals
            gi_wp2
            refine hR.mono ?_
            rintro e W3 (⟨rfl, hJ3, hk3⟩ | ⟨rfl, hJx3⟩)
            · gi_wp2
              go_roundw
              case rel => exact ⟨j + 1, by unfold nwords; omega, by go_num, by rw [upto_succ]; exact hJ3, hnx.trans hk3⟩
              case measure => simp [intOf]; omega
            · gi_wp2
              refine bodyPost_ret (results_none rfl _ _ _) rfl ?_
              exact ⟨⟨_, rfl⟩, .inr ⟨_, trivial, hJx3⟩⟩
    · obtain rfl : j = nwords zs.length := by unfold nwords at hj ⊢; omega
      gi_wp2
      go_end0
      exact ⟨⟨_, rfl⟩, .inl ⟨_, rfl, by unfold wordsOf; exact hJs⟩⟩

/-- The words of a string. -/
theorem words_string_stops (F : Fence) (n : Nat) (h29 : F.fn 63) (hro : F.round = none) (hn : 1 ≤ n) (Bs n₀ : Nat) (s : ByteArray) (hs : s.size ≤ 140737488351232) (w : World) (hBs : Bs < w.heap.size)
    (hc : w.cell? ⟨Bs, 0, none⟩ = some (.string s)) :
    SeqStopsK F n Try.prog 63 #[.pointer (some ⟨Bs, 0, none⟩)] (fun x : Int => #[Value.int .u64 x]) (KpB n₀ Bs) (fun ys => ys = wordsOf (bytesOf s)) (fun _ => True) (nwords s.size) w := fun l J Jx W hW _ _ hY h0 =>
  words_string_1 F n h29 hro hn l Bs n₀ s hs J Jx hY W ((hW.cell (p := ⟨Bs, 0, none⟩) hBs).trans hc) h0

/-- The words of a byte slice. -/
theorem words_bytes_stops (F : Fence) (n : Nat) (h29 : F.fn 60) (hro : F.round = none) (hn : 1 ≤ n) (Bs n₀ : Nat) (A : Option Addr) (c : Nat) (zs : List Int) (hz : AllU8 zs) (hs : zs.length ≤ 140737488351232) (hcb : zs.length ≤ c) (hA : ∀ ad, A = some ad → 0 < zs.length → ad.block < n₀) (w : World) (hBs : Bs < w.heap.size)
    (hc : w.cell? ⟨Bs, 0, none⟩ = some (.slice A zs.length c)) (hC : (Kd.int .u8).C w A zs.length zs) :
    SeqStopsK F n Try.prog 60 #[.pointer (some ⟨Bs, 0, none⟩)] (fun x : Int => #[Value.int .u64 x]) (KpB n₀ Bs) (fun ys => ys = wordsOf zs) (fun _ => True) (nwords zs.length) w := fun l J Jx W hW _ _ hY h0 =>
  words_bytes_1 F n h29 hro hn l Bs n₀ A c zs hz hs hcb hA J Jx hY W ((hW.cell (p := ⟨Bs, 0, none⟩) hBs).trans hc) (Kd.C_below hC hW) h0

end Go.Proofs.Ytkkhpdbognaioaa.Hx

