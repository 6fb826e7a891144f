/- The contracts of package wire's Writer: what it holds is what the plain functions say. -/
import Derived.Test.YtkkhpdbognaioaaR01
import Derived.Test.YtkkhpdbognaioaaSep4
import Derived.Test.YtkkhpdbognaioaaWireMath2
import Derived.Lib.Zigzag
import Derived.Lib.SliceRun
import Derived.Lib.VarintBits
namespace Go.Proofs.Ytkkhpdbognaioaa
set_option linter.unusedVariables false
set_option linter.unusedSimpArgs false
open Go.RowKit Go.Shelf Go.Proofs.YtkkhpdbognaioaaW.PrintWords Go.Proofs.YtkkhpdbognaioaaW.PrintLast Go.Proofs.YtkkhpdbognaioaaW.PrintMore

/-- A Writer behind the pointer p that holds the bytes bs. -/
def wrH (p : Nat) (bs : List Int) : Hp := exH fun v => sepL [blkH p 63 #[v], rowH (Kd.int .u8) 5 v bs]
theorem Holds.wrOpen {w : World} {p : Nat} {bs : List Int} {F : List Hp} (h : Holds w (wrH p bs :: F)) : ∃ v, Holds w (blkH p 63 #[v] :: rowH (Kd.int .u8) 5 v bs :: F) := by
  obtain ⟨v, h⟩ := h.ex
  exact ⟨v, h.parts⟩
theorem Holds.wrShut {w : World} {p : Nat} {bs : List Int} {F : List Hp} {v : Value} (h : Holds w (blkH p 63 #[v] :: rowH (Kd.int .u8) 5 v bs :: F)) : Holds w (wrH p bs :: F) := Holds.mk v (Holds.group h)

theorem or128 (m : Nat) : bits BinOp.or IntKind.u8 ((m : Int) % 256) 128 = ((m % 128 + 128 : Nat) : Int) := by
  have h : ∀ x : Fin 256, bits BinOp.or IntKind.u8 (x.val : Int) 128 = ((x.val % 128 + 128 : Nat) : Int) := by decide +kernel
  have := h ⟨m % 256, by omega⟩
  rw [show ((m : Int) % 256) = ((m % 256 : Nat) : Int) by omega, this, show m % 256 % 128 = m % 128 by omega]

set_option maxRecDepth 100000 in
set_option maxHeartbeats 1000000 in
theorem wUint (p : Nat) (bs : List Int) (n : Nat) (hn : n < 18446744073709551616) (hl : bs.length ≤ 140000000000000) (w : World) {F : List Hp} (H : Holds w (wrH p bs :: F)) :
    Calls Try.prog 35 #[.pointer (some ⟨p, 0, none⟩), .int .u64 (n : Int)] w fun e w' => e = .returned (.tuple #[]) ∧ Holds w' (wrH p (bs ++ encN n) :: F) ∧ Calm w w' := by
  have hfl := encN_len 9 n (by simp only [Nat.reducePow, Nat.reduceAdd]; omega)
  go_enter Try.func35, Try.ntmps35
  go_wp2
  go_loopw [1] (fun nv wr => ∃ (m : Nat) (B : List Int), nv = .int .u64 (m : Int) ∧ Hid (B ++ encN m = bs ++ encN n) ∧ Holds wr (wrH p B :: F) ∧ Calm w wr) (fun nv _ => (intOf nv).toNat)
  case atStart => exact ⟨n, bs, rfl, rfl, H, Calm.refl _⟩
  case round =>
    obtain ⟨m, B, rfl, hpre, H1, Q1⟩ := hrel
    obtain ⟨v, H2⟩ := H1.wrOpen
    obtain ⟨A, c, rfl, _⟩ := H2.f2.row
    have hc := H2.c 0 (.slice A B.length c) rfl
    have hl1 : (B.length + 1) * 1 ≤ 140737488355328 := by
      have h1 := congrArg List.length hpre.out
      rw [List.length_append, List.length_append] at h1
      omega
    by_cases hm : 128 ≤ m
    · have hmi : (128 : Int) ≤ (m : Int) := by omega
      go_wp2_with (at_builtin; go_must (refine H_append_int .u8 rfl (.tmp 12) (.tmp 16) 29 5 1 rfl Try.underlying29 info_u8 (by decide) (.slice A B.length c) B _ rfl rfl H2.f2 hl1 ?_; intro B1 A1 c1 w1 hB1 K1 k1 Q2; have d1 := K1.f2.c 0 (.slice A B.length c) rfl; have f1 := K1.f2.frozen 0; have l1 := K1.f2.lt))
      have K2 := (K1.f2.set 0 (.slice A1 B1.length c1)).wrShut
      go_roundw
      case rel =>
        refine ⟨m / 128, B1, ?_, ?_, K2, (Q1.trans Q2).setCell _ _⟩
        · go_num
        · show _ = _
          rw [hB1.out, or128, List.append_assoc, ← hpre.out, encN_ge hm]
          rfl
      case measure => simp [intOf]; omega
    · have hmi : ¬ (128 : Int) ≤ (m : Int) := by omega
      go_wp2_with (at_builtin; go_must (refine H_append_int .u8 rfl (.tmp 24) (.tmp 27) 29 5 1 rfl Try.underlying29 info_u8 (by decide) (.slice A B.length c) B _ rfl rfl H2.f2 hl1 ?_; intro B1 A1 c1 w1 hB1 K1 k1 Q2; have d1 := K1.f2.c 0 (.slice A B.length c) rfl; have f1 := K1.f2.frozen 0; have l1 := K1.f2.lt))
      have K2 := (K1.f2.set 0 (.slice A1 B1.length c1)).wrShut
      go_end0
      rw [show bs ++ encN n = B1 from by rw [hB1.out, ← hpre.out, encN_lt (by omega)]]
      exact ⟨rfl, K2, (Q1.trans Q2).setCell _ _⟩

theorem xor_ones (x : Int) (h0 : 0 ≤ x) (h1 : x < 18446744073709551616) : bits BinOp.xor IntKind.u64 x 18446744073709551615 = 18446744073709551615 - x := by
  have h := bits_xor_u64_nat x.toNat 18446744073709551615 (by omega) (by omega)
  rw [show ((x.toNat : Nat) : Int) = x by omega] at h
  rw [show (18446744073709551615 : Int) = ((18446744073709551615 : Nat) : Int) from rfl, h]
  have h2 := Lib.xor_ones64 x.toNat (by simp only [Nat.reducePow]; omega)
  simp only [Nat.reducePow, Nat.reduceSub] at h2
  rw [Nat.xor_comm, h2]
  omega

/-- What the methods ask: a Writer that is not too long. -/
def Roomy (bs : List Int) : Prop := bs.length ≤ 100000000000000

set_option maxRecDepth 100000 in
set_option maxHeartbeats 1000000 in
theorem wText (p : Nat) (bs : List Int) (s : ByteArray) (hs : s.size ≤ 1099511627776) (hl : bs.length ≤ 130000000000000) (w : World) {F : List Hp} (H : Holds w (wrH p bs :: F)) :
    Calls Try.prog 55 #[.pointer (some ⟨p, 0, none⟩), .string s] w fun e w' => e = .returned (.tuple #[]) ∧ Holds w' (wrH p (bs ++ (encN s.size ++ bytesOf s)) :: F) ∧ Calm w w' := by
  have hfl := encN_len 9 s.size (by simp only [Nat.reducePow, Nat.reduceAdd]; omega)
  go_enter Try.func55, Try.ntmps55
  go_wp2_with fail
  refine (wUint p bs s.size (by omega) (by omega) w H).mono ?_
  rintro e w1 ⟨rfl, H1, Q1⟩
  obtain ⟨B, hB⟩ : ∃ B, Hid (bs ++ encN s.size = B) := ⟨_, rfl⟩
  have hl1 : B.length + s.size ≤ 140737488355328 := by rw [← hB.out, List.length_append]; omega
  rw [hB.out] at H1
  obtain ⟨v, H2⟩ := H1.wrOpen
  obtain ⟨A, c, rfl, _⟩ := H2.f2.row
  have hc := H2.c 0 (.slice A B.length c) rfl
  go_wp2_with (at_builtin; go_must (refine H_append_str rfl (.tmp 13) (.tmp 14) 29 9 5 rfl Try.underlying29 Try.underlying9 info_u8 (.slice A B.length c) B s rfl rfl H2.f2 hl1 ?_; intro B1 A1 c1 w2 hB1 K1 k1 Q2; have d1 := K1.f2.c 0 (.slice A B.length c) rfl; have f1 := K1.f2.frozen 0; have l1 := K1.f2.lt))
  have K2 := (K1.f2.set 0 (.slice A1 B1.length c1)).wrShut
  go_end0
  rw [← List.append_assoc, hB.out, ← hB1.out]
  exact ⟨rfl, K2, (Q1.trans Q2).setCell _ _⟩

set_option maxRecDepth 100000 in
set_option maxHeartbeats 1000000 in
theorem wRaw (p : Nat) (bs : List Int) (A : Option Addr) (c : Nat) (l : List Int) (h8 : U8s l) (hs : l.length ≤ 1099511627776) (hl : bs.length ≤ 130000000000000) (w : World) {F : List Hp} (H : Holds w (wrH p bs :: F)) (hR : Rd (Kd.int .u8) F A l.length l) :
    Calls Try.prog 40 #[.pointer (some ⟨p, 0, none⟩), .slice A l.length c] w fun e w' => e = .returned (.tuple #[]) ∧ Holds w' (wrH p (bs ++ (encN l.length ++ l)) :: F) ∧ Calm w w' := by
  have hstr : (convert 29 9 (.slice A l.length c)).run Try.prog w = .ok (.string (strOfNums l)) w := Kd.C_string Try.underlying29 Try.underlying5 Try.underlying9 (hR w H.drop)
  have hsz : (strOfNums l).size = l.length := by
    have := congrArg List.length (strOfNums_data l)
    simpa [data_length] using this
  have hby := bytesOf_nums h8
  go_enter Try.func40, Try.ntmps40
  generalize hS : strOfNums l = S at *
  go_wp2_with fail
  refine (wText p bs S (by omega) hl w H).mono ?_
  rintro e w1 ⟨rfl, H1, Q1⟩
  rw [hsz, hby] at H1
  clear hsz hby hS
  go_wp2
  go_end0
  exact ⟨rfl, H1, Q1⟩

set_option maxRecDepth 100000 in
set_option maxHeartbeats 1000000 in
theorem clone_u8 (A : Option Addr) (c : Nat) (l : List Int) (hl : l.length ≤ 140737488355328) (w : World) {F : List Hp} (H : Holds w F) (hC : (Kd.int .u8).C w A l.length l) :
    Calls Try.prog 46 #[.slice A l.length c] w fun e w' => ∃ A' c', e = .returned (.slice A' l.length c') ∧ Holds w' (rowH (Kd.int .u8) 5 (.slice A' l.length c') l :: F) ∧ l.length ≤ c' ∧ Calm w w' := by
  cases A with
  | none =>
    have h0 : l = [] := by
      have h := (Kd.reads_of_C (d := (0 : Int)) (h1 := fun _ => rfl) hC).2.2
      rcases l with _ | ⟨x, l⟩
      · rfl
      · obtain ⟨ad, e, _⟩ := h (by simp)
        cases e
    subst h0
    have he : (binOp .eql 29 (.slice none 0 c) (.slice none 0 0)).run Try.prog w = .ok (.bool true) w := Lib.run_eql_slice_nil w 29 5 none 0 c 0 0 Try.underlying29
    go_enter Try.func46, Try.ntmps46
    go_wp2
    go_ret
    exact ⟨none, 0, rfl, H.nilRow _ _, Nat.le_refl _, Calm.refl _⟩
  | some ad =>
    have HC := Kd.C_alloc hC (.cells #[] 5)
    have H0 := H.litNil .u8 5
    have hl1 : ([] : List Int).length + l.length ≤ 140737488355328 := by simpa using hl
    have he : (binOp .eql 29 (.slice (some ad) l.length c) (.slice none 0 0)).run Try.prog w = .ok (.bool false) w := Lib.run_eql_slice_nil w 29 5 (some ad) l.length c 0 0 Try.underlying29
    go_enter Try.func46, Try.ntmps46
    go_wp2_with (at_builtin; go_must (refine H_append_ints .u8 rfl (.tmp 5) (.tmp 6) 29 5 1 rfl Try.underlying29 info_u8 (by decide) (.slice (some ⟨w.heap.size, 0, none⟩) 0 0) [] l (some ad) l.length c rfl rfl H0 HC (by omega) ?_; intro B1 A1 c1 w2 hB1 K1 k1 Q2))
    go_ret
    rw [List.nil_append] at hB1
    have hB2 := hB1.out
    subst hB2
    exact ⟨A1, c1, rfl, K1, k1, (Calm.refl w).alloc _ |>.trans Q2⟩

set_option maxRecDepth 100000 in
set_option maxHeartbeats 1000000 in
theorem wDone (p : Nat) (bs : List Int) (hl : bs.length ≤ 140737488355328) (w : World) {F : List Hp} (H : Holds w (wrH p bs :: F)) :
    Calls Try.prog 39 #[.pointer (some ⟨p, 0, none⟩)] w fun e w' => ∃ A c, e = .returned (.slice A bs.length c) ∧ Holds w' (rowH (Kd.int .u8) 5 (.slice A bs.length c) bs :: wrH p bs :: F) ∧ bs.length ≤ c ∧ Calm w w' := by
  obtain ⟨v, H2⟩ := H.wrOpen
  obtain ⟨A, c, rfl, _, hC⟩ := H2.f2.row
  have hc := H2.c 0 (.slice A bs.length c) rfl
  go_enter Try.func39, Try.ntmps39
  go_wp2_with fail
  refine (clone_u8 A c bs hl w H2 hC).mono ?_
  rintro e w1 ⟨A1, c1, rfl, H3, h3, Q1⟩
  go_wp2
  go_ret
  exact ⟨A1, c1, rfl, (H3.b3).wrShut.f2, h3, Q1⟩
end Go.Proofs.Ytkkhpdbognaioaa

