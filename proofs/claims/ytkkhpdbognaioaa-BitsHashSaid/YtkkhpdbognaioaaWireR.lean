/- The contracts of package wire's Reader: what it returns and what is left is what the plain functions say. -/
import Derived.Test.YtkkhpdbognaioaaWireW
namespace Go.Proofs.Ytkkhpdbognaioaa
set_option linter.unusedVariables false
set_option linter.unusedSimpArgs false
open Go.RowKit Go.Shelf Go.Proofs.YtkkhpdbognaioaaW.PrintWords Go.Proofs.YtkkhpdbognaioaaW.PrintLast Go.Proofs.YtkkhpdbognaioaaW.PrintMore

/-- A Reader (of type T) behind the pointer p: the bytes that are left are read of F; the error. -/
def RdS (T : TypeId) (G F : List Hp) (p : Nat) (w : World) (bs : List Int) (e : Int) : Prop :=
  ∃ A n c, Holds w (blkH p T #[.slice A n c, .int .i64 e] :: F) ∧ (e = 0 → n = bs.length ∧ n ≤ c ∧ Rd (Kd.int .u8) G A bs.length bs)
/-- What F says says G, too. -/
def Sub (F G : List Hp) : Prop := ∀ w, Holds w F → Holds w G
theorem Sub.refl (F : List Hp) : Sub F F := fun _ h => h
theorem Sub.cons {F G : List Hp} (h : Sub F G) (B : Hp) : Sub (B :: F) G := fun w hw => h w hw.drop
theorem Sub.head (B : Hp) (F : List Hp) : Sub (B :: F) [B] := fun w hw => hw.sub (l := [B])
theorem Sub.perm {F F' G : List Hp} (h : Sub F G) (p : F'.Perm F) : Sub F' G := fun w hw => h w (hw.perm p)
section
variable {T : TypeId} {G F F' : List Hp} {p : Nat} {w : World} {bs : List Int} {e : Int} {A : Option Addr} {n c : Nat}
theorem RdS.frame (h : RdS T G F p w bs e) : Holds w F := by
  obtain ⟨A, n, c, H, _⟩ := h
  exact H.drop
theorem RdS.err (H : Holds w (blkH p T #[.slice A n c, .int .i64 e] :: F)) (h : e ≠ 0) (bs' : List Int) : RdS T G F p w bs' e :=
  ⟨A, n, c, H, fun h' => absurd h' h⟩
theorem RdS.any (h : RdS T G F p w bs e) (h0 : e ≠ 0) (bs' : List Int) : RdS T G F p w bs' e := by
  obtain ⟨A, n, c, H, _⟩ := h
  exact ⟨A, n, c, H, fun h' => absurd h' h0⟩
/-- The other things may change. -/
theorem RdS.other {w' : World} (h : RdS T G F p w bs e) (k : ∀ B : Hp, Holds w (B :: F) → Holds w' (B :: F')) : RdS T G F' p w' bs e := by
  obtain ⟨A, n, c, H, h0⟩ := h
  exact ⟨A, n, c, k _ H, h0⟩
end

/-- A Reader as a part of memory. -/
def rdrH (T : TypeId) (G : List Hp) (p : Nat) (bs : List Int) (e : Int) : Hp :=
  exH fun A => exH fun n => exH fun c => sepL [factH (e = 0 → n = bs.length ∧ n ≤ c ∧ Rd (Kd.int .u8) G A bs.length bs), blkH p T #[.slice A n c, .int .i64 e]]
section
variable {T : TypeId} {G F F' : List Hp} {p : Nat} {w : World} {bs : List Int} {e : Int}
theorem RdS.holds (h : RdS T G F p w bs e) : Holds w (rdrH T G p bs e :: F) := by
  obtain ⟨A, n, c, H, h0⟩ := h
  exact Holds.mk A (Holds.mk n (Holds.mk c (Holds.group (Holds.put h0 H))))
theorem RdS.of (h : Holds w (rdrH T G p bs e :: F)) : RdS T G F p w bs e := by
  obtain ⟨A, h⟩ := h.ex
  obtain ⟨n, h⟩ := h.ex
  obtain ⟨c, h⟩ := h.ex
  have h' := h.parts
  obtain ⟨h0, H⟩ := Holds.fact (F := blkH p T #[.slice A n c, .int .i64 e] :: F) h'
  exact ⟨A, n, c, H, h0⟩
end

set_option maxRecDepth 100000 in
set_option maxHeartbeats 1000000 in
theorem fail_first (p : Nat) (v : Value) (x : Int) (w : World) {F : List Hp} (H : Holds w (blkH p 84 #[v, .int .i64 0] :: F)) :
    Calls Try.prog 54 #[.pointer (some ⟨p, 0, none⟩), .int .i64 x] w fun e w' => e = .returned (.tuple #[]) ∧ Holds w' (blkH p 84 #[v, .int .i64 x] :: F) ∧ Calm w w' := by
  have hc := H.c 1 (.int .i64 0) rfl
  have hf := H.frozen 1
  have hl := H.lt
  go_enter Try.func54, Try.ntmps54
  go_wp2
  go_end0
  exact ⟨rfl, H.set 1 (.int .i64 x), (Calm.refl w).setCell _ _⟩
set_option maxRecDepth 100000 in
set_option maxHeartbeats 1000000 in
theorem fail_again (p : Nat) (v : Value) (x e0 : Int) (he : e0 ≠ 0) (w : World) {F : List Hp} (H : Holds w (blkH p 84 #[v, .int .i64 e0] :: F)) :
    Calls Try.prog 54 #[.pointer (some ⟨p, 0, none⟩), .int .i64 x] w fun e w' => e = .returned (.tuple #[]) ∧ w = w' := by
  have hc := H.c 1 (.int .i64 e0) rfl
  have hb : (e0 == 0) = false := by simpa using he
  clear he
  go_enter Try.func54, Try.ntmps54
  go_wp2
  go_end0
  exact ⟨rfl, rfl⟩

/-- What next returns, and what is left. -/
def nx : List Int → Int × List Int × Int
  | [] => (0, [], 3)
  | c :: bs => (c, bs, 0)
set_option maxRecDepth 100000 in
set_option maxHeartbeats 1000000 in
theorem next_ok (p : Nat) (bs : List Int) (w : World) {G F : List Hp} (hG : Sub F G) (H : RdS 84 G F p w bs 0) :
    Calls Try.prog 53 #[.pointer (some ⟨p, 0, none⟩)] w fun e w' => e = .returned (.int .u8 (nx bs).1) ∧ RdS 84 G F p w' (nx bs).2.1 (nx bs).2.2 ∧ Calm w w' := by
  obtain ⟨A, n, c, H, h0⟩ := H
  obtain ⟨rfl, hnc, hR⟩ := h0 rfl
  have hc0 := H.c 0 (.slice A bs.length c) rfl
  have hc1 := H.c 1 (.int .i64 0) rfl
  have hf := H.frozen 0
  have hl := H.lt
  rcases bs with _ | ⟨x, bs⟩
  · go_enter Try.func53, Try.ntmps53
    go_wp2_with fail
    refine (fail_first p _ 3 w H).mono ?_
    rintro e w1 ⟨rfl, H1, Q1⟩
    have hc2 := H1.c 1 (.int .i64 3) rfl
    go_wp2
    go_ret
    exact ⟨rfl, RdS.err H1 (by decide) _, Q1⟩
  · obtain ⟨ad, rfl, hcell⟩ := at_nat (hR w (hG w H.drop)) (i := 0) (by simp)
    simp only [List.getElem?_cons_zero, Option.getD_some, Addr.add_zero'] at hcell
    have hD := hR.drop 1 (by simp) hnc
    simp only [List.drop_succ_cons, List.drop_zero, List.length_cons, Nat.add_sub_cancel] at hD
    clear hR
    by_cases hc1' : c = 1
    · subst hc1'
      rw [if_pos rfl] at hD
      go_enter Try.func53, Try.ntmps53
      go_wp2
      go_ret
      exact ⟨rfl, ⟨_, _, _, H.set 0 (.slice (some ad) bs.length 0), fun _ => ⟨rfl, by simpa using hnc, hD⟩⟩, (Calm.refl w).setCell _ _⟩
    · rw [if_neg hc1'] at hD
      simp only [Option.map_some, Addr.add_succ'] at hD
      go_enter Try.func53, Try.ntmps53
      go_wp2
      go_ret
      exact ⟨rfl, ⟨_, _, _, H.set 0 (.slice (some ⟨ad.block, ad.off + 1, none⟩) bs.length (c - 1)), fun _ => ⟨rfl, by simp at hnc; omega, hD⟩⟩, (Calm.refl w).setCell _ _⟩
set_option maxRecDepth 100000 in
set_option maxHeartbeats 1000000 in
theorem next_err (p : Nat) (bs : List Int) (e0 : Int) (he : e0 ≠ 0) (w : World) {G F : List Hp} (hG : Sub F G) (H : RdS 84 G F p w bs e0) :
    Calls Try.prog 53 #[.pointer (some ⟨p, 0, none⟩)] w fun e w' => e = .returned (.int .u8 0) ∧ w = w' := by
  obtain ⟨A, n, c, H, h0⟩ := H
  have hc0 := H.c 0 (.slice A n c) rfl
  have hc1 := H.c 1 (.int .i64 e0) rfl
  have hb : (e0 == 0) = false := by simpa using he
  have hb1 : (e0 != 0) = true := by simpa using he
  by_cases hn : n = 0
  · subst hn
    have He := Lib.hid he
    clear he
    go_enter Try.func53, Try.ntmps53
    go_wp2_with fail
    refine (fail_again p _ 3 e0 He.out w H).mono ?_
    rintro e _ ⟨rfl, rfl⟩
    go_wp2
    go_ret
    exact ⟨rfl, rfl⟩
  · have hn1 : ((n : Int) == 0) = false := by simpa using hn
    clear he hn
    go_enter Try.func53, Try.ntmps53
    go_wp2
    go_ret
    exact ⟨rfl, rfl⟩

theorem andNot128 (x : Int) (hx : 0 ≤ x ∧ x < 256) : bits BinOp.andNot IntKind.u8 x 128 = x % 128 := by
  have h : ∀ y : Fin 256, bits BinOp.andNot IntKind.u8 (y.val : Int) 128 = ((y.val % 128 : Nat) : Int) := by decide +kernel
  have := h ⟨x.toNat, by omega⟩
  simp only at this
  rw [show ((x.toNat : Nat) : Int) = x by omega] at this
  rw [this]
  omega
theorem or_step (n i : Nat) (x : Int) (hx : 0 ≤ x ∧ x < 256) (hn : n < 128 ^ i) (hi : i ≤ 9) (hfit : (x % 128).toNat * 128 ^ i < 18446744073709551616) :
    bits BinOp.or IntKind.u64 (n : Int) (IntKind.u64.wrap (IntKind.u64.wrap (bits BinOp.andNot IntKind.u8 x 128) * 2 ^ (7 * i))) = ((n + (x % 128).toNat * 128 ^ i : Nat) : Int) := by
  have e7 : (128 : Nat) ^ i = 2 ^ (7 * i) := by rw [Nat.pow_mul]
  have hp : (128 : Nat) ^ i ≤ 128 ^ 9 := Nat.pow_le_pow_right (by omega) hi
  simp only [Nat.reducePow] at hp
  obtain ⟨m, hm⟩ : ∃ m : Nat, x % 128 = (m : Int) := ⟨(x % 128).toNat, by omega⟩
  rw [andNot128 x hx, hm]
  rw [hm] at hfit
  simp only [Int.toNat_natCast] at hfit ⊢
  have e1 : IntKind.u64.wrap (m : Int) = (m : Int) := by rw [IntKind.wrap_u64]; omega
  have e2 : (2 : Int) ^ (7 * i) = ((128 ^ i : Nat) : Int) := by rw [e7]; exact (Int.natCast_pow 2 (7 * i)).symm
  rw [e1, e2, ← Int.natCast_mul]
  have e3 : IntKind.u64.wrap ((m * 128 ^ i : Nat) : Int) = ((m * 128 ^ i : Nat) : Int) := by rw [IntKind.wrap_u64]; omega
  rw [e3, (bits_nat .u64 64 (by decide) (fun n h0 h1 => by rw [IntKind.wrap_u64]; simp only [Int.reducePow] at h1; omega) n (m * 128 ^ i) (by simp only [Nat.reducePow]; omega) (by simp only [Nat.reducePow]; omega)).2]
  congr 1
  rw [e7] at hn ⊢
  have := Nat.two_pow_add_eq_or_of_lt hn m
  rw [Nat.or_comm, Nat.mul_comm m, ← this]
  omega

/-- What Uint returns, and what is left. -/
def uS (bs : List Int) (e : Int) : Nat × List Int × Int := if e = 0 then uRd 0 0 bs else (0, bs, e)
set_option maxRecDepth 100000 in
set_option maxHeartbeats 4000000 in
theorem rUint (p : Nat) (bs : List Int) (h8 : U8s bs) (w : World) {G F : List Hp} (hG : Sub F G) (H : RdS 84 G F p w bs 0) :
    Calls Try.prog 37 #[.pointer (some ⟨p, 0, none⟩)] w fun e w' => e = .returned (.int .u64 ((uRd 0 0 bs).1 : Int)) ∧ RdS 84 G F p w' (uRd 0 0 bs).2.1 (uRd 0 0 bs).2.2 ∧ Calm w w' := by
  go_enter Try.func37, Try.ntmps37
  go_wp2
  go_loopw [3, 4] (fun nv iv wr => ∃ (i : Nat) (cur : List Int) (e : Int), i ≤ 10 ∧ iv = .int .i64 (i : Int) ∧ RdS 84 G F p wr cur e ∧ Calm w wr ∧ ((e ≠ 0 ∧ Hid (uRd 0 0 bs = (0, cur, e))) ∨ (e = 0 ∧ i ≤ 9 ∧ U8s cur ∧ ∃ n : Nat, nv = .int .u64 (n : Int) ∧ n < 128 ^ i ∧ Hid (uRd i n cur = uRd 0 0 bs)))) (fun _ iv _ => 11 - (intOf iv).toNat)
  case atStart => exact ⟨0, bs, 0, by omega, rfl, H, Calm.refl _, .inr ⟨rfl, by omega, h8, 0, rfl, by simp, rfl⟩⟩
  case round =>
    obtain ⟨i, cur, e, hi, rfl, HS, Q1, ⟨he, hfin⟩ | ⟨rfl, hi9, hcur, n, rfl, hn, hfin⟩⟩ := hrel
    · obtain ⟨A, n0, c, H1, h0⟩ := HS
      have hc1 := H1.c 1 (.int .i64 e) rfl
      have hb : (e == 0) = false := by simpa using he
      have He := Lib.hid he
      clear he
      go_wp2
      go_ret
      rw [hfin.out]
      exact ⟨rfl, ⟨A, n0, c, H1, h0⟩, Q1⟩
    · obtain ⟨A, n0, c, H1, h0⟩ := HS
      have hc1 := H1.c 1 (.int .i64 0) rfl
      have HS : RdS 84 G F p wr cur 0 := ⟨A, n0, c, H1, h0⟩
      rcases cur with _ | ⟨x, cur⟩
      · go_wp2_with fail
        refine (next_ok p [] wr hG HS).mono ?_
        rintro e w1 ⟨rfl, H2, Q2⟩
        simp only [nx] at H2 ⊢
        obtain ⟨A2, n2, c2, H3, _⟩ := H2
        have hc3 := H3.c 1 (.int .i64 3) rfl
        have hfin3 : Hid (uRd 0 0 bs = (0, [], 3)) := by show _ = _; rw [← hfin.out]; rfl
        by_cases h0i : i = 0
        · subst h0i
          have hi0B : (((0 : Nat) : Int) == 9) = false := by decide
          go_wp2
          go_roundw
          case rel => exact ⟨1, [], 3, by omega, by go_num, RdS.err H3 (by decide) _, Q1.trans Q2, .inl ⟨by decide, hfin3⟩⟩
          case measure => simp [intOf]
        · have hi0 : (0 : Int) < (i : Int) := by omega
          have hfl : Calls Try.prog 54 #[.pointer (some ⟨p, 0, none⟩), .int .i64 2] w1 fun e w' => e = .returned (.tuple #[]) ∧ w1 = w' := fail_again p _ 2 3 (by decide) w1 H3
          by_cases h9 : i = 9
          all_goals
            first | have hB : ((i : Int) == 9) = true := (by subst h9; rfl) | have hB : ((i : Int) == 9) = false := (by simp; omega)
            clear h9 h0i
            go_wp2_with fail
            refine hfl.mono ?_
            rintro e _ ⟨rfl, rfl⟩
            go_wp2
            go_roundw
            case rel => exact ⟨i + 1, [], 3, by omega, by go_num, RdS.err H3 (by decide) _, Q1.trans Q2, .inl ⟨by decide, hfin3⟩⟩
            case measure => simp [intOf]; omega
      · have hx := hcur x (by simp)
        have hcur' : U8s cur := fun y hy => hcur y (by simp [hy])
        go_wp2_with fail
        refine (next_ok p (x :: cur) wr hG HS).mono ?_
        rintro e w1 ⟨rfl, H2, Q2⟩
        simp only [nx] at H2 ⊢
        have H2' := H2
        obtain ⟨A2, n2, c2, H3, _⟩ := H2
        have hc3 := H3.c 1 (.int .i64 0) rfl
        have Hx := Lib.hid hx
        have hx0 := hx.1
        have hx1 := hx.2
        clear hx
        by_cases hbad : i = 9 ∧ 1 < x ∨ 0 < i ∧ x = 0
        · have hfin3 : Hid (uRd 0 0 bs = (0, cur, 2)) := by show _ = _; rw [← hfin.out, uRd, if_pos hbad]
          have hfl := fail_first p (.slice A2 n2 c2) 2 w1 H3
          by_cases h9 : i = 9 ∧ 1 < x
          · obtain ⟨rfl, h1x⟩ := h9
            clear hbad
            by_cases hlt : x < 128
            all_goals
              go_wp2_with fail
              refine hfl.mono ?_
              rintro e w2 ⟨rfl, H4, Q3⟩
              have hc4 := H4.c 1 (.int .i64 2) rfl
              go_wp2
              go_roundw
              case rel => exact ⟨10, cur, 2, by omega, by go_num, RdS.err H4 (by decide) _, (Q1.trans Q2).trans Q3, .inl ⟨by decide, hfin3⟩⟩
              case measure => simp [intOf]
          · have hi0 : (0 : Int) < (i : Int) := by omega
            have hx00 : x = 0 := by omega
            subst hx00
            clear hbad h9
            by_cases h9 : i = 9
            all_goals
              first | have hB : ((i : Int) == 9) = true := (by subst h9; rfl) | have hB : ((i : Int) == 9) = false := (by simp; omega)
              clear h9
              go_wp2_with fail
              refine hfl.mono ?_
              rintro e w2 ⟨rfl, H4, Q3⟩
              have hc4 := H4.c 1 (.int .i64 2) rfl
              go_wp2
              go_roundw
              case rel => exact ⟨i + 1, cur, 2, by omega, by go_num, RdS.err H4 (by decide) _, (Q1.trans Q2).trans Q3, .inl ⟨by decide, hfin3⟩⟩
              case measure => simp [intOf]; omega
        · have hB9 : ((i : Int) == 9) = true ∧ decide (1 < x) = false ∧ 0 < i ∧ (x == 0) = false ∨ ((i : Int) == 9) = false ∧ (i = 0 ∨ 0 < i ∧ (x == 0) = false) := by
            by_cases h9 : i = 9
            · exact .inl ⟨by subst h9; rfl, by simp; omega, by omega, by simp; omega⟩
            · exact .inr ⟨by simp; omega, by by_cases h0 : i = 0; exact .inl h0; exact .inr ⟨by omega, by simp; omega⟩⟩
          have hfit : (x % 128).toNat * 128 ^ i < 18446744073709551616 := by
            by_cases h9 : i = 9
            · subst h9
              simp only [Nat.reducePow]
              by_cases h128 : x < 128
              · omega
              · exact absurd (.inl ⟨rfl, by omega⟩) hbad
            · have : 128 ^ i ≤ 128 ^ 8 := Nat.pow_le_pow_right (by omega) (by omega)
              simp only [Nat.reducePow] at this
              have : (x % 128).toNat * 128 ^ i ≤ 127 * 128 ^ i := Nat.mul_le_mul_right _ (by omega)
              omega
          have hor := Lib.hid (or_step n i x Hx.out hn hi9 hfit)
          by_cases hlt : x < 128
          · have hfin3 : Hid (uRd 0 0 bs = (n + (x % 128).toNat * 128 ^ i, cur, 0)) := by show _ = _; rw [← hfin.out, uRd, if_neg hbad, if_pos hlt, show x % 128 = x by omega]
            clear hbad
            rcases hB9 with ⟨b1, b2, b3, b4⟩ | ⟨b1, b2 | ⟨b3, b4⟩⟩
            · have b5 : (0 : Int) < (i : Int) := by omega
              go_wp2
              go_ret
              rw [hfin3.out]
              exact ⟨ret_int hor.out, H2', Q1.trans Q2⟩
            · subst b2
              go_wp2
              go_ret
              rw [hfin3.out]
              exact ⟨ret_int (by have h := hor.out; rw [Nat.mul_zero, Int.pow_zero, Int.mul_one] at h; exact h), H2', Q1.trans Q2⟩
            · have b5 : (0 : Int) < (i : Int) := by omega
              go_wp2
              go_ret
              rw [hfin3.out]
              exact ⟨ret_int hor.out, H2', Q1.trans Q2⟩
          · have hfin3 : Hid (uRd (i + 1) (n + (x % 128).toNat * 128 ^ i) cur = uRd 0 0 bs) := by show _ = _; rw [← hfin.out, uRd, if_neg hbad, if_neg hlt, show (x % 128).toNat = x.toNat - 128 by omega]
            have hnew : n + (x % 128).toNat * 128 ^ i < 128 ^ (i + 1) := by
              rw [Nat.pow_succ, Nat.mul_comm (128 ^ i) 128]
              have : (x % 128).toNat * 128 ^ i ≤ 127 * 128 ^ i := Nat.mul_le_mul_right _ (by omega)
              omega
            have hi8 : i + 1 ≤ 9 := by
              by_cases h9 : i = 9
              · exact absurd (.inl ⟨h9, by omega⟩) hbad
              · omega
            have Hnew := Lib.hid hnew
            clear hbad hnew hfit
            rcases hB9 with ⟨b1, b2, b3, b4⟩ | ⟨b1, b2 | ⟨b3, b4⟩⟩
            · have b5 : (0 : Int) < (i : Int) := by omega
              go_wp2
              go_roundw
              case rel => exact ⟨i + 1, cur, 0, by omega, by go_num, H2', Q1.trans Q2, .inr ⟨rfl, hi8, hcur', _, int_eq hor.out, Hnew.out, hfin3⟩⟩
              case measure => simp [intOf]; omega
            · subst b2
              go_wp2
              go_roundw
              case rel => exact ⟨0 + 1, cur, 0, by omega, by go_num, H2', Q1.trans Q2, .inr ⟨rfl, hi8, hcur', _, int_eq (by have h := hor.out; rw [Nat.mul_zero, Int.pow_zero, Int.mul_one] at h; exact h), Hnew.out, hfin3⟩⟩
              case measure => simp [intOf]
            · have b5 : (0 : Int) < (i : Int) := by omega
              go_wp2
              go_roundw
              case rel => exact ⟨i + 1, cur, 0, by omega, by go_num, H2', Q1.trans Q2, .inr ⟨rfl, hi8, hcur', _, int_eq hor.out, Hnew.out, hfin3⟩⟩
              case measure => simp [intOf]; omega

set_option maxRecDepth 100000 in
set_option maxHeartbeats 1000000 in
theorem rUint_err (p : Nat) (bs : List Int) (e0 : Int) (he : e0 ≠ 0) (w : World) {G F : List Hp} (hG : Sub F G) (H : RdS 84 G F p w bs e0) :
    Calls Try.prog 37 #[.pointer (some ⟨p, 0, none⟩)] w fun e w' => e = .returned (.int .u64 0) ∧ w = w' := by
  obtain ⟨A, n, c, H, h0⟩ := H
  have hc1 := H.c 1 (.int .i64 e0) rfl
  have hb : (e0 == 0) = false := by simpa using he
  clear he
  go_enter Try.func37, Try.ntmps37
  go_wp2
  refine wp_loop_rounds 1 ?_
  rw [rounds_succ]
  go_wp2
  go_ret
  exact ⟨rfl, rfl⟩

theorem uS_err (bs : List Int) {e : Int} (h : e ≠ 0) : uS bs e = (0, bs, e) := if_neg h
theorem uS_ok (bs : List Int) : uS bs 0 = uRd 0 0 bs := if_pos rfl
theorem rUintS (p : Nat) (bs : List Int) (e0 : Int) (h8 : U8s bs) (w : World) {G F : List Hp} (hG : Sub F G) (H : RdS 84 G F p w bs e0) :
    Calls Try.prog 37 #[.pointer (some ⟨p, 0, none⟩)] w fun e w' => e = .returned (.int .u64 ((uS bs e0).1 : Int)) ∧ RdS 84 G F p w' (uS bs e0).2.1 (uS bs e0).2.2 ∧ Calm w w' := by
  by_cases he : e0 = 0
  · subst he
    rw [uS_ok]
    exact rUint p bs h8 w hG H
  · rw [uS_err bs he]
    refine (rUint_err p bs e0 he w hG H).mono ?_
    rintro e w' ⟨rfl, rfl⟩
    exact ⟨rfl, H, Calm.refl _⟩

theorem xor_comm_i64 (a b : Int) : bits BinOp.xor IntKind.i64 a b = bits BinOp.xor IntKind.i64 b a := by
  exact congrArg (fun v : BitVec 64 => IntKind.i64.wrap (v.toNat : Int)) (BitVec.xor_comm (BitVec.ofInt 64 a) (BitVec.ofInt 64 b))
theorem xor_zero_i64 (a : Nat) (h : a < 9223372036854775808) : bits BinOp.xor IntKind.i64 (a : Int) 0 = (a : Int) := by
  show IntKind.i64.wrap ((BitVec.ofInt 64 (a : Int) ^^^ BitVec.ofInt 64 0).toNat : Int) = _
  rw [show BitVec.ofInt 64 0 = 0#64 from rfl, BitVec.xor_zero, BitVec.ofInt_natCast, BitVec.toNat_ofNat, Nat.mod_eq_of_lt (by omega), IntKind.wrap_i64]
  omega
theorem uRd_val {bs : List Int} (h8 : U8s bs) : (uRd 0 0 bs).1 < 18446744073709551616 := by
  obtain ⟨v, r, e, h⟩ : ∃ v r e, uRd 0 0 bs = (v, r, e) := ⟨_, _, _, rfl⟩
  have h1 := uRd_err bs 0 0
  rw [h] at h1 ⊢
  dsimp only at h1 ⊢
  rcases h1 with rfl | ⟨_, rfl⟩
  · exact (uRd_back0 h8 h).2
  · omega
theorem uS_val {bs : List Int} {e : Int} (h8 : U8s bs) : (uS bs e).1 < 18446744073709551616 := by
  unfold uS
  split
  · exact uRd_val h8
  · show 0 < _
    omega
theorem uRd_rest : ∀ (bs : List Int) (i n : Nat), ∃ m, (uRd i n bs).2.1 = bs.drop m ∧ m ≤ bs.length
  | [], i, n => ⟨0, rfl, Nat.le_refl _⟩
  | c :: bs, i, n => by
    rw [uRd]
    split
    · exact ⟨1, rfl, by simp⟩
    · split
      · exact ⟨1, rfl, by simp⟩
      · obtain ⟨m, h1, h2⟩ := uRd_rest bs (i + 1) (n + (c.toNat - 128) * 128 ^ i)
        exact ⟨m + 1, by rw [h1]; rfl, by simp; omega⟩
theorem uS_rest (bs : List Int) (e : Int) : ∃ m, (uS bs e).2.1 = bs.drop m ∧ m ≤ bs.length := by
  unfold uS
  split
  · exact uRd_rest bs 0 0
  · exact ⟨0, rfl, Nat.zero_le _⟩
theorem u8s_drop {bs : List Int} (h : U8s bs) (m : Nat) : U8s (bs.drop m) := fun x hx => h x (List.mem_of_mem_drop hx)
theorem u8s_take {bs : List Int} (h : U8s bs) (m : Nat) : U8s (bs.take m) := fun x hx => h x (List.mem_of_mem_take hx)
theorem uS_u8 {bs : List Int} (h : U8s bs) (e : Int) : U8s (uS bs e).2.1 := by
  obtain ⟨m, h1, _⟩ := uS_rest bs e
  rw [h1]
  exact u8s_drop h m

/-- What Bool returns, and what is left. -/
def bS (bs : List Int) (e : Int) : Bool × List Int × Int := if e = 0 then boolRd bs else (false, bs, e)
/-- What End returns. -/
def endE (bs : List Int) (e : Int) : Int := if e = 0 then (if bs = [] then 0 else 2) else e
set_option maxRecDepth 100000 in
set_option maxHeartbeats 1000000 in
theorem rEnd (p : Nat) (bs : List Int) (e0 : Int) (w : World) {G F : List Hp} (H : RdS 84 G F p w bs e0) :
    Calls Try.prog 38 #[.pointer (some ⟨p, 0, none⟩)] w fun e w' => e = .returned (.int .i64 (endE bs e0)) ∧ w = w' := by
  obtain ⟨A, n, c, H, h0⟩ := H
  have hc0 := H.c 0 (.slice A n c) rfl
  have hc1 := H.c 1 (.int .i64 e0) rfl
  by_cases he : e0 = 0
  · subst he
    obtain ⟨rfl, _, _⟩ := h0 rfl
    rcases bs with _ | ⟨x, bs⟩
    · go_enter Try.func38, Try.ntmps38
      go_wp2
      go_ret
      exact ⟨rfl, rfl⟩
    · go_enter Try.func38, Try.ntmps38
      go_wp2
      go_ret
      exact ⟨rfl, rfl⟩
  · have hb : (e0 == 0) = false := by simpa using he
    have hr : endE bs e0 = e0 := if_neg he
    rw [hr]
    clear hr he h0
    go_enter Try.func38, Try.ntmps38
    go_wp2
    go_ret
    exact ⟨rfl, rfl⟩

set_option maxRecDepth 100000 in
set_option maxHeartbeats 1000000 in
theorem read_calls (A : Option Addr) (c : Nat) (l : List Int) (hl : l.length ≤ 140737488355328) (w : World) {F : List Hp} (H : Holds w F) (hC : (Kd.int .u8).C w A l.length l) :
    Calls Try.prog 36 #[.slice A l.length c] w fun e w' => ∃ p A', e = .returned (.pointer (some ⟨p, 0, none⟩)) ∧ RdS 84 [viewH .u8 A' l] (viewH .u8 A' l :: F) p w' l 0 ∧ Calm w w' := by
  go_enter Try.func36, Try.ntmps36
  go_wp2_with fail
  refine (clone_u8 A c l hl w H hC).mono ?_
  rintro e w1 ⟨A1, c1, rfl, H1, h1, Q1⟩
  have H2 := H1.view.box 84 #[.slice A1 l.length c1, .int .i64 0]
  go_wp2
  go_ret
  exact ⟨_, A1, rfl, ⟨A1, l.length, c1, H2, fun _ => ⟨rfl, h1, Rd.view _⟩⟩, Q1.alloc _⟩
end Go.Proofs.Ytkkhpdbognaioaa

