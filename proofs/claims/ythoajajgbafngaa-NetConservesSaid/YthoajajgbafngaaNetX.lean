/- The contracts of the reference's network (section 32). -/
import Derived.Test.YthoajajgbafngaaNetOrd
import Derived.Test.YthoajajgbafngaaSepF
namespace Go.Proofs.Ythoajajgbafngaa
set_option linter.unusedVariables false
set_option linter.unusedSimpArgs false
open Go.RowKit Go.Shelf Go.Proofs.YthoajajgbafngaaW.PrintWords Go.Proofs.YthoajajgbafngaaW.PrintLast Go.Proofs.YthoajajgbafngaaW.PrintMore

/-- A message's cells, and the bytes that they lead to. -/
structure MsgC where
  frm : Int
  to_ : Int
  A : Option Addr
  c : Nat
  b : List Int
def MsgC.msg (m : MsgC) : Msg := ⟨m.frm, m.to_, m.b⟩
def MsgC.cells (m : MsgC) : List Value := [.int .i64 m.frm, .int .i64 m.to_, .slice m.A m.b.length m.c]
theorem MsgC.one (m : MsgC) : ∀ u ∈ m.cells, u.oneCell' = true := fun u hu => by
  simp only [MsgC.cells, List.mem_cons, List.not_mem_nil, or_false] at hu
  rcases hu with rfl | rfl | rfl <;> rfl
abbrev msgK : Kd MsgC := flatK 3 MsgC.cells
theorem info_msgC : (Try.prog.info? 32).map (fun i => (i.zero, i.size, i.bytes)) = some (some (.agg #[.int .i64 0, .int .i64 0, .slice none 0 0]), 3, 40) := by kernel_rfl

/-- The reference's network behind the pointer q. -/
def xnetH (q : Nat) (gs : List Int) (L : List MsgC) : Hp := exH fun gA => exH fun gc => exH fun LA => exH fun Lc => sepL [blkH q 45 #[.slice gA gs.length gc, .slice LA L.length Lc], rowH (Kd.int .i64) 3 (.slice gA gs.length gc) gs, rowH msgK 32 (.slice LA L.length Lc) L]
theorem Holds.xnOpen {w : World} {q : Nat} {gs : List Int} {L : List MsgC} {F : List Hp} (h : Holds w (xnetH q gs L :: F)) : ∃ gA gc LA Lc, Holds w (blkH q 45 #[.slice gA gs.length gc, .slice LA L.length Lc] :: rowH (Kd.int .i64) 3 (.slice gA gs.length gc) gs :: rowH msgK 32 (.slice LA L.length Lc) L :: F) := by
  obtain ⟨gA, h⟩ := h.ex
  obtain ⟨gc, h⟩ := h.ex
  obtain ⟨LA, h⟩ := h.ex
  obtain ⟨Lc, h⟩ := h.ex
  exact ⟨gA, gc, LA, Lc, h.parts⟩
theorem Holds.xnShut {w : World} {q : Nat} {gs : List Int} {L : List MsgC} {F : List Hp} {gA : Option Addr} {gc : Nat} {LA : Option Addr} {Lc : Nat} (h : Holds w (blkH q 45 #[.slice gA gs.length gc, .slice LA L.length Lc] :: rowH (Kd.int .i64) 3 (.slice gA gs.length gc) gs :: rowH msgK 32 (.slice LA L.length Lc) L :: F)) : Holds w (xnetH q gs L :: F) :=
  Holds.mk gA (Holds.mk gc (Holds.mk LA (Holds.mk Lc (Holds.group h))))

def sendLC (gs : List Int) (L : List MsgC) (m : MsgC) : List MsgC := if Old.sendOk gs m.msg = true then (if 1000 ≤ L.length then L else L ++ [m]) else L
def copyLC (L : List MsgC) (i : Int) : List MsgC := if inR L i = true then (if 1000 ≤ L.length then L else L ++ (L[i.toNat]?).toList) else L
def dropLC (L : List MsgC) (i : Int) : List MsgC := if inR L i = true then L.eraseIdx i.toNat else L
def zeroC : MsgC := ⟨0, 0, none, 0, []⟩
def atC (L : List MsgC) (i : Int) : MsgC := (L[i.toNat]?).getD zeroC
def takeLC (gs : List Int) (L : List MsgC) (i : Int) : List MsgC := if inR L i = true then (if oneG gs (atC L i).msg = true then L.eraseIdx i.toNat else L) else L
def takeC (gs : List Int) (L : List MsgC) (i : Int) : MsgC := if inR L i = true then (if oneG gs (atC L i).msg = true then atC L i else zeroC) else zeroC
theorem inR_map (L : List MsgC) (i : Int) : inR (L.map MsgC.msg) i = inR L i := by unfold inR; rw [List.length_map]
theorem atC_map (L : List MsgC) (i : Int) : atM (L.map MsgC.msg) i = (atC L i).msg := by
  unfold atM atC
  rw [List.getElem?_map]
  cases L[i.toNat]? <;> rfl
theorem eraseIdx_map {α β : Type} (f : α → β) : ∀ (l : List α) (i : Nat), (l.eraseIdx i).map f = (l.map f).eraseIdx i
  | [], _ => rfl
  | _ :: _, 0 => rfl
  | x :: l, i + 1 => by simp [eraseIdx_map f l i]
theorem sendLC_map (gs : List Int) (L : List MsgC) (m : MsgC) : (sendLC gs L m).map MsgC.msg = sendL gs (L.map MsgC.msg) m.msg := by
  unfold sendLC sendL
  rw [List.length_map]
  split
  · split
    · rfl
    · simp
  · rfl
theorem copyLC_map (L : List MsgC) (i : Int) : (copyLC L i).map MsgC.msg = copyL (L.map MsgC.msg) i := by
  unfold copyLC copyL
  rw [List.length_map, inR_map]
  split
  · split
    · rfl
    · rw [List.map_append, List.getElem?_map]
      cases L[i.toNat]? <;> rfl
  · rfl
theorem dropLC_map (L : List MsgC) (i : Int) : (dropLC L i).map MsgC.msg = dropL (L.map MsgC.msg) i := by
  unfold dropLC dropL
  rw [inR_map]
  split
  · exact eraseIdx_map _ _ _
  · rfl
theorem takeLC_map (gs : List Int) (L : List MsgC) (i : Int) : (takeLC gs L i).map MsgC.msg = takeL gs (L.map MsgC.msg) i := by
  unfold takeLC takeL
  rw [inR_map, atC_map]
  split
  · split
    · exact eraseIdx_map _ _ _
    · rfl
  · rfl
theorem takeC_map (gs : List Int) (L : List MsgC) (i : Int) : (takeC gs L i).msg = takeM gs (L.map MsgC.msg) i := by
  unfold takeC takeM
  rw [inR_map, atC_map]
  split
  · split <;> rfl
  · rfl
theorem inRC_get {L : List MsgC} {i : Int} (h : inR L i = true) : ∃ k : Nat, i = (k : Int) ∧ k < L.length ∧ L[k]? = some (atC L i) := by
  obtain ⟨h0, h1⟩ := inR_iff.1 h
  refine ⟨i.toNat, by omega, by omega, ?_⟩
  unfold atC
  rw [List.getElem?_eq_getElem (show i.toNat < L.length by omega)]
  rfl
theorem sendOk_no {gs : List Int} {m : Msg} (h : ¬ Old.sendOk gs m = true) : m.frm < 0 ∨ (0 ≤ m.frm ∧ (gs.length : Int) ≤ m.frm) ∨ (0 ≤ m.frm ∧ m.frm < (gs.length : Int) ∧ m.to_ < 0) ∨ (0 ≤ m.frm ∧ m.frm < (gs.length : Int) ∧ 0 ≤ m.to_ ∧ (gs.length : Int) ≤ m.to_) ∨ (0 ≤ m.frm ∧ m.frm < (gs.length : Int) ∧ 0 ≤ m.to_ ∧ m.to_ < (gs.length : Int) ∧ (65536 : Int) < (m.b.length : Int)) := by
  rw [sendOk_iff] at h
  omega

set_option maxRecDepth 100000 in
set_option maxHeartbeats 4000000 in
theorem xSend (q : Nat) (gs : List Int) (L : List MsgC) (m : MsgC) (hg : gs.length ≤ 1000000) (hL : L.length ≤ 1000) (w : World) {F : List Hp} (H : Holds w (xnetH q gs L :: F)) :
    Calls Try.prog 13 #[.pointer (some ⟨q, 0, none⟩), .agg #[.int .i64 m.frm, .int .i64 m.to_, .slice m.A m.b.length m.c]] w fun e w' => e = .returned (.int .i64 (sendE gs (L.map MsgC.msg) m.msg)) ∧ Holds w' (xnetH q gs (sendLC gs L m) :: F) ∧ Calm w w' := by
  obtain ⟨gA, gc, LA, Lc, H1⟩ := H.xnOpen
  have H2 := H1.box 32 #[.int .i64 m.frm, .int .i64 m.to_, .slice m.A m.b.length m.c]
  have Q2 := (Calm.refl w).alloc (.cells #[.int .i64 m.frm, .int .i64 m.to_, .slice m.A m.b.length m.c] 32)
  have hone := m.one
  unfold sendE sendLC
  rw [List.length_map]
  by_cases hs : Old.sendOk gs m.msg = true
  · rw [if_pos hs, if_pos hs]
    obtain ⟨s1, s2, s3, s4, s5⟩ := sendOk_iff.1 hs
    obtain ⟨frm, to_, A, c, b⟩ := m
    simp only [MsgC.msg] at s1 s2 s3 s4 s5
    have s5i : ¬ (65536 : Int) < (b.length : Int) := by omega
    have c0 := H2.c 0 (.int .i64 frm) rfl
    have c1 := H2.c 1 (.int .i64 to_) rfl
    have c2 := H2.c 2 (.slice A b.length c) rfl
    have n0 := H2.f2.c 0 (.slice gA gs.length gc) rfl
    have n1 := H2.f2.c 1 (.slice LA L.length Lc) rfl
    clear hs
    by_cases hf : 1000 ≤ L.length
    · rw [if_pos hf, if_pos hf]
      have hfi : (1000 : Int) ≤ (L.length : Int) := by omega
      go_enter Try.func13, Try.ntmps13
      go_wp2
      go_ret
      exact ⟨rfl, H2.drop.xnShut, Q2⟩
    · rw [if_neg hf, if_neg hf]
      have hfi : ¬ (1000 : Int) ≤ (L.length : Int) := by omega
      have hl1 : (L.length + 1) * 40 ≤ 140737488355328 := by omega
      have H3 := H2.drew.f4
      have lq := H2.f2.lt
      have lb := H2.lt
      have fq := H2.f2.frozen 1
      have g1 : decide (frm < 0) = false := decide_eq_false (by omega)
      have g2 : decide ((gs.length : Int) ≤ frm) = false := decide_eq_false (by omega)
      have g3 : decide (to_ < 0) = false := decide_eq_false (by omega)
      have g4 : decide ((gs.length : Int) ≤ to_) = false := decide_eq_false (by omega)
      go_enter Try.func13, Try.ntmps13
      go_wp2_with fail
      generalize w.alloc (.cells #[.int .i64 frm, .int .i64 to_, .slice A b.length c] 32) = W1 at *
      generalize w.heap.size = b0 at *
      go_region_law (refine H_append_flat_step (f := MsgC.cells) (sz := 3) (W := W1.drew) rfl (.tmp 47) (.tmp 49) 43 32 _ 40 rfl Try.underlying43 info_msgC rfl (by decide) (by decide) (.slice LA L.length Lc) L ⟨frm, to_, A, c, b⟩ _ rfl rfl hone _ rfl rfl (by simp) H3 hl1 ?_; intro B1 A4 c4 w3 hB1 K1 k1 Q3; have d3 := K1.f3.c 1 (.slice LA L.length Lc) rfl; have f3 := K1.f3.frozen 1; have l3 := K1.f3.lt)
      all_goals
        have K2 := K1.f3.set 1 (.slice A4 B1.length c4)
        have K3 := ((K2.f4.f2).f4.drop).xnShut
        have Q4 := ((Q2.drew).trans Q3).setCell ⟨q, 1, none⟩ (.slice A4 B1.length c4)
        clear H2 H3 K1 K2 c0 c1 c2 n0 n1 d3 f3 l3 lq lb fq
        go_wp2
        go_ret
        rw [← hB1.out]
        exact ⟨rfl, K3, Q4⟩
  · rw [if_neg hs, if_neg hs]
    have hn := sendOk_no hs
    obtain ⟨frm, to_, A, c, b⟩ := m
    simp only [MsgC.msg] at hn
    have c0 := H2.c 0 (.int .i64 frm) rfl
    have c1 := H2.c 1 (.int .i64 to_) rfl
    have c2 := H2.c 2 (.slice A b.length c) rfl
    have n0 := H2.f2.c 0 (.slice gA gs.length gc) rfl
    have H3 := H2.drop.xnShut
    clear hs
    rcases hn with h1 | ⟨h1, h2⟩ | ⟨h1, h2, h3⟩ | ⟨h1, h2, h3, h4⟩ | ⟨h1, h2, h3, h4, h5⟩
    all_goals
      go_enter Try.func13, Try.ntmps13
      go_wp2
      go_ret
      exact ⟨rfl, H3, Q2⟩

set_option maxRecDepth 100000 in
set_option maxHeartbeats 4000000 in
theorem xremove (q : Nat) (gs : List Int) (L : List MsgC) (i : Nat) (hi : i < L.length) (hL : L.length ≤ 1000) (w : World) {F : List Hp} (H : Holds w (xnetH q gs L :: F)) :
    Calls Try.prog 34 #[.pointer (some ⟨q, 0, none⟩), .int .i64 (i : Int)] w fun e w' => e = .returned (.tuple #[]) ∧ Holds w' (xnetH q gs (L.eraseIdx i) :: F) ∧ Calm w w' := by
  obtain ⟨gA, gc, LA, Lc, H1⟩ := H.xnOpen
  have n1 := H1.c 1 (.slice LA L.length Lc) rfl
  have hii : (i : Int) < (L.length : Int) := by omega
  have H2 := H1.nilRow msgK 32
  obtain ⟨hlen, hcap, hC⟩ := H1.f3.row'
  have hCt : msgK.C w LA i (L.take i) := by
    have := Kd.C_take hC (m := i) (by omega)
    rwa [show (L.take i).length = i by rw [List.length_take]; omega] at this
  have hl1 : (([] : List MsgC).length + i) * 40 ≤ 140737488355328 := by simp; omega
  by_cases hcm : Lc = i + 1
  · subst hcm
    go_enter Try.func34, Try.ntmps34
    go_wp2_with (first
      | (at_builtin; refine H_append_flat (f := MsgC.cells) (sz := 3) rfl (.tmp 5) (.tmp 11) 43 32 _ 40 rfl Try.underlying43 info_msgC rfl (by decide) (by decide) (.slice none 0 0) [] (L.take i) LA i (i + 1) rfl rfl H2 hCt hl1 ?_; intro B1 A4 c4 w3 hB1 K1 k1 Q3; have d1 := K1.f2.c 1 (.slice LA L.length (i + 1)) rfl; have hb1 : B1.length ≤ 1000 := by rw [hB1.out, List.nil_append, List.length_take]; omega)
      | (at_builtin; go_must (have hCd := Kd.C_drop (m := i + 1) K1.f4.row'.2.2 (by omega) hcap; rw [if_pos rfl, List.length_drop, show L.length - (i + 1) = 0 by omega] at hCd; refine H_append_flat (f := MsgC.cells) (sz := 3) rfl (.tmp 14) (.tmp 21) 43 32 _ 40 rfl Try.underlying43 info_msgC rfl (by decide) (by decide) (.slice A4 B1.length c4) B1 (L.drop (i + 1)) _ _ _ rfl rfl K1 hCd (by omega) ?_; intro B6 A6 c6 w6 hB6 K6 k6 Q6; have d6 := K6.f2.c 1 (.slice LA L.length (i + 1)) rfl; have f6 := K6.f2.frozen 1; have l6 := K6.f2.lt)))
    have K7 := K6.f2.set 1 (.slice A6 B6.length c6)
    have hfin : L.eraseIdx i = B6 := by rw [hB6.out, hB1.out, List.nil_append, List.eraseIdx_eq_take_drop_succ]
    have K8 := (((K7.f4.drop).f3).f2).xnShut
    go_end0
    rw [hfin]
    exact ⟨rfl, K8, (Q3.trans Q6).setCell _ _⟩
  · go_enter Try.func34, Try.ntmps34
    go_wp2_with (first
      | (at_builtin; refine H_append_flat (f := MsgC.cells) (sz := 3) rfl (.tmp 5) (.tmp 11) 43 32 _ 40 rfl Try.underlying43 info_msgC rfl (by decide) (by decide) (.slice none 0 0) [] (L.take i) LA i Lc rfl rfl H2 hCt hl1 ?_; intro B1 A4 c4 w3 hB1 K1 k1 Q3; have d1 := K1.f2.c 1 (.slice LA L.length Lc) rfl; have hb1 : B1.length ≤ 1000 := by rw [hB1.out, List.nil_append, List.length_take]; omega)
      | (at_builtin; go_must (have hCd := Kd.C_drop (m := i + 1) K1.f4.row'.2.2 (by omega) hcap; rw [if_neg hcm, List.length_drop] at hCd; refine H_append_flat (f := MsgC.cells) (sz := 3) rfl (.tmp 14) (.tmp 21) 43 32 _ 40 rfl Try.underlying43 info_msgC rfl (by decide) (by decide) (.slice A4 B1.length c4) B1 (L.drop (i + 1)) _ _ _ rfl rfl K1 hCd (by omega) ?_; intro B6 A6 c6 w6 hB6 K6 k6 Q6; have d6 := K6.f2.c 1 (.slice LA L.length Lc) rfl; have f6 := K6.f2.frozen 1; have l6 := K6.f2.lt)))
    have K7 := K6.f2.set 1 (.slice A6 B6.length c6)
    have hfin : L.eraseIdx i = B6 := by rw [hB6.out, hB1.out, List.nil_append, List.eraseIdx_eq_take_drop_succ]
    have K8 := (((K7.f4.drop).f3).f2).xnShut
    go_end0
    rw [hfin]
    exact ⟨rfl, K8, (Q3.trans Q6).setCell _ _⟩

set_option maxRecDepth 100000 in
set_option maxHeartbeats 4000000 in
theorem xDrop (q : Nat) (gs : List Int) (L : List MsgC) (i : Int) (hL : L.length ≤ 1000) (w : World) {F : List Hp} (H : Holds w (xnetH q gs L :: F)) :
    Calls Try.prog 20 #[.pointer (some ⟨q, 0, none⟩), .int .i64 i] w fun e w' => e = .returned (.int .i64 (dropE (L.map MsgC.msg) i)) ∧ Holds w' (xnetH q gs (dropLC L i) :: F) ∧ Calm w w' := by
  obtain ⟨gA, gc, LA, Lc, H1⟩ := H.xnOpen
  have n1 := H1.c 1 (.slice LA L.length Lc) rfl
  unfold dropE dropLC
  rw [inR_map]
  by_cases hs : inR L i = true
  · rw [if_pos hs, if_pos hs]
    obtain ⟨k, rfl, hk, hgt⟩ := inRC_get hs
    rw [Int.toNat_natCast]
    have hr := xremove q gs L k hk hL w H
    have hki : ¬ (L.length : Int) ≤ (k : Int) := by omega
    clear hs hgt
    go_enter Try.func20, Try.ntmps20
    go_wp2_with fail
    refine hr.mono ?_
    rintro e w1 ⟨rfl, H2, Q2⟩
    go_wp2
    go_ret
    exact ⟨rfl, H2, Q2⟩
  · rw [if_neg hs, if_neg hs]
    rw [inR_iff] at hs
    by_cases h0 : i < 0
    · clear hs
      go_enter Try.func20, Try.ntmps20
      go_wp2
      go_ret
      exact ⟨rfl, H, Calm.refl _⟩
    · have h1 : (L.length : Int) ≤ i := by omega
      clear hs
      go_enter Try.func20, Try.ntmps20
      go_wp2
      go_ret
      exact ⟨rfl, H, Calm.refl _⟩

set_option maxRecDepth 100000 in
set_option maxHeartbeats 4000000 in
theorem xPart (q : Nat) (gs xs : List Int) (L : List MsgC) (A : Option Addr) (c : Nat) (hl : xs.length ≤ 1000000) (hc : xs.length ≤ c) (w : World) {F : List Hp} (H : Holds w (xnetH q gs L :: F)) (hR : Rd (Kd.int .i64) F A xs.length xs) :
    Calls Try.prog 22 #[.pointer (some ⟨q, 0, none⟩), .slice A xs.length c] w fun e w' => e = .returned (.int .i64 (partE gs xs)) ∧ Holds w' (xnetH q (partG gs xs) L :: F) ∧ Calm w w' := by
  obtain ⟨gA, gc, LA, Lc, H1⟩ := H.xnOpen
  have n0 := H1.c 0 (.slice gA gs.length gc) rfl
  unfold partE partG
  by_cases hq : xs.length = gs.length
  · rw [if_pos hq, if_pos hq]
    have hI := Ints_H A c xs (xs.length : Int) (by omega) (by omega) w (hR w H.drop) hc H1
    rw [Int.toNat_natCast, List.take_length] at hI
    have hqb : ((xs.length : Int) == (gs.length : Int)) = true := by simp [hq]
    have hqn : ((xs.length : Int) != (gs.length : Int)) = false := by simp [hq]
    clear hq
    go_enter Try.func22, Try.ntmps22
    go_wp2_with fail
    refine hI.mono ?_
    rintro e w1 ⟨A2, c2, rfl, H2, Q2⟩
    have f0 := H2.f2.frozen 0
    have l0 := H2.f2.lt
    have d0 := H2.f2.c 0 (.slice gA gs.length gc) rfl
    have K := H2.f2.set 0 (.slice A2 xs.length c2)
    go_wp2
    go_ret
    exact ⟨rfl, (K.f3.drop).xnShut, Q2.setCell _ _⟩
  · rw [if_neg hq, if_neg hq]
    have hqb : ((xs.length : Int) == (gs.length : Int)) = false := by simp; omega
    have hqn : ((xs.length : Int) != (gs.length : Int)) = true := by simp; omega
    have hqi : ¬ (xs.length : Int) = (gs.length : Int) := by omega
    clear hq
    go_enter Try.func22, Try.ntmps22
    go_wp2
    go_ret
    exact ⟨rfl, H, Calm.refl _⟩
end Go.Proofs.Ythoajajgbafngaa
