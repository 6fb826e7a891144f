/- The contracts of the reference's New, Same, Ops. -/
import Derived.Test.YthoajajgbafngaaNetX2
namespace Go.Proofs.Ythoajajgbafngaa
set_option linter.unusedVariables false
set_option linter.unusedSimpArgs false
open Go.RowKit Go.Shelf Go.Proofs.YthoajajgbafngaaW.PrintWords Go.Proofs.YthoajajgbafngaaW.PrintLast Go.Proofs.YthoajajgbafngaaW.PrintMore

def sameM (m n : Msg) : Bool := decide (m.frm = n.frm ∧ m.to_ = n.to_ ∧ m.b = n.b)
theorem sameM_refl (m : Msg) : sameM m m = true := decide_eq_true ⟨rfl, rfl, rfl⟩
set_option maxRecDepth 100000 in
set_option maxHeartbeats 4000000 in
theorem xSame (m n : MsgC) (hl : m.b.length ≤ 140737488351232) (w : World) {F : List Hp} (H : Holds w F) (hR1 : Rd (Kd.int .u8) F m.A m.b.length m.b) (hR2 : Rd (Kd.int .u8) F n.A n.b.length n.b) :
    Calls Try.prog 16 #[.agg #[.int .i64 m.frm, .int .i64 m.to_, .slice m.A m.b.length m.c], .agg #[.int .i64 n.frm, .int .i64 n.to_, .slice n.A n.b.length n.c]] w fun e w' => e = .returned (.bool (sameM m.msg n.msg)) ∧ Holds w' F ∧ Calm w w' := by
  obtain ⟨f1, t1, A1, c1, b1⟩ := m
  obtain ⟨f2, t2, A2, c2, b2⟩ := n
  have HB := (H.box 32 #[.int .i64 f1, .int .i64 t1, .slice A1 b1.length c1]).box 32 #[.int .i64 f2, .int .i64 t2, .slice A2 b2.length c2]
  have QB := ((Calm.refl w).alloc (.cells #[.int .i64 f1, .int .i64 t1, .slice A1 b1.length c1] 32)).alloc (.cells #[.int .i64 f2, .int .i64 t2, .slice A2 b2.length c2] 32)
  rw [World.size_alloc] at HB
  simp only [MsgC.msg] at hl hR1 hR2 ⊢
  have x0 := HB.c 0 (.int .i64 f2) rfl
  have x1 := HB.c 1 (.int .i64 t2) rfl
  have x2 := HB.c 2 (.slice A2 b2.length c2) rfl
  have y0 := HB.f2.c 0 (.int .i64 f1) rfl
  have y1 := HB.f2.c 1 (.int .i64 t1) rfl
  have y2 := HB.f2.c 2 (.slice A1 b1.length c1) rfl
  have hC1 := hR1 _ HB.drop.drop
  have hC2 := hR2 _ HB.drop.drop
  by_cases h1 : f1 = f2
  · by_cases h2 : t1 = t2
    · subst h1 h2
      have hT : sameM ⟨f1, t1, b1⟩ ⟨f1, t1, b2⟩ = decide (b1 = b2) := by unfold sameM; simp
      rw [hT]
      obtain ⟨b, hb⟩ : ∃ b, Hid (decide (b1 = b2) = b) := ⟨_, Lib.hid rfl⟩
      rw [hb.out]
      clear hT
      go_enter Try.func16, Try.ntmps16
      go_wp2_with fail
      refine (SameBytes_H A1 c1 b1.length b1 A2 c2 b2.length b2 b hb _ rfl rfl hC1 hC2 hl HB).mono ?_
      rintro e w3 ⟨rfl, H3, Q3⟩
      go_wp2
      go_ret
      exact ⟨rfl, H3.drop.drop, QB.trans Q3⟩
    · have hT : sameM ⟨f1, t1, b1⟩ ⟨f2, t2, b2⟩ = false := decide_eq_false (fun h => h2 h.2.1)
      rw [hT]
      have hb2 : (t1 == t2) = false := by simpa using h2
      subst h1
      clear hT
      go_enter Try.func16, Try.ntmps16
      go_wp2
      go_ret
      exact ⟨rfl, HB.drop.drop, QB⟩
  · have hT : sameM ⟨f1, t1, b1⟩ ⟨f2, t2, b2⟩ = false := decide_eq_false (fun h => h1 h.1)
    rw [hT]
    have hb1 : (f1 == f2) = false := by simpa using h1
    clear hT
    go_enter Try.func16, Try.ntmps16
    go_wp2
    go_ret
    exact ⟨rfl, HB.drop.drop, QB⟩

set_option maxRecDepth 100000 in
set_option maxHeartbeats 4000000 in
theorem xNew (n : Nat) (hn : n ≤ 1000) (w : World) {F : List Hp} (H : Holds w F) :
    Calls Try.prog 10 #[.int .i64 (n : Int)] w fun e w' => ∃ q, e = .returned (.pointer (some ⟨q, 0, none⟩)) ∧ Holds w' (xnetH q (List.replicate n 0) [] :: F) ∧ Calm w w' := by
  have km := print_make (P := Try.prog) 22 3 .i64 8 Try.underlying22 info_int (by omega) n (by omega)
  have hmade := made_nums .i64 n
  have H3 : ∀ (X : List Int), X.length = n → Holds ((w.alloc (.cells (nums .i64 X).toArray 3)).alloc (.cells #[.slice (some ⟨w.heap.size, 0, none⟩) n n, .slice none 0 0] 45)) (xnetH (w.heap.size + 1) X [] :: F) := by
    intro X hX
    subst hX
    have H2 := ((H.lit .i64 3 X (by omega)).nilRow msgK 32).box 45 #[.slice (some ⟨w.heap.size, 0, none⟩) X.length X.length, .slice none 0 0]
    rw [World.size_alloc] at H2
    exact (H2.f3.f2).xnShut
  have H4 := H3 (List.replicate n 0) (List.length_replicate ..)
  have Q2 := ((Calm.refl w).alloc (.cells (nums .i64 (List.replicate n 0)).toArray 3)).alloc (.cells #[.slice (some ⟨w.heap.size, 0, none⟩) n n, .slice none 0 0] 45)
  clear H3
  go_enter Try.func10, Try.ntmps10
  go_wp2
  go_ret
  exact ⟨_, rfl, H4, Q2⟩
end Go.Proofs.Ythoajajgbafngaa
