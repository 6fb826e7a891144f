/- The contract of the reference's Ops: a row of calls on a network. -/
import Derived.Test.YthoajajgbafngaaNetOps
import Derived.Outline
import Derived.Deep.CutBlock
import Derived.Deep.DeepCutAuto
namespace Go.Proofs.Ythoajajgbafngaa
set_option linter.unusedVariables false
set_option linter.unusedSimpArgs false
open Go.RowKit Go.Shelf Go.Proofs.YthoajajgbafngaaW.PrintWords Go.Proofs.YthoajajgbafngaaW.PrintLast Go.Proofs.YthoajajgbafngaaW.PrintMore

theorem Holds.mem {w : World} {A : Hp} {l : List Hp} (h : Holds w l) (hA : A ∈ l) : ∃ l', Holds w (A :: l') := by
  obtain ⟨s, t, rfl⟩ := List.append_of_mem hA
  exact ⟨s ++ t, h.perm List.perm_middle⟩

/-- A call on a network: its cells, and what they lead to. -/
structure OpN where
  kind : Int
  i : Int
  m : MsgC
  gA : Option Addr
  gc : Nat
  g : List Int
def OpN.cells (o : OpN) : List Value := [.int .i64 o.kind, .int .i64 o.i, .int .i64 o.m.frm, .int .i64 o.m.to_, .slice o.m.A o.m.b.length o.m.c, .slice o.gA o.g.length o.gc]
theorem OpN.one (o : OpN) : ∀ u ∈ o.cells, u.oneCell' = true := fun u hu => by
  simp only [OpN.cells, List.mem_cons, List.not_mem_nil, or_false] at hu
  rcases hu with rfl | rfl | rfl | rfl | rfl | rfl <;> rfl
abbrev opnK : Kd OpN := flatK 6 OpN.cells
theorem info_opn : (Try.prog.info? 34).map (fun i => (i.zero, i.size, i.bytes)) = some (some (.agg #[.int .i64 0, .int .i64 0, .int .i64 0, .int .i64 0, .slice none 0 0, .slice none 0 0]), 6, 80) := by kernel_rfl
structure OpNOk (o : OpN) : Prop where
  b2 : o.m.b.length ≤ 10
  g30 : o.g.length ≤ 30
  gc : o.g.length ≤ o.gc
def opH (o : OpN) : Hp := sepL [viewH .u8 o.m.A o.m.b, viewH .i64 o.gA o.g]
def opsH (ops : List OpN) : Hp := sepL (ops.map opH)
theorem Rd.opB {ops : List OpN} {o : OpN} (h : o ∈ ops) (F : List Hp) : Rd (Kd.int .u8) (opsH ops :: F) o.m.A o.m.b.length o.m.b := fun w hw => by
  obtain ⟨l', h1⟩ := (Holds.parts hw).mem (A := opH o) (List.mem_append_left _ (List.mem_map_of_mem h))
  exact (Holds.parts h1).viewC
theorem Rd.opG {ops : List OpN} {o : OpN} (h : o ∈ ops) (F : List Hp) : Rd (Kd.int .i64) (opsH ops :: F) o.gA o.g.length o.g := fun w hw => by
  obtain ⟨l', h1⟩ := (Holds.parts hw).mem (A := opH o) (List.mem_append_left _ (List.mem_map_of_mem h))
  exact (Holds.drop (Holds.parts h1)).viewC
theorem Holds.opsNil {w : World} {F : List Hp} (h : Holds w F) : Holds w (opsH [] :: F) := Holds.group (l := []) h
theorem Holds.opsSnoc {w : World} {F : List Hp} {ops : List OpN} {o : OpN} (h : Holds w (opH o :: opsH ops :: F)) : Holds w (opsH (ops ++ [o]) :: F) := by
  have h1 : Holds w ((ops.map opH) ++ (opH o :: F)) := (Holds.parts (h.f2))
  refine Holds.group ?_
  rw [List.map_append, List.append_assoc]
  exact h1
theorem Holds.viewNil {w : World} {F : List Hp} (h : Holds w F) (k : IntKind) : Holds w (viewH k none [] :: F) := h.emp.imp (fun _ _ _ => ⟨Kd.C_nil _ _, fun _ h => by cases h⟩)

/-- A call without bytes and without groups. -/
theorem genShut {w : World} {F : List Hp} {ob : Nat} {k i f t : Int} (h : Holds w (blkH ob 34 #[.int .i64 k, .int .i64 i, .int .i64 f, .int .i64 t, .slice none 0 0, .slice none 0 0] :: F)) :
    Holds w (blkH ob 34 (OpN.cells ⟨k, i, ⟨f, t, none, 0, []⟩, none, 0, []⟩).toArray :: opH ⟨k, i, ⟨f, t, none, 0, []⟩, none, 0, []⟩ :: F) := by
  have h1 := (h.viewNil .i64).viewNil .u8
  exact (Holds.group (l := [viewH .u8 none [], viewH .i64 none []]) h1).f2
theorem genShut2 {w : World} {F : List Hp} {ob : Nat} {k i f t : Int} {bA gA : Option Addr} {bc gc : Nat} {b g : List Int} (h : Holds w (blkH ob 34 #[.int .i64 k, .int .i64 i, .int .i64 f, .int .i64 t, .slice bA b.length bc, .slice gA g.length gc] :: viewH .u8 bA b :: viewH .i64 gA g :: F)) :
    Holds w (blkH ob 34 (OpN.cells ⟨k, i, ⟨f, t, bA, bc, b⟩, gA, gc, g⟩).toArray :: opH ⟨k, i, ⟨f, t, bA, bc, b⟩, gA, gc, g⟩ :: F) :=
  (Holds.group (l := [viewH .u8 bA b, viewH .i64 gA g]) h.b3).f2
/-- The generator's variable behind the switch. -/
def GenAt (w w' : World) (ob : Nat) (F : List Hp) : Prop := ∃ o : OpN, OpNOk o ∧ Holds w' (blkH ob 34 o.cells.toArray :: opH o :: F) ∧ Calm w w'

set_option maxRecDepth 100000 in
set_option maxHeartbeats 8000000 in
theorem Ops_calls (a : Option Addr) (cap : Nat) (l : List Int) (nodes : Nat) (hn1 : 1 ≤ nodes) (hn6 : nodes ≤ 6) (hl64 : ∀ x ∈ l, (Lit.int .i64 x).wf = true) (hl : l.length * 8 ≤ 140737488351232) (w : World) {F : List Hp} (H : Holds w F) (hR : Rd (Kd.int .i64) F a l.length l) :
    Calls Try.prog 11 #[.slice a l.length cap, .int .i64 (nodes : Int)] w fun e w' => ∃ A c ops, e = .returned (.slice A ops.length c) ∧ ops.length ≤ 20 ∧ (∀ o ∈ ops, OpNOk o) ∧ Holds w' (rowH opnK 34 (.slice A ops.length c) ops :: opsH ops :: F) ∧ ops.length ≤ c ∧ Calm w w' := by
  have HR := Lib.hid hR
  have HL := Lib.hid hl64
  clear hR hl64
  go_enter Try.func11, Try.ntmps11
  go_wp2
  go_loopw [5, 6] (fun o iv wr => ∃ (i : Nat) (ops : List OpN) (A : Option Addr) (c : Nat), i ≤ 20 ∧ iv = .int .i64 (i : Int) ∧ o = .slice A ops.length c ∧ ops.length ≤ i ∧ Hid (∀ o ∈ ops, OpNOk o) ∧ Holds wr (rowH opnK 34 (.slice A ops.length c) ops :: opsH ops :: F) ∧ Calm w wr) (fun _ iv _ => 20 - (intOf iv).toNat)
  case atStart => exact ⟨0, [], none, 0, by omega, rfl, rfl, by simp, fun o ho => by simp at ho, (H.opsNil).nilRow opnK 34, Calm.refl _⟩
  case round =>
    obtain ⟨i, ops, A, c, hi, rfl, rfl, hol, hops, H1, Q1⟩ := hrel
    by_cases hgo : i < l.length ∧ i < 20
    · obtain ⟨hil, hi12⟩ := hgo
      have him : (i : Int) < (l.length : Int) := by omega
      have hi10 : (i : Int) < 20 := by omega
      have hat := fun W (K : Holds W F) => at_nat (HR.out W K) hil
      obtain ⟨x, hx⟩ : ∃ x : Int, Hid (l[i]?.getD 0 = x) := ⟨_, Lib.hid rfl⟩
      have hxw : (Lit.int .i64 x).wf = true := by
        rw [← hx.out, List.getElem?_eq_getElem hil]
        exact HL.out _ (List.getElem_mem hil)
      rw [hx.out] at hat
      obtain ⟨ad, had, hcell⟩ := hat wr H1.drop.drop
      subst had
      obtain ⟨N, hN, hNl⟩ := around_name (x.tdiv 8) 1048576 (by omega)
      obtain ⟨t, ht, ht8⟩ := around_name x 8 (by omega)
      have hr := wf_range hxw
      obtain ⟨hr0, hr1⟩ := hr
      have hA1 := fun W => Around_at (x.tdiv 8) 1048576 N hN (by simp only [Lit.wf, IntKind.min, IntKind.max, IntKind.bits, IntKind.signed]; simp; have h1 : (x.tdiv 8).natAbs = x.natAbs / (8 : Int).natAbs := Int.natAbs_tdiv x 8; have h2 : x.natAbs / (8 : Int).natAbs ≤ x.natAbs / 1 := Nat.div_le_div_left (by decide) (by decide); have h3 : (8 : Int).natAbs = 8 := rfl; rw [h3] at h1 h2; omega) (by omega) (by omega) W
      have hA2 := fun W => Around_at x 8 t ht hxw (by omega) (by omega) W
      clear hN ht hxw
      go_wp2_with fail
      refine (hA1 wr).mono ?_
      rintro e _ ⟨rfl, rfl⟩
      have HB := H1.box 34 #[.int .i64 0, .int .i64 ((N : Int) % 5), .int .i64 0, .int .i64 0, .slice none 0 0, .slice none 0 0]
      have QB := Q1.alloc (.cells #[.int .i64 0, .int .i64 ((N : Int) % 5), .int .i64 0, .int .i64 0, .slice none 0 0, .slice none 0 0] 34)
      obtain ⟨ad', had', hcell2⟩ := hat _ HB.drop.drop.drop
      cases had'
      go_wp2_with fail
      refine (hA2 _).mono ?_
      rintro e _ ⟨rfl, rfl⟩
      generalize wr.heap.size = ob at *
      generalize wr.alloc (.cells #[.int .i64 0, .int .i64 ((N : Int) % 5), .int .i64 0, .int .i64 0, .slice none 0 0, .slice none 0 0] 34) = W at *
      have e0 := HB.c 0 (.int .i64 0) rfl
      have e2 := HB.c 2 (.int .i64 0) rfl
      have e3 := HB.c 3 (.int .i64 0) rfl
      have e4 := HB.c 4 (.slice none 0 0) rfl
      have e5 := HB.c 5 (.slice none 0 0) rfl
      have f0 := HB.frozen 0
      have lb := HB.lt
      clear hcell hcell2 hA1 hA2 H1 Q1 hr0 hr1
      go_upto_block 2 with (fail)
      go_cut [8] (fun s w' => s = .pointer (some ⟨ob, 0, none⟩) ∧ GenAt w w' ob (rowH opnK 34 (.slice A ops.length c) ops :: opsH ops :: F))
      case first =>
        rcases (show t = 0 ∨ t = 1 ∨ t = 2 ∨ t = 3 ∨ t = 4 ∨ (5 ≤ t ∧ t < 8) by omega) with rfl | rfl | rfl | rfl | rfl | ⟨h5, h8⟩
        · have K := HB.set 0 (.int .i64 1)
          have HH : Holds (W.setCell ⟨ob, 0, none⟩ (.int .i64 1)) (blkH ob 34 (OpN.cells ⟨1, (N : Int) % 5, ⟨0, 0, none, 0, []⟩, none, 0, []⟩).toArray :: opH ⟨1, (N : Int) % 5, ⟨0, 0, none, 0, []⟩, none, 0, []⟩ :: rowH opnK 34 (.slice A ops.length c) ops :: opsH ops :: F) := genShut K
          go_wp2
          go_meet
          case rel => exact ⟨rfl, _, ⟨by simp, by simp, by simp⟩, HH, QB.setCell _ _⟩
        · have K := HB.set 0 (.int .i64 1)
          have HH : Holds (W.setCell ⟨ob, 0, none⟩ (.int .i64 1)) (blkH ob 34 (OpN.cells ⟨1, (N : Int) % 5, ⟨0, 0, none, 0, []⟩, none, 0, []⟩).toArray :: opH ⟨1, (N : Int) % 5, ⟨0, 0, none, 0, []⟩, none, 0, []⟩ :: rowH opnK 34 (.slice A ops.length c) ops :: opsH ops :: F) := genShut K
          go_wp2
          go_meet
          case rel => exact ⟨rfl, _, ⟨by simp, by simp, by simp⟩, HH, QB.setCell _ _⟩
        · have K := HB.set 0 (.int .i64 2)
          have HH : Holds (W.setCell ⟨ob, 0, none⟩ (.int .i64 2)) (blkH ob 34 (OpN.cells ⟨2, (N : Int) % 5, ⟨0, 0, none, 0, []⟩, none, 0, []⟩).toArray :: opH ⟨2, (N : Int) % 5, ⟨0, 0, none, 0, []⟩, none, 0, []⟩ :: rowH opnK 34 (.slice A ops.length c) ops :: opsH ops :: F) := genShut K
          go_wp2
          go_meet
          case rel => exact ⟨rfl, _, ⟨by simp, by simp, by simp⟩, HH, QB.setCell _ _⟩
        · have K := HB.set 0 (.int .i64 3)
          have HH : Holds (W.setCell ⟨ob, 0, none⟩ (.int .i64 3)) (blkH ob 34 (OpN.cells ⟨3, (N : Int) % 5, ⟨0, 0, none, 0, []⟩, none, 0, []⟩).toArray :: opH ⟨3, (N : Int) % 5, ⟨0, 0, none, 0, []⟩, none, 0, []⟩ :: rowH opnK 34 (.slice A ops.length c) ops :: opsH ops :: F) := genShut K
          go_wp2
          go_meet
          case rel => exact ⟨rfl, _, ⟨by simp, by simp, by simp⟩, HH, QB.setCell _ _⟩
        · have K := HB.set 0 (.int .i64 4)
          have c5 := K.c 5 (.slice none 0 0) rfl
          have HL0 := (K.nilRow (Kd.int .i64) 3).f2
          obtain ⟨up, hup⟩ : ∃ up : Nat, Hid ((nodes : Int) + (N : Int) % 9 / 8 = (up : Int) ∧ up ≤ 7) := ⟨nodes + N % 9 / 8, by constructor <;> omega⟩
          have hup7 := hup.out.2
          rw [show ((4 : Nat) : Int) = 4 from rfl]
          go_wp2
          obtain ⟨wo, hwo⟩ : ∃ wo, wo = wr := ⟨_, rfl⟩
          go_loopw [9] (fun kv wr => ∃ (k : Nat) (g : List Int) (gA : Option Addr) (gc : Nat), k ≤ up ∧ kv = .int .i64 (k : Int) ∧ Hid (g.length = k) ∧ g.length ≤ gc ∧ Holds wr (blkH ob 34 #[.int .i64 4, .int .i64 ((N : Int) % 5), .int .i64 0, .int .i64 0, .slice none 0 0, .slice gA g.length gc] :: rowH (Kd.int .i64) 3 (.slice gA g.length gc) g :: rowH opnK 34 (.slice A ops.length c) ops :: opsH ops :: F) ∧ Calm w wr) (fun kv _ => up - (intOf kv).toNat)
          case atStart => exact ⟨0, [], none, 0, by omega, rfl, rfl, by simp, HL0, QB.setCell _ _⟩
          case round =>
            clear HL0 K c5 e0 e2 e3 e4 e5 f0 lb
            obtain ⟨k, g, gA, gc, hk, rfl, hgk, hgc, H1, Q1⟩ := hrel
            have c5 := H1.c 5 (.slice gA g.length gc) rfl
            have hN0 : (0 : Int) ≤ (N : Int) := by omega
            by_cases hlt : k < up
            · have hlti : (k : Int) < (nodes : Int) + (N : Int) % 9 / 8 := by have := hup.out.1; omega
              have hl1 : (g.length + 1) * 8 ≤ 140737488355328 := by have := hgk.out; omega
              go_wp2_with (at_builtin; go_must (refine H_append_int .i64 rfl (.tmp 80) (.tmp 87) 22 3 8 rfl Try.underlying22 info_int (by decide) (.slice gA g.length gc) g _ rfl rfl H1.f2 hl1 ?_; intro B2 A2 c2 w2 hB2 K2 k2 Q2; have d5 := K2.f2.c 5 (.slice gA g.length gc) rfl; have g5 := K2.f2.frozen 5; have l5 := K2.f2.lt))
              have K3 := K2.f2.set 5 (.slice A2 B2.length c2)
              go_roundw
              case rel => exact ⟨k + 1, B2, A2, c2, by omega, by go_num, by show _ = _; rw [hB2.out]; simp [hgk.out], k2, K3, (Q1.trans Q2).setCell _ _⟩
              case measure => simp [intOf]; omega
            · have hlti : ¬ (k : Int) < (nodes : Int) + (N : Int) % 9 / 8 := by have := hup.out.1; omega
              have HH := genShut2 (bA := none) (bc := 0) (b := []) (((H1.f2.view).viewNil .u8).f3)
              go_wp2
              go_meet
              case rel => exact ⟨rfl, _, ⟨by simp, by show g.length ≤ 30; have := hgk.out; omega, hgc⟩, HH, Q1⟩
        · have t0 : ((t : Int) == 0) = false := by simp; omega
          have t1 : ((t : Int) == 1) = false := by simp; omega
          have t2 : ((t : Int) == 2) = false := by simp; omega
          have t3 : ((t : Int) == 3) = false := by simp; omega
          have t4 : ((t : Int) == 4) = false := by simp; omega
          have f2 := HB.frozen 2
          have f3 := HB.frozen 3
          have f4 := HB.frozen 4
          have hnd : (1 : Int) ≤ (nodes : Int) := by omega
          have hndn : ¬ (nodes : Int) = 0 := by omega
          have hndb : ((nodes : Int) == 0) = false := by simpa using hndn
          go_wp2_with fail
          go_cut [8] (fun s w' => s = .pointer (some ⟨ob, 0, none⟩) ∧ ∃ (f t : Int) (bA : Option Addr) (bc : Nat) (b : List Int), b.length ≤ 10 ∧ Holds w' (blkH ob 34 #[.int .i64 0, .int .i64 ((N : Int) % 5), .int .i64 f, .int .i64 t, .slice bA b.length bc, .slice none 0 0] :: viewH .u8 bA b :: rowH opnK 34 (.slice A ops.length c) ops :: opsH ops :: F) ∧ Calm w w')
          case first =>
            have KK := ((((HB.set 2 (.int .i64 ((N : Int) % (nodes : Int)))).set 3 (.int .i64 ((N : Int) / 16 % (nodes : Int)))).set 4 (.slice (some ⟨W.heap.size, 0, none⟩) 2 2)).lit .u8 5 [(i : Int), (N : Int) % 256] (by simp)).drew
            have QK := ((((QB.setCell ⟨ob, 2, none⟩ (.int .i64 ((N : Int) % (nodes : Int)))).setCell ⟨ob, 3, none⟩ (.int .i64 ((N : Int) / 16 % (nodes : Int)))).setCell ⟨ob, 4, none⟩ (.slice (some ⟨W.heap.size, 0, none⟩) 2 2)).alloc (.cells (nums .u8 [(i : Int), (N : Int) % 256]).toArray 5)).drew
            simp only [World.size_setCell] at KK
            go_region
            all_goals
              go_wp2_with fail
              go_meet
              case rel => exact ⟨rfl, (N : Int) % (nodes : Int), (N : Int) / 16 % (nodes : Int), some ⟨W.heap.size, 0, none⟩, 2, [(i : Int), (N : Int) % 256], by simp, KK.view.f2, QK⟩
          case rest =>
            clear e0 e2 e3 e4 e5 f0 f2 f3 f4 lb HB QB
            obtain ⟨rfl, f, tt, bA, bc, b, hb10, H1, Q1⟩ := hcut
            have d3 := H1.c 3 (.int .i64 tt) rfl
            have f3 := H1.frozen 3
            have l3 := H1.lt
            have hN0 : (0 : Int) ≤ (N : Int) := by omega
            by_cases h11 : N % 11 = 0
            · have h11b : ((N : Int) % 11 == 0) = true := by simp; omega
              have K := H1.set 3 (.int .i64 ((N : Int) / 11 % 20 - 2))
              have HH := genShut2 (gA := none) (gc := 0) (g := []) (K.viewNil .i64).b3
              go_wp2
              go_meet
              case rel => exact ⟨rfl, _, ⟨hb10, by simp, by simp⟩, HH, Q1.setCell _ _⟩
            · have h11b : ((N : Int) % 11 == 0) = false := by simp; omega
              have HH := genShut2 (gA := none) (gc := 0) (g := []) (H1.viewNil .i64).b3
              go_wp2
              go_meet
              case rel => exact ⟨rfl, _, ⟨hb10, by simp, by simp⟩, HH, Q1⟩
      case rest =>
        clear e0 e2 e3 e4 e5 f0 lb HB QB
        obtain ⟨rfl, o, hok, H1, Q1⟩ := hcut
        obtain ⟨kind, i0, ⟨f, tt, bA, bc, b⟩, gA, gc, g⟩ := o
        simp only [OpN.cells] at H1
        have hl1 : (ops.length + 1) * 80 ≤ 140737488355328 := by omega
        have hN0 : (0 : Int) ≤ (N : Int) := by omega
        by_cases h13 : N % 13 = 0
        · have h13b : ((N : Int) % 13 == 0) = true := by simp; omega
          have x1 := H1.c 1 (.int .i64 i0) rfl
          have x2 := H1.frozen 1
          have x3 := H1.lt
          have KX := H1.set 1 (.int .i64 ((N : Int) / 13 % 30 - 4))
          simp only [List.setIfInBounds_toArray, List.set_cons_succ, List.set_cons_zero] at KX
          have e0 := KX.c 0 (.int .i64 kind) rfl
          have e1 := KX.c 1 (.int .i64 ((N : Int) / 13 % 30 - 4)) rfl
          have e2 := KX.c 2 (.int .i64 f) rfl
          have e3 := KX.c 3 (.int .i64 tt) rfl
          have e4 := KX.c 4 (.slice bA b.length bc) rfl
          have e5 := KX.c 5 (.slice gA g.length gc) rfl
          have HE := KX.f3.eltFlat (sz := 6) (f := OpN.cells) ⟨kind, ((N : Int) / 13 % 30 - 4), ⟨f, tt, bA, bc, b⟩, gA, gc, g⟩ rfl (OpN.one _)
          go_wp2_with (at_builtin; go_must (refine H_append_b opnK rfl (.tmp 98) (.tmp 100) 28 34 _ 80 rfl Try.underlying28 info_opn rfl (by decide) (by decide) (.slice A ops.length c) ops ⟨kind, ((N : Int) / 13 % 30 - 4), ⟨f, tt, bA, bc, b⟩, gA, gc, g⟩ (OpN.cells ⟨kind, ((N : Int) / 13 % 30 - 4), ⟨f, tt, bA, bc, b⟩, gA, gc, g⟩) _ rfl rfl (by simp) HE hl1 ?_; intro B1 A1 c1 w1 hB1 K1 k1 Q2))
          have K2 := (Holds.opsSnoc (o := ⟨kind, ((N : Int) / 13 % 30 - 4), ⟨f, tt, bA, bc, b⟩, gA, gc, g⟩) ((K1.f2.drop).f2.f3.f2)).f2
          have hokB : Hid (∀ o ∈ B1, OpNOk o) := fun o ho => by
            rw [hB1.out] at ho
            rcases List.mem_append.1 ho with h | h
            · exact hops.out o h
            · obtain rfl := List.mem_singleton.1 h
              exact ⟨hok.b2, hok.g30, hok.gc⟩
          have hB1l : B1.length ≤ i + 1 := by rw [hB1.out]; simp; omega
          have K3 : Holds w1 (rowH opnK 34 (.slice A1 B1.length c1) B1 :: opsH B1 :: F) := by
            have hh := K2
            rw [← hB1.out] at hh
            exact hh
          go_roundw
          case rel => exact ⟨i + 1, B1, A1, c1, by omega, by go_num, rfl, hB1l, hokB, K3, (Q1.setCell _ _).trans Q2⟩
          case measure => simp [intOf]; omega
        · have h13b : ((N : Int) % 13 == 0) = false := by simp; omega
          have e0 := H1.c 0 (.int .i64 kind) rfl
          have e1 := H1.c 1 (.int .i64 i0) rfl
          have e2 := H1.c 2 (.int .i64 f) rfl
          have e3 := H1.c 3 (.int .i64 tt) rfl
          have e4 := H1.c 4 (.slice bA b.length bc) rfl
          have e5 := H1.c 5 (.slice gA g.length gc) rfl
          have HE := H1.f3.eltFlat (sz := 6) (f := OpN.cells) ⟨kind, i0, ⟨f, tt, bA, bc, b⟩, gA, gc, g⟩ rfl (OpN.one _)
          go_wp2_with (at_builtin; go_must (refine H_append_b opnK rfl (.tmp 98) (.tmp 100) 28 34 _ 80 rfl Try.underlying28 info_opn rfl (by decide) (by decide) (.slice A ops.length c) ops ⟨kind, i0, ⟨f, tt, bA, bc, b⟩, gA, gc, g⟩ (OpN.cells ⟨kind, i0, ⟨f, tt, bA, bc, b⟩, gA, gc, g⟩) _ rfl rfl (by simp) HE hl1 ?_; intro B1 A1 c1 w1 hB1 K1 k1 Q2))
          have K2 := ((K1.f2.drop).f2.f3.f2).opsSnoc.f2
          have hokB : Hid (∀ o ∈ B1, OpNOk o) := fun o ho => by
            rw [hB1.out] at ho
            rcases List.mem_append.1 ho with h | h
            · exact hops.out o h
            · obtain rfl := List.mem_singleton.1 h
              exact ⟨hok.b2, hok.g30, hok.gc⟩
          have hB1l : B1.length ≤ i + 1 := by rw [hB1.out]; simp; omega
          have K3 : Holds w1 (rowH opnK 34 (.slice A1 B1.length c1) B1 :: opsH B1 :: F) := by
            have hh := K2
            rw [← hB1.out] at hh
            exact hh
          go_roundw
          case rel => exact ⟨i + 1, B1, A1, c1, by omega, by go_num, rfl, hB1l, hokB, K3, Q1.trans Q2⟩
          case measure => simp [intOf]; omega
    · by_cases hlt : i < l.length
      · have him : (i : Int) < (l.length : Int) := by omega
        have hi12 : ¬ (i : Int) < 20 := by omega
        go_wp2
        go_ret
        exact ⟨A, c, ops, rfl, by omega, hops.out, H1, H1.row'.2.1, Q1⟩
      · have him : ¬ (i : Int) < (l.length : Int) := by omega
        go_wp2
        go_ret
        exact ⟨A, c, ops, rfl, by omega, hops.out, H1, H1.row'.2.1, Q1⟩
end Go.Proofs.Ythoajajgbafngaa
