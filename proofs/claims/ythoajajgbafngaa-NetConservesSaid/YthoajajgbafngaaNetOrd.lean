/- The law NetOrder: messages are taken in the order in which they were sent. -/
import Derived.Test.YthoajajgbafngaaNetS
import Derived.Test.YthoajajgbafngaaONetLives
import Derived.Deep.DeepCutAuto
namespace Go.Proofs.Ythoajajgbafngaa
set_option linter.unusedVariables false
set_option linter.unusedSimpArgs false
open Go.RowKit Go.Shelf Go.Proofs.YthoajajgbafngaaW.PrintWords Go.Proofs.YthoajajgbafngaaW.PrintLast Go.Proofs.YthoajajgbafngaaW.PrintMore
attribute [local go_sem] max2_int min2_int max_two min_two

theorem nlives (w : World) {F : List Hp} (H : Holds w F) : Calls Try.prog 24 #[] w fun e w' => e = .returned (.bool true) ∧ Holds w' F ∧ Calm w w' :=
  (Old.lives_calls w).mono fun e w' ⟨he, hb⟩ => ⟨he, H.below hb, Calm.of_below hb⟩
set_option maxRecDepth 100000 in
set_option maxHeartbeats 1000000 in
theorem nmade (n : Int) (hn : (Lit.int .i64 n).wf = true) (w : World) {F : List Hp} (H : Holds w F) :
    Calls Try.prog 9 #[.int .i64 n] w fun e w' => ∃ p k : Nat, e = .returned (.tuple #[.pointer (some ⟨p, 0, none⟩), .int .i64 (k : Int)]) ∧ 1 ≤ k ∧ k ≤ 6 ∧ Holds w' (netH p (List.replicate k 0) [] :: F) ∧ Calm w w' := by
  obtain ⟨ka, hka, hka6⟩ := around_name n 6 (by omega)
  go_enter Try.func9, Try.ntmps9
  go_wp2_with fail
  refine (Around_at n 6 ka hka hn (by omega) (by omega) w).mono ?_
  rintro e _ ⟨rfl, rfl⟩
  clear hka
  go_wp2_with fail
  refine (nNew (1 + ka) w (by omega) (by omega) H).mono ?_
  rintro e w1 ⟨p, rfl, H1, Q1⟩
  have HH := Lib.hid H1
  clear H1
  go_wp2
  go_ret2
  exact ⟨p, 1 + ka, rfl, by omega, by omega, HH.out, Q1⟩

theorem made_nums (k : IntKind) (n : Nat) : madeCells #[Value.int k 0] n = (nums k (List.replicate n 0)).toArray := by
  apply Array.toList_inj.1
  rw [toList_madeCells_one]
  simp [nums]
/-- A slice of truth values that came in. -/
def IsBools (w : World) (a : Option Addr) (len cap : Nat) (B : Nat → Bool) : Prop :=
  (a = none ∧ len = 0 ∧ cap = 0) ∨ ∃ x, a = some x ∧ len ≤ cap ∧ cap ≤ maxLen ∧ ∀ i, i < cap → w.cell? (x.add i) = some (.bool (B i))
theorem bools_in {w : World} {a : Option Addr} {len cap : Nat} {B : Nat → Bool} (h : IsBools w a len cap B) : ∃ l : List Bool, len = l.length ∧ l.length ≤ maxLen ∧ ∀ F, Rd Kd.bool (oldH w :: F) a l.length l := by
  rcases h with ⟨rfl, rfl, rfl⟩ | ⟨x, rfl, h1, h2, h3⟩
  · exact ⟨[], rfl, by simp, fun F w' _ => Kd.C_nil _ _⟩
  · refine ⟨(List.range len).map B, by simp, by simp; omega, fun F w' hw => ?_⟩
    refine Kd.C_of_reads (d := false) (h1 := fun _ => rfl) ⟨rfl, by simp; unfold maxLen at h2; omega, fun _ => ⟨x, rfl, fun j hj => ?_⟩⟩
    have hj' : j < len := by simpa using hj
    have hcj := h3 j (by omega)
    rw [(World.cell?_of_block (w := w) (hw.oldCells _ (World.block_lt_of_cell? w _ hcj))).trans hcj]
    simp [List.getD_eq_getElem?_getD, hj']
/-- One element of a row of truth values that F alone lets read. -/
theorem Rd.boolAt {F : List Hp} {A : Option Addr} {L : List Bool} (h : Rd Kd.bool F A L.length L) {i : Nat} (hi : i < L.length) {w : World} (hw : Holds w F) : ∃ ad, A = some ad ∧ w.cell? (ad.add i) = some (.bool (L[i]?.getD false)) := by
  obtain ⟨ad, e, hc⟩ := Kd.at_bool (h w hw) (i : Int) (by omega) (by omega)
  refine ⟨ad, e, ?_⟩
  rw [Int.toNat_natCast] at hc
  rw [hc]
  simp [rdOf, List.getD_eq_getElem?_getD]

/-- The message number j. -/
def ordM (l : List Int) (k : Nat) (j : Nat) : Msg := ⟨aroundI (l[j]?.getD 0) 36 % k, aroundI (l[j]?.getD 0) 36 / 6 % k, [(j : Int)]⟩
/-- The messages next .. next + n - 1. -/
def ordL (l : List Int) (k next n : Nat) : List Msg := (List.range' next n).map (ordM l k)
theorem ordL_push (l : List Int) (k next n : Nat) : ordL l k next n ++ [ordM l k (next + n)] = ordL l k next (n + 1) := by
  simp [ordL, List.range'_concat]
theorem ordL_length (l : List Int) (k next n : Nat) : (ordL l k next n).length = n := by simp [ordL]
theorem ordL_zero (l : List Int) (k next n : Nat) : (ordL l k next (n + 1))[0]? = some (ordM l k next) := by simp [ordL, List.range'_succ]
theorem ordL_tail (l : List Int) (k next n : Nat) : (ordL l k next (n + 1)).eraseIdx 0 = ordL l k (next + 1) n := by simp [ordL, List.range'_succ]
theorem ordL_at (l : List Int) (k next n : Nat) : atM (ordL l k next (n + 1)) 0 = ordM l k next := by
  unfold atM
  rw [show (0 : Int).toNat = 0 from rfl, ordL_zero]
  rfl
theorem inR_zero (l : List Int) (k next n : Nat) : inR (ordL l k next (n + 1)) 0 = true := by rw [inR_iff, ordL_length]; omega
theorem inR_nil (l : List Int) (k next : Nat) : ¬ inR (ordL l k next 0) 0 = true := by rw [inR_iff, ordL_length]; omega
theorem ord_ends (l : List Int) {k : Nat} (hk : 1 ≤ k) (j : Nat) : 0 ≤ (ordM l k j).frm ∧ (ordM l k j).frm < (k : Int) ∧ 0 ≤ (ordM l k j).to_ ∧ (ordM l k j).to_ < (k : Int) :=
  ⟨Int.emod_nonneg _ (by omega), Int.emod_lt_of_pos _ (by omega), Int.emod_nonneg _ (by omega), Int.emod_lt_of_pos _ (by omega)⟩
/-- Each node a group of its own. -/
def idG (k : Nat) : List Int := (List.range k).map (fun (t : Nat) => (t : Int))
theorem idG_get {k : Nat} {a : Int} (h0 : 0 ≤ a) (h1 : a < (k : Int)) : (idG k)[a.toNat]?.getD 0 = a := by
  unfold idG
  rw [List.getElem?_map, List.getElem?_range (by omega)]
  show ((a.toNat : Nat) : Int) = a
  omega
theorem oneG_id (l : List Int) {k : Nat} (hk : 1 ≤ k) (j : Nat) : oneG (idG k) (ordM l k j) = decide ((ordM l k j).frm = (ordM l k j).to_) := by
  obtain ⟨h1, h2, h3, h4⟩ := ord_ends l hk j
  unfold oneG
  rw [idG_get h1 h2, idG_get h3 h4]
theorem oneG_zero (k : Nat) (m : Msg) : oneG (List.replicate k 0) m = true := by
  have hz : ∀ n : Nat, (List.replicate k (0 : Int))[n]?.getD 0 = 0 := fun n => by
    rw [List.getElem?_replicate]
    split <;> rfl
  unfold oneG
  rw [hz, hz]
  rfl
/-- The row of the groups while it is filled. -/
def idX (k j : Nat) : List Int := idG j ++ List.replicate (k - j) 0
theorem idX_length {k j : Nat} (h : j ≤ k) : (idX k j).length = k := by simp [idX, idG]; omega
theorem idX_set {k j : Nat} (h : j < k) : (idX k j).set j (j : Int) = idX k (j + 1) := by
  unfold idX
  rw [List.set_append_right _ _ (by simp [idG])]
  have e : (idG j).length = j := by simp [idG]
  rw [e, Nat.sub_self, show k - j = (k - (j + 1)) + 1 by omega, List.replicate_succ, List.set_cons_zero]
  simp [idG, List.range_succ]
theorem idX_full (k : Nat) : idX k k = idG k := by simp [idX]
theorem idX_zero (k : Nat) : idX k 0 = List.replicate k 0 := by simp [idX, idG]
theorem ordOk (l : List Int) {k : Nat} (hk : 1 ≤ k) (hk6 : k ≤ 6) (gs : List Int) (hg : gs.length = k) (next n : Nat) (hn : n ≤ 1000) : NetOk gs (ordL l k next n) := by
  refine ⟨by omega, by rw [ordL_length]; exact hn, fun m hm => ?_⟩
  simp only [ordL, List.mem_map] at hm
  obtain ⟨j, _, rfl⟩ := hm
  obtain ⟨h1, h2, h3, h4⟩ := ord_ends l hk j
  rw [hg]
  exact ⟨h1, h2, h3, h4, by simp [ordM]⟩
theorem ord_send (l : List Int) {k : Nat} (hk : 1 ≤ k) (gs : List Int) (hg : gs.length = k) (j : Nat) : Old.sendOk gs (ordM l k j) = true := by
  obtain ⟨h1, h2, h3, h4⟩ := ord_ends l hk j
  rw [sendOk_iff, hg]
  exact ⟨h1, h2, h3, h4, by simp [ordM]⟩

set_option maxRecDepth 100000 in
set_option maxHeartbeats 16000000 in
theorem NetOrder_walk (a0 : Int) (a1 : Option Addr) (len1 cap1 : Nat) (z1 : List Int) (a2 : Option Addr) (len2 cap2 : Nat) (z2 : Nat → Bool) (w : World) (wf0 : (Lit.int .i64 a0).wf = true) (w1 : IsRow .i64 w a1 len1 cap1 z1) (y1 : len1 * 8 ≤ 140737488351232) (w2 : IsBools w a2 len2 cap2 z2) :
    Calls Try.prog 6 #[.int .i64 a0, .slice a1 len1 cap1, .slice a2 len2 cap2] w fun e w' => e = .returned (.bool true) ∧ Below w.heap.size w w' := by
  obtain ⟨l, rfl, hlc, hC, hwf⟩ := row_in w1
  obtain ⟨ps, rfl, hpm, hB⟩ := bools_in w2
  unfold maxLen at hpm
  have Hwf := Lib.hid hwf
  have HB := Lib.hid hB
  clear w1 w2 hwf hB
  have km : ∀ (k : Nat), k ≤ 6 → ∀ W : World, (Instr.makeSlice 22 (.int .i64 (k : Int)) (.int .i64 (k : Int))).run Try.prog W = .ok (.slice (some ⟨W.heap.size, 0, none⟩) k k) (W.alloc (.cells (madeCells #[.int .i64 0] k) 3)) := fun k hk => print_make (P := Try.prog) 22 3 .i64 8 Try.underlying22 info_int (by omega) k (by omega)
  go_enter Try.func6, Try.ntmps6
  go_wp2_with fail
  refine (nmade a0 wf0 w (Holds.start w)).mono ?_
  rintro e v1 ⟨p, k, rfl, hk1, hk6, H1, Q1⟩
  have kmk := km k hk6
  have hmade := made_nums .i64 k
  clear km wf0
  go_wp2
  have H2 := H1.lit .i64 3 (List.replicate k 0) (by simp; omega)
  rw [List.length_replicate] at H2
  have Q2 := Q1.alloc (.cells (nums .i64 (List.replicate k 0)).toArray 3)
  clear H1 Q1
  generalize v1.heap.size = ap at *
  generalize v1.alloc (.cells (nums .i64 (List.replicate k 0)).toArray 3) = V at *
  go_loopw [10] (fun v wr => ∃ j : Nat, j ≤ k ∧ v = .int .i64 (j : Int) ∧ Holds wr [rowH (Kd.int .i64) 3 (.slice (some ⟨ap, 0, none⟩) k k) (idX k j), netH p (List.replicate k 0) [], oldH w] ∧ Calm w wr) (fun v _ => k - (intOf v).toNat)
  case atStart => exact ⟨0, by omega, rfl, by rw [idX_zero]; exact H2, Q2⟩
  case round =>
    clear H2 Q2
    obtain ⟨j, hjk, rfl, H1, Q1⟩ := hrel
    by_cases hlt : j < k
    · have hlti : (j : Int) < (k : Int) := by omega
      obtain ⟨d1, d2⟩ := H1.rowCell j (by rw [idX_length hjk]; exact hlt)
      obtain ⟨g', hg', hgl⟩ := H1.rowAddr (by rw [idX_length hjk]; omega)
      cases hg'
      have K := H1.rowPut j (j : Int)
      rw [idX_set hlt] at K
      go_wp2
      go_roundw
      case rel => exact ⟨j + 1, by omega, by go_num, K, Q1.setCell _ _⟩
      case measure => simp [intOf]; omega
    · obtain rfl : j = k := by omega
      rw [idX_full] at H1
      have H2 := H1.lit .i64 3 (List.replicate j 0) (by simp; omega)
      rw [List.length_replicate] at H2
      have Q2 := Q1.alloc (.cells (nums .i64 (List.replicate j 0)).toArray 3)
      clear H1 Q1
      obtain ⟨many, hmany⟩ : ∃ many : Nat, many = min l.length 30 := ⟨_, rfl⟩
      have hm30 : many ≤ 30 := by omega
      have hml : many ≤ l.length := by omega
      have Hm := Lib.hid hmany
      clear hmany
      go_upto_region 10 with (fail)
      go_cut [12] (fun s wx => s = .int .i64 (many : Int) ∧ wx = wr.alloc (.cells (nums .i64 (List.replicate j 0)).toArray 3))
      case first =>
        go_wp2
        all_goals
          go_meet
          case rel => exact ⟨int_eq (by have := Hm.out; omega), rfl⟩
      case rest =>
        obtain ⟨rfl, rfl⟩ := hcut
        go_wp2
        generalize wr.heap.size = tg at *
        generalize wr.alloc (.cells (nums .i64 (List.replicate j 0)).toArray 3) = V2 at *
        have hT : (List.replicate j (0 : Int)).length = j := List.length_replicate ..
        have hI : (idG j).length = j := by simp [idG]
        go_loopw [13, 14] (fun v13 v14 wr => ∃ (i next : Nat), next ≤ i ∧ i ≤ many ∧ v13 = .int .i64 (next : Int) ∧ v14 = .int .i64 (i : Int) ∧ Holds wr [netH p (List.replicate j 0) (ordL l j next (i - next)), rowH (Kd.int .i64) 3 (.slice (some ⟨tg, 0, none⟩) j j) (List.replicate j 0), rowH (Kd.int .i64) 3 (.slice (some ⟨ap, 0, none⟩) j j) (idG j), oldH w] ∧ Calm w wr) (fun _ v14 _ => many - (intOf v14).toNat)
        case atStart => exact ⟨0, 0, by omega, by omega, rfl, rfl, H2.f3, Q2⟩
        case round =>
          clear H2 Q2
          obtain ⟨i, next, hni, him, rfl, rfl, H1, Q1⟩ := hrel
          by_cases hlt : i < many
          · have hlti : (i : Int) < (many : Int) := by omega
            have hil : i < l.length := by omega
            obtain ⟨ad, e1, hcell⟩ := at_nat (Rd.old_int hC [] wr H1.drop.drop.drop) hil
            have hxw : (Lit.int .i64 (l[i]?.getD 0)).wf = true := Hwf.out _ (by rw [List.getElem?_eq_getElem hil]; exact List.getElem_mem hil)
            obtain ⟨x36, hx36, hx36l⟩ := around_name (l[i]?.getD 0) 36 (by omega)
            have hord : Hid (ordM l j i = ⟨(x36 : Int) % (j : Int), (x36 : Int) / 6 % (j : Int), [(i : Int)]⟩) := by show _ = _; unfold ordM; have := hx36.out; rw [show (36 : Int) = ((36 : Nat) : Int) from rfl, this]
            subst e1
            generalize l[i]?.getD 0 = X at *
            go_wp2_with fail
            refine (Around_at X 36 x36 hx36 hxw (by omega) (by omega) wr).mono ?_
            rintro e _ ⟨rfl, rfl⟩
            go_wp2_with fail
            have hx0 : (0 : Int) ≤ (x36 : Int) / 6 := by omega
            have hj1 : (1 : Int) ≤ (j : Int) := by omega
            have htm : Hid (((x36 : Int) / 6).tmod (j : Int) = (x36 : Int) / 6 % (j : Int)) := Int.tmod_eq_emod_of_nonneg hx0
            have htm1 : Hid ((x36 : Int).tmod (j : Int) = (x36 : Int) % (j : Int)) := Int.tmod_eq_emod_of_nonneg (by omega)
            have HS := ((H1.lit .u8 5 [(i : Int)] (by simp)).drew).f2
            have QS := (Q1.alloc (.cells (nums .u8 [(i : Int)]).toArray 5)).drew
            have hsend := nSend p (List.replicate j 0) (ordL l j next (i - next)) ⟨(x36 : Int) % (j : Int), (x36 : Int) / 6 % (j : Int), [(i : Int)]⟩ (some ⟨wr.heap.size, 0, none⟩) 1 (ordOk l hk1 hk6 _ hT next _ (by omega)) _ HS (Rd.row _)
            have hE0 : sendE (List.replicate j 0) (ordL l j next (i - next)) (ordM l j i) = 0 := by unfold sendE; rw [if_pos (ord_send l hk1 _ hT i), if_neg (by rw [ordL_length]; omega)]
            have hL0 : sendL (List.replicate j 0) (ordL l j next (i - next)) (ordM l j i) = ordL l j next ((i - next) + 1) := by
              unfold sendL
              rw [if_pos (ord_send l hk1 _ hT i), if_neg (by rw [ordL_length]; omega), ← ordL_push, show next + (i - next) = i by omega]
            rw [hord.out] at hE0 hL0
            rw [hE0, hL0] at hsend
            have Hsend := Lib.hid hsend
            clear hE0 hL0 hsend HS H1 hord hcell Q1
            have hjn : ¬ (j : Int) = 0 := by omega
            have hjb : ((j : Int) == 0) = false := by simpa using hjn
            go_cut [68] (fun s w' => s = .bool false ∧ Holds w' [netH p (List.replicate j 0) (ordL l j next (i - next + 1)), rowH (Kd.int .i64) 3 (.slice (some ⟨tg, 0, none⟩) j j) (List.replicate j 0), rowH (Kd.int .i64) 3 (.slice (some ⟨ap, 0, none⟩) j j) (idG j), oldH w] ∧ Calm w w')
            case first =>
              go_region_with (go_at_call 12; (try rw [htm.out]); (try rw [htm1.out]); refine Hsend.out.mono ?_; rintro e w2 ⟨rfl, H2, Q2⟩)
              all_goals
                go_wp2_with fail
                go_meet
                case rel => exact ⟨rfl, H2.f2.drop, QS.trans Q2⟩
            case rest =>
            obtain ⟨rfl, H3, Q3⟩ := hcut
            generalize wc = w2 at *
            clear QS Hsend htm htm1
            by_cases hp : i < ps.length ∧ ps[i]?.getD false = true
            · obtain ⟨hp1, hp2⟩ := hp
              obtain ⟨ad2, hA2, hc2⟩ := (HB.out []).boolAt hp1 H3.drop.drop.drop
              subst hA2
              rw [hp2] at hc2
              have hpi : (i : Int) < (ps.length : Int) := by omega
              have hpart := nPart p (List.replicate j 0) (idG j) (ordL l j next (i - next + 1)) (some ⟨ap, 0, none⟩) j w2 H3 ((show Rd (Kd.int .i64) (rowH (Kd.int .i64) 3 (.slice (some ⟨ap, 0, none⟩) j j) (idG j) :: [oldH w]) (some ⟨ap, 0, none⟩) (idG j).length (idG j) from Rd.row _).cons _)
              have e1 : partE (List.replicate j 0) (idG j) = 0 := by unfold partE; rw [if_pos (by rw [hI, hT])]
              have e2 : partG (List.replicate j 0) (idG j) = idG j := by unfold partG; rw [if_pos (by rw [hI, hT])]
              rw [e1, e2, hI] at hpart
              clear e1 e2
              go_wp2_with fail
              refine hpart.mono ?_
              rintro e w3 ⟨rfl, H4, Q4⟩
              have htake := nTake p (idG j) (ordL l j next (i - next + 1)) 0 (ordOk l hk1 hk6 _ hI next _ (by omega)) w3 H4
              have hin := inR_zero l j next (i - next)
              have hat := ordL_at l j next (i - next)
              have hone := oneG_id l hk1 next
              obtain ⟨hf0, hf1, ht0, ht1⟩ := ord_ends l hk1 next
              have Q5 := Q3.trans Q4
              clear hpart H3 Q3 Q4
              by_cases hft : (ordM l j next).frm = (ordM l j next).to_
              · have hone' : oneG (idG j) (ordM l j next) = true := by rw [hone]; exact decide_eq_true hft
                have e1 : takeE (idG j) (ordL l j next (i - next + 1)) 0 = 0 := by unfold takeE; rw [if_pos hin, hat, if_pos hone']
                have e2 : takeL (idG j) (ordL l j next (i - next + 1)) 0 = ordL l j (next + 1) (i - next) := by unfold takeL; rw [if_pos hin, hat, if_pos hone']; exact ordL_tail l j next (i - next)
                have e3 : takeM (idG j) (ordL l j next (i - next + 1)) 0 = ordM l j next := by unfold takeM; rw [if_pos hin, hat, if_pos hone']
                rw [e1, e2, e3, ← hft] at htake
                have hbl : (ordM l j next).b = [(next : Int)] := rfl
                rw [hbl] at htake
                clear e1 e2 e3 hone hone' hin hat hft hbl
                generalize (ordM l j next).frm = fr at *
                go_wp2_with fail
                refine htake.mono ?_
                rintro e w4 ⟨A4, c4, rfl, H5, Q6⟩
                dsimp only [List.length_singleton] at H5 ⊢
                obtain ⟨g4, rfl, hg4⟩ := H5.rowAddr (by simp)
                have H6 := H5.box 32 #[.int .i64 fr, .int .i64 fr, .slice (some ⟨g4, 0, none⟩) 1 c4]
                have Q7 := (Q5.trans Q6).alloc (.cells #[.int .i64 fr, .int .i64 fr, .slice (some ⟨g4, 0, none⟩) 1 c4] 32)
                have b0 := H6.c 0 (.int .i64 fr) rfl
                have b1 := H6.c 1 (.int .i64 fr) rfl
                have b2 := H6.c 2 (.slice (some ⟨g4, 0, none⟩) 1 c4) rfl
                have bx := (H6.f2.rowCell 0 (by simp)).1
                dsimp only [List.getElem_cons_zero] at bx
                have e4 : partE (idG j) (List.replicate j 0) = 0 := by unfold partE; rw [if_pos (by rw [hI, hT])]
                have e5 : partG (idG j) (List.replicate j 0) = List.replicate j 0 := by unfold partG; rw [if_pos (by rw [hI, hT])]
                have hpart2 := nPart p (idG j) (List.replicate j 0) (ordL l j (next + 1) (i - next)) (some ⟨tg, 0, none⟩) j _ H6.f3 ((((show Rd (Kd.int .i64) (rowH (Kd.int .i64) 3 (.slice (some ⟨tg, 0, none⟩) j j) (List.replicate j 0) :: [rowH (Kd.int .i64) 3 (.slice (some ⟨ap, 0, none⟩) j j) (idG j), oldH w]) (some ⟨tg, 0, none⟩) (List.replicate j (0 : Int)).length (List.replicate j 0) from Rd.row _).cons _).cons _))
                rw [e4, e5, hT] at hpart2
                clear e4 e5
                go_wp2_with fail
                refine hpart2.mono ?_
                rintro e w5 ⟨rfl, H7, Q8⟩
                go_wp2
                go_roundw
                case rel => exact ⟨i + 1, next + 1, by omega, by omega, by go_num, by go_num, by rw [show i + 1 - (next + 1) = i - next by omega]; exact (H7.f2.drop).f2.drop, Q7.trans Q8⟩
                case measure => simp [intOf]; omega
              · have hone' : ¬ oneG (idG j) (ordM l j next) = true := by rw [hone, decide_eq_true_iff]; exact hft
                have e1 : takeE (idG j) (ordL l j next (i - next + 1)) 0 = 20 := by unfold takeE; rw [if_pos hin, hat, if_neg hone']
                have e2 : takeL (idG j) (ordL l j next (i - next + 1)) 0 = ordL l j next (i - next + 1) := by unfold takeL; rw [if_pos hin, hat, if_neg hone']
                have e3 : takeM (idG j) (ordL l j next (i - next + 1)) 0 = zeroM := by unfold takeM; rw [if_pos hin, hat, if_neg hone']
                rw [e1, e2, e3] at htake
                clear e1 e2 e3 hone hone' hin hat hft
                go_wp2_with fail
                refine htake.mono ?_
                rintro e w4 ⟨A4, c4, rfl, H5, Q6⟩
                dsimp only [zeroM, List.length_nil] at H5 ⊢
                have H6 := H5.box 32 #[.int .i64 0, .int .i64 0, .slice A4 0 c4]
                have Q7 := (Q5.trans Q6).alloc (.cells #[.int .i64 0, .int .i64 0, .slice A4 0 c4] 32)
                have b0 := H6.c 0 (.int .i64 0) rfl
                have b1 := H6.c 1 (.int .i64 0) rfl
                have b2 := H6.c 2 (.slice A4 0 c4) rfl
                have e4 : partE (idG j) (List.replicate j 0) = 0 := by unfold partE; rw [if_pos (by rw [hI, hT])]
                have e5 : partG (idG j) (List.replicate j 0) = List.replicate j 0 := by unfold partG; rw [if_pos (by rw [hI, hT])]
                have hpart2 := nPart p (idG j) (List.replicate j 0) (ordL l j next (i - next + 1)) (some ⟨tg, 0, none⟩) j _ H6.f3 ((((show Rd (Kd.int .i64) (rowH (Kd.int .i64) 3 (.slice (some ⟨tg, 0, none⟩) j j) (List.replicate j 0) :: [rowH (Kd.int .i64) 3 (.slice (some ⟨ap, 0, none⟩) j j) (idG j), oldH w]) (some ⟨tg, 0, none⟩) (List.replicate j (0 : Int)).length (List.replicate j 0) from Rd.row _).cons _).cons _))
                rw [e4, e5, hT] at hpart2
                clear e4 e5
                go_wp2_with fail
                refine hpart2.mono ?_
                rintro e w5 ⟨rfl, H7, Q8⟩
                go_wp2
                go_roundw
                case rel => exact ⟨i + 1, next, by omega, by omega, by go_num, by go_num, by rw [show i + 1 - next = i - next + 1 by omega]; exact (H7.f2.drop).f2.drop, Q7.trans Q8⟩
                case measure => simp [intOf]; omega
            · have hb : ∀ (P : Prop), True := fun _ => trivial
              by_cases hp1 : i < ps.length
              focus
                obtain ⟨ad2, hA2, hc2⟩ := (HB.out []).boolAt hp1 H3.drop.drop.drop
                subst hA2
                have hp2 : ps[i]?.getD false = false := by
                  cases h : ps[i]?.getD false
                  · rfl
                  · exact absurd ⟨hp1, h⟩ hp
                rw [hp2] at hc2
                have hpi : (i : Int) < (ps.length : Int) := by omega
                clear hp hp2
                go_wp2_with fail
              rotate_left
              focus
                have hpi : ¬ (i : Int) < (ps.length : Int) := by omega
                clear hp
                go_wp2_with fail
              all_goals
                go_roundw
                case rel => exact ⟨i + 1, next, by omega, by omega, by go_num, by go_num, by rw [show i + 1 - next = i - next + 1 by omega]; exact H3, Q3⟩
                case measure => simp [intOf]; omega
          · obtain rfl : i = many := by omega
            have hi30 : i ≤ 30 := hm30
            go_wp2
            obtain ⟨wo, hwo⟩ : ∃ wo, wo = wr := ⟨_, rfl⟩
            go_loopw [13] (fun v13 wr => ∃ next : Nat, next ≤ i ∧ v13 = .int .i64 (next : Int) ∧ Holds wr [netH p (List.replicate j 0) (ordL l j next (i - next)), rowH (Kd.int .i64) 3 (.slice (some ⟨tg, 0, none⟩) j j) (List.replicate j 0), rowH (Kd.int .i64) 3 (.slice (some ⟨ap, 0, none⟩) j j) (idG j), oldH w] ∧ Calm w wr) (fun v13 _ => i - (intOf v13).toNat)
            case atStart => exact ⟨next, hni, rfl, H1, Q1⟩
            case round =>
              clear H1 Q1 hni hlt him
              obtain ⟨next, hni, rfl, H1, Q1⟩ := hrel
              by_cases hlt : next < i
              · have hlti : (next : Int) < (i : Int) := by omega
                have hil : next < l.length := by omega
                have htake := nTake p (List.replicate j 0) (ordL l j next (i - next)) 0 (ordOk l hk1 hk6 _ hT next _ (by omega)) wr H1
                rw [show i - next = (i - (next + 1)) + 1 by omega] at htake
                have hin := inR_zero l j next (i - (next + 1))
                have hat := ordL_at l j next (i - (next + 1))
                have hone := oneG_zero j (ordM l j next)
                have e1 : takeE (List.replicate j 0) (ordL l j next (i - (next + 1) + 1)) 0 = 0 := by unfold takeE; rw [if_pos hin, hat, if_pos hone]
                have e2 : takeL (List.replicate j 0) (ordL l j next (i - (next + 1) + 1)) 0 = ordL l j (next + 1) (i - (next + 1)) := by unfold takeL; rw [if_pos hin, hat, if_pos hone]; exact ordL_tail l j next _
                have e3 : takeM (List.replicate j 0) (ordL l j next (i - (next + 1) + 1)) 0 = ordM l j next := by unfold takeM; rw [if_pos hin, hat, if_pos hone]
                have hxw : (Lit.int .i64 (l[next]?.getD 0)).wf = true := Hwf.out _ (by rw [List.getElem?_eq_getElem hil]; exact List.getElem_mem hil)
                obtain ⟨x36, hx36, hx36l⟩ := around_name (l[next]?.getD 0) 36 (by omega)
                have hord : ordM l j next = ⟨(x36 : Int) % (j : Int), (ordM l j next).to_, [(next : Int)]⟩ := by
                  have := hx36.out
                  unfold ordM
                  rw [show (36 : Int) = ((36 : Nat) : Int) from rfl, this]
                rw [e1, e2, e3, hord] at htake
                have hatn := fun W F (K : Holds W (oldH w :: F)) => at_nat (Rd.old_int hC F W K) hil
                have hAr := fun W => Around_at (l[next]?.getD 0) 36 x36 hx36 hxw (by omega) (by omega) W
                generalize (ordM l j next).to_ = tt at *
                generalize l[next]?.getD 0 = X at *
                have Hatn := Lib.hid hatn
                clear e1 e2 e3 hone hin hat hord hx36 hxw hatn
                go_wp2_with fail
                refine htake.mono ?_
                rintro e w4 ⟨A4, c4, rfl, H5, Q6⟩
                dsimp only [List.length_singleton] at H5 ⊢
                obtain ⟨g4, rfl, hg4⟩ := H5.rowAddr (by simp)
                have H6 := H5.box 32 #[.int .i64 ((x36 : Int) % (j : Int)), .int .i64 tt, .slice (some ⟨g4, 0, none⟩) 1 c4]
                have Q7 := (Q1.trans Q6).alloc (.cells #[.int .i64 ((x36 : Int) % (j : Int)), .int .i64 tt, .slice (some ⟨g4, 0, none⟩) 1 c4] 32)
                have b0 := H6.c 0 (.int .i64 ((x36 : Int) % (j : Int))) rfl
                have b2 := H6.c 2 (.slice (some ⟨g4, 0, none⟩) 1 c4) rfl
                have bx := (H6.f2.rowCell 0 (by simp)).1
                dsimp only [List.getElem_cons_zero] at bx
                obtain ⟨ad, e1, hcell⟩ := Hatn.out _ [] H6.drop.drop.drop.drop.drop
                subst e1
                have htm1 : (x36 : Int).tmod (j : Int) = (x36 : Int) % (j : Int) := Int.tmod_eq_emod_of_nonneg (by omega)
                clear htake H1 Q1 Q6 H5
                go_wp2_with fail
                go_quiet ((go_at_call 26; exact Calls.quiet_of_same ((hAr _).mono fun e w' ⟨h1, h2⟩ => ⟨h1, h2.symm⟩)))
                go_wp2
                go_roundw
                case rel => exact ⟨next + 1, by omega, by go_num, (H6.drop.drop).drewN _, Q7.drewN _⟩
                case measure => simp [intOf]; omega
              · obtain rfl : next = i := by omega
                have htake := nTake p (List.replicate j 0) (ordL l j next (next - next)) 0 (ordOk l hk1 hk6 _ hT next _ (by omega)) wr H1
                rw [Nat.sub_self] at htake
                have hin := inR_nil l j next
                have e1 : takeE (List.replicate j 0) (ordL l j next 0) 0 = 9 := by unfold takeE; rw [if_neg hin]
                have e2 : takeL (List.replicate j 0) (ordL l j next 0) 0 = [] := by unfold takeL; rw [if_neg hin]; rfl
                have e3 : takeM (List.replicate j 0) (ordL l j next 0) 0 = zeroM := by unfold takeM; rw [if_neg hin]
                rw [e1, e2, e3] at htake
                clear e1 e2 e3 hin
                go_wp2_with fail
                refine htake.mono ?_
                rintro e w4 ⟨A4, c4, rfl, H5, Q6⟩
                dsimp only [zeroM, List.length_nil] at H5 ⊢
                have H6 := H5.box 32 #[.int .i64 0, .int .i64 0, .slice A4 0 c4]
                have Q7 := (Q1.trans Q6).alloc (.cells #[.int .i64 0, .int .i64 0, .slice A4 0 c4] 32)
                clear htake H1 Q1 Q6 H5
                go_wp2_with fail
                refine (nLen p _ [] _ H6.f3).mono ?_
                rintro e w5 ⟨rfl, H7, Q8⟩
                rw [show ((([] : List Msg).length : Nat) : Int) = 0 from rfl]
                go_wp2_with fail
                refine (nlives w5 H7).mono ?_
                rintro e w6 ⟨rfl, H8, Q9⟩
                have HB := Lib.hid (H8.drop.drop.drop.drop.drop.old ((Q7.trans Q8).trans Q9))
                go_wp2
                go_ret
                exact ⟨rfl, HB.out⟩
end Go.Proofs.Ythoajajgbafngaa
