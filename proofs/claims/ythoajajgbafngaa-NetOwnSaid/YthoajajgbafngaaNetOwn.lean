/- The law NetOwn. -/
import Derived.Test.YthoajajgbafngaaNetPart
namespace Go.Proofs.Ythoajajgbafngaa
set_option linter.unusedVariables false
set_option linter.unusedSimpArgs false
open Go.RowKit Go.Shelf Go.Proofs.YthoajajgbafngaaW.PrintWords Go.Proofs.YthoajajgbafngaaW.PrintLast Go.Proofs.YthoajajgbafngaaW.PrintMore

theorem u8row_of_R {w : World} {base : Nat} {ok : Nat → Prop} {A : Option Addr} {n c : Nat} {r : List Int} (h : (Kd.int .u8).R 5 w base ok (.slice A n c) r) (h0 : 0 < r.length) : ∃ gx cur, A = some ⟨gx, 0, none⟩ ∧ base ≤ gx ∧ w.heap[gx]? = some (.cells cur 5 (0, 0)) ∧ n ≤ c ∧ cur.size = c := by
  obtain ⟨_, h | ⟨g, cap, cur, hv, hb, hg, hnc, _, hcs, _⟩⟩ := Kd.own_of_R h
  · omega
  · injection hv with e1 e2 e3
    subst e1 e2 e3
    exact ⟨g, cur, rfl, hb, hg, hnc, by omega⟩

theorem kd_kept {k : IntKind} {S : Nat → Prop} {w w' : World} {g n : Nat} {l : List Int} (hl : l.length = n) (hn : n ≤ 1000000) (h : (Kd.int k).C w (some ⟨g, 0, none⟩) n l) (hk : Kept S w w') (hs : ¬ S g) : (Kd.int k).C w' (some ⟨g, 0, none⟩) n l := by
  refine Kd.C_of_reads (d := (0 : Int)) (h1 := fun _ => rfl) (show ReadsInt w' k _ n l from ⟨hl, by omega, fun _ => ⟨_, rfl, fun j hj => ?_⟩⟩)
  obtain ⟨ad, e, hc⟩ := at_nat h hj
  cases e
  rw [Addr.add_lit, Nat.zero_add] at hc ⊢
  rw [List.getD_eq_getElem?_getD]
  exact hk.cell hc hs
theorem Send_n (p gb : Nat) (lv : Value) (gs : List Int) (ms : List Msg) (bl : List Nat) (m : Msg) (A : Option Addr) (n c : Nat) (hn : m.b.length = n) (w : World) (hN : NetAt w p gb lv gs ms bl) (hgl : gs.length ≤ 1000000) (hl2 : ms.length < 1000) (hC : (Kd.int .u8).C w A n m.b) (hs : sendOk gs m = true) :
    Calls Try.prog 12 #[.pointer (some ⟨p, 0, none⟩), .agg #[.int .i64 m.frm, .int .i64 m.to_, .slice A n c]] w fun e w' => ∃ lv' k, e = .returned (.int .i64 0) ∧ NetAt w' p gb lv' gs (ms ++ [m]) (bl ++ [k]) ∧ Kept (netS p lv) w w' ∧ (lv'.ownBlock = lv.ownBlock ∨ ∃ b, lv'.ownBlock = some b ∧ w.heap.size ≤ b) ∧ w.heap.size ≤ k := by
  subst hn
  exact (Send_all p gb lv gs ms bl m A c w hN hgl (by omega) hC).mono fun e w' h => h.2.2 hs hl2

theorem Kept.of_belowB {B : Nat} {a b : World} (h : Below B a b) : Kept (fun k => B ≤ k) a b := ⟨h.os, h.tape, h.output, h.size, fun i _ hs => h.block i (by omega)⟩

set_option maxRecDepth 100000 in
set_option maxHeartbeats 8000000 in
theorem NetOwn_walk (a0 : Option Addr) (len0 cap0 : Nat) (z0 : List Int) (w : World) (w0 : IsRow .u8 w a0 len0 cap0 z0) (y0 : len0 * 1 ≤ 140737488351232) :
    Calls Try.prog 8 #[.slice a0 len0 cap0] w fun e w' => e = .returned (.bool true) ∧ Below w.heap.size w w' := by
  obtain ⟨l, rfl, hlc, hC, -⟩ := row_in w0
  clear w0
  obtain ⟨r, hr, hr50, hrl, -⟩ := take_name l 50
  have hr50' : r.length ≤ 50 := hr50
  go_enter Try.func8, Try.ntmps8
  go_wp2_with fail
  refine (New_ok 2 w (by omega) (by omega)).mono ?_
  rintro e w1 ⟨p, gb, rfl, hN, hB, hp, hg⟩
  have hN1 : NetB w.heap.size w1 p gb (.slice none 0 0) [0, 0] [] [] := ⟨hN, hp, hg, fun k h => by cases h⟩
  have hC1 := Kd.C_below hC hB
  clear hN hp hg hC
  go_wp2_with fail
  refine (Few_at a0 cap0 l 50 r hr (by omega) (by omega) w1 hC1 hlc).mono ?_
  rintro e w2 ⟨A1, c1, rfl, hc1, hR2, hB2⟩
  have hN2 := hN1.below hB2
  have hp1 : p < w1.heap.size := hN1.at_.blk.lt
  have hg1 : gb < w1.heap.size := hN1.at_.grp.lt
  have hs1 := hB.size
  have hE2 := bthen hB hB2
  clear hC1 hN1 hB hr hrl hr50
  go_wp2_with (at_builtin; go_must (first | (refine Kd.R_append (Kd.int .u8) (w0 := w2) w1.heap.size rfl _ _ 30 5 (.int .u8 0) 1 rfl Try.underlying30 info_u8 rfl (by decide) (by decide) (.slice A1 r.length c1) r 1 [.int .u8 1] (fun _ => True) (fun _ => False) rfl rfl rfl (fun _ h => h.elim) (fun _ _ => trivial) hR2 (Below.refl _ _) hB2.size (by omega) ?_; intro v1 w3 hR3 hB3 hg hat; obtain ⟨A3, c3, hv3, hc3, hC3⟩ := Kd.R_reads hR3; rw [List.length_append, List.length_singleton] at hv3 hc3 hC3; subst hv3; clear hat hg) | (refine Kd.R_append_rows (Kd.int .u8) (w0 := w3.alloc (.cells #[] 5)) w3.heap.size rfl _ _ 30 5 (.int .u8 0) 1 rfl Try.underlying30 info_u8 rfl (by decide) (by omega) (.slice (some ⟨w3.heap.size, 0, none⟩) 0 0) [] (r ++ [1]) _ _ _ (fun _ => True) (fun _ => False) rfl rfl (Kd.R_of_own (h1 := fun _ => rfl) (World.ownsRow_lit w3 #[] 0 (Nat.le_refl _) (by decide) rfl) (fun _ _ => trivial)) (Kd.C_below hC3 ((Below.refl _ _).alloc (Nat.le_refl _) _)) (fun _ _ h => h) (fun _ h => h.elim) (fun _ _ => trivial) (Below.refl _ _) (by simp) (by simp; omega) ?_; intro v4 w4 hR4 hB4 hg hat; rw [List.nil_append] at hR4; obtain ⟨A4, c4, hv4, hc4, hC4⟩ := Kd.R_reads hR4; rw [List.length_append, List.length_singleton] at hv4 hc4 hC4; subst hv4; clear hat hg)))
  have hN3 := hN2.kept (Kept.of_belowB hB3) (by simp; omega) (by simp; omega) (fun k hk => by cases hk) (fun k hk => by cases hk)
  have hE3 := hE2.trans (hB3.mono hs1)
  have hB34 := ((Below.refl w3.heap.size w3).alloc (Nat.le_refl _) (.cells #[] 5)).trans hB4
  have hN4 := hN3.below hB34
  have hE4 := bthen hE3 hB34
  have hC34 := Kd.C_below hC3 hB34
  obtain ⟨o, ho⟩ : ∃ o, o = r ++ [1] := ⟨_, rfl⟩
  have hol : o.length = r.length + 1 := by rw [ho]; simp
  rw [← ho] at hR3 hR4 hC34 hC4 hC3
  clear ho
  obtain ⟨ox, ocur, rfl, hox, hocur, -, -⟩ := u8row_of_R hR3 (by omega)
  obtain ⟨sx, scur, rfl, hsx, hscur, hsc4, hscs⟩ := u8row_of_R hR4 (by omega)
  have hoxlt : ox < w3.heap.size := (Array.getElem?_eq_some_iff.1 hocur).1
  have hob4 : Blk w4 ox 5 ocur := (hB34.block ox hoxlt).trans hocur
  have hsb4 : Blk w4 sx 5 scur := hscur
  have hs : sendOk [0, 0] ⟨0, 1, o⟩ = true := by simp [sendOk, atOk, hol]; omega
  clear hR2 hR3 hR4 hocur hscur hC3 hB34 hB4 hB3 hN3 hN2 hE2 hE3 hc1 hc3 hp1 hg1 hB2
  refine (Send_n p gb _ [0, 0] [] [] ⟨0, 1, o⟩ (some ⟨sx, 0, none⟩) (r.length + 1) c4 hol w4 hN4.at_ (by decide) (by decide) hC4 hs).mono ?_
  rintro e w5 ⟨lv5, k5, rfl, hN5, hk5, hat5, hf5⟩
  have hob5 := hob4.kept hk5 (fun h => by rcases h with e | e; exact hN4.at_.blk.ne_ hob4 (by decide) e.symm; cases e)
  have hsb5 := hsb4.kept hk5 (fun h => by rcases h with e | e; exact hN4.at_.blk.ne_ hsb4 (by decide) e.symm; cases e)
  have hC5 := kd_kept hol (by omega) hC34 hk5 (fun h => by rcases h with e | e; exact hN4.at_.blk.ne_ hob4 (by decide) e.symm; cases e)
  have hsxlt := hsb4.lt
  have hC45 := kd_kept hol (by omega) hC4 hk5 (fun h => by rcases h with e | e; exact hN4.at_.blk.ne_ hsb4 (by decide) e.symm; cases e)
  obtain ⟨ad0, e0, hs0⟩ := at_nat hC45 (show 0 < r.length + 1 by omega)
  cases e0
  rw [Addr.add_lit, Nat.zero_add] at hs0
  have hsf : w5.frozen? ⟨sx, 0, none⟩ = false := frozen_of_row w5 sx 0 scur _ hsb5
  obtain ⟨hM5, hE5⟩ := hN4.step hE4.size hN5 hk5 hat5
  have hE5' := hE4.trans hE5
  clear hN5 hk5 hat5 hE5 hN4 hE4 hC34 hC4 hob4 hsb4 hs
  clear hC45
  go_wp2_with fail
  have hk6 : Kept (fun i => i = sx) w5 (w5.setCell ⟨sx, 0, none⟩ (.int .u8 ((o[0] + 1) % 256))) := Kept.setCell (S := fun i => i = sx) (p := ⟨sx, 0, none⟩) (Kept.refl _ w5) (Or.inl rfl) _
  have hne : ox ≠ sx := by omega
  have hM6 := hM5.kept hk6 (hM5.at_.blk.ne_ hsb5 (by decide)) (hM5.at_.grp.ne_ hsb5 (by decide)) (fun k hk e => own_blk_ne hM5.at_.row hsb5 (by decide) (e ▸ hk)) (fun k hk e => by simp at hk; omega)
  have hC6 := kd_kept hol (by omega) hC5 hk6 hne
  have hob6 := hob5.kept hk6 hne
  have hE6 := hE5'.trans (hk6.below hE5'.size (fun k e => by have := hs1; omega))
  generalize w5.setCell ⟨sx, 0, none⟩ (.int .u8 ((o[0] + 1) % 256)) = w6 at *
  clear hk6 hM5 hC5 hob5 hsb5 hE5' hs0 hsf
  refine (Copy_ok p gb lv5 [0, 0] _ _ 0 ⟨0, 1, o⟩ w6 hM6.at_ (by simp) rfl (by simp [hol]; omega)).mono ?_
  rintro e w7 ⟨lv7, k7, rfl, hN7, hk7, hat7, hf7⟩
  have hC7 := kd_kept hol (by omega) hC6 hk7 (fun h => by rcases h with e | e; exact hM6.at_.blk.ne_ hob6 (by decide) e.symm; exact own_blk_ne hM6.at_.row hob6 (by decide) e.symm)
  have hob7 := hob6.kept hk7 (fun h => by rcases h with e | e; exact hM6.at_.blk.ne_ hob6 (by decide) e.symm; exact own_blk_ne hM6.at_.row hob6 (by decide) e.symm)
  have hk5lt : k5 < w6.heap.size := hM6.at_.blt k5 (by simp)
  obtain ⟨hM7, hE7⟩ := hM6.step hE6.size hN7 hk7 hat7
  have hE7' := hE6.trans hE7
  clear hN7 hk7 hat7 hE7 hM6 hE6 hC6 hob6
  go_wp2_with fail
  refine (Take_ok p gb lv7 [0, 0] _ _ 0 ⟨0, 1, o⟩ 0 1 w7 hM7.at_ (by simp) (by simp) rfl rfl rfl (by decide) (by decide) rfl).mono ?_
  rintro e w8 ⟨lv8, kk, hkk, rfl, hN8, hk8, hat8⟩
  obtain rfl : k5 = kk := by simpa using hkk
  have hby7 : Blk w7 k5 5 (nums .u8 o).toArray := hM7.at_.msg 0 ⟨0, 1, o⟩ k5 (by simp) (by simp)
  have hsep : ∀ {g : Nat} {cs : Array Value}, Blk w7 g 5 cs → ¬ netS p lv7 g := fun hb h => by rcases h with e | e; exact hM7.at_.blk.ne_ hb (by decide) e.symm; exact own_blk_ne hM7.at_.row hb (by decide) e.symm
  have hby8 := hby7.kept hk8 (hsep hby7)
  have hC8 := kd_kept hol (by omega) hC7 hk8 (hsep hob7)
  have hob8 := hob7.kept hk8 (hsep hob7)
  obtain ⟨hM8, hE8⟩ := hM7.same hE7'.size hN8 hk8 hat8
  have hM8' : NetB w.heap.size w8 p gb lv8 [0, 0] [⟨0, 1, o⟩] [k7] := hM8
  have hE8' := hE7'.trans hE8
  have hk57 : k5 ≠ k7 := by omega
  clear hN8 hk8 hat8 hE8 hM8 hM7 hE7' hC7 hob7 hby7 hsep hkk
  go_wp2_with fail
  have hB0 := (Below.refl w8.heap.size w8).alloc (Nat.le_refl _) (.cells #[.int .i64 0, .int .i64 1, .slice (some ⟨k5, 0, none⟩) (r.length + 1) (r.length + 1)] 32)
  have hbx := Blk.new w8 32 #[.int .i64 0, .int .i64 1, .slice (some ⟨k5, 0, none⟩) (r.length + 1) (r.length + 1)]
  have hby9 := hby8.below hB0 hby8.lt
  have hC9 := Kd.C_below hC8 hB0
  have hob9 := hob8.below hB0 hob8.lt
  have hM9 := hM8'.below hB0
  have hE9 := bthen hE8' hB0
  have hbl : w.heap.size ≤ k5 := by omega
  generalize hbxx : w8.heap.size = bx at *
  generalize w8.alloc (.cells #[.int .i64 0, .int .i64 1, .slice (some ⟨k5, 0, none⟩) (r.length + 1) (r.length + 1)] 32) = w9 at *
  clear hB0 hM8' hE8' hC8 hob8 hby8
  refine (Same_n (some ⟨k5, 0, none⟩) (r.length + 1) (r.length + 1) o (some ⟨ox, 0, none⟩) c3 (r.length + 1) o w9 hol.symm hol.symm (hby9.kd (by rw [hol]; simp only [maxLen]; omega)) (by rw [hol]; exact hC9) (by omega)).mono ?_
  rintro e w10 ⟨rfl, hB10⟩
  have hbx10 := hbx.below hB10 hbx.lt
  have hby10 := hby9.below hB10 hby9.lt
  have hC10 := Kd.C_below hC9 hB10
  have hob10 := hob9.below hB10 hob9.lt
  have hM10 := hM9.below hB10
  have hE10 := bthen hE9 hB10
  clear hB10 hbx hby9 hC9 hob9 hM9 hE9
  have hdo : decide (o = o) = true := decide_eq_true rfl
  rw [hdo]
  clear hdo
  have b2 := hbx10.cell 2
  simp only [List.getElem?_toArray, List.getElem?_cons_succ, List.getElem?_cons_zero] at b2
  go_wp2
  have hbk : bx ≠ k5 := hbx10.ne_ hby10 (by decide)
  have hok : ox ≠ k5 := by omega
  go_loopw [9] (fun v wr => ∃ (k : Nat) (cur : Array Value), k ≤ r.length + 1 ∧ v = .int .i64 (k : Int) ∧ wr.heap[k5]? = some (.cells cur 5 (0, 0)) ∧ cur.size = r.length + 1 ∧ Kept (fun i => i = k5) w10 wr) (fun v _ => r.length + 1 - (intOf v).toNat)
  case atStart => exact ⟨0, _, by omega, rfl, hby10, by simp [nums, hol], Kept.refl _ _⟩
  case round =>
    obtain ⟨k, cur, hkl, rfl, hcur, hcs, hkp⟩ := hrel
    have hbxr := hbx10.kept hkp hbk
    have bxlt := hbxr.lt
    have b2r := hbxr.cell 2
    simp only [List.getElem?_toArray, List.getElem?_cons_succ, List.getElem?_cons_zero] at b2r
    by_cases hlt : k < r.length + 1
    · have hlti : (k : Int) < (r.length : Int) + 1 := by omega
      have hcl : wr.cell? ⟨k5, k, none⟩ = some (cur[k]'(by omega)) := by rw [cell_of_row wr k5 k cur _ (0, 0) hcur]; simp
      have hfz : wr.frozen? ⟨k5, k, none⟩ = false := frozen_of_row wr k5 k cur _ hcur
      go_wp2
      go_roundw
      case rel => exact ⟨k + 1, cur.setIfInBounds k (.int .u8 77), by omega, by go_num, blk_set hcur k _, by simpa using hcs, hkp.setCell (Or.inl rfl) _⟩
      case measure => simp [intOf]; omega
    · obtain rfl : k = r.length + 1 := by omega
      have hM11 := hM10.kept hkp (hM10.at_.blk.ne_ hby10 (by decide)) (hM10.at_.grp.ne_ hby10 (by decide)) (fun b hb e => own_blk_ne hM10.at_.row hby10 (by decide) (e ▸ hb)) (fun b hb e => by simp at hb; omega)
      have hC11 := kd_kept hol (by omega) hC10 hkp hok
      have hob11 := hob10.kept hkp hok
      have hE11 := hE10.trans (hkp.below hE10.size (fun i e => e ▸ hbl))
      clear hM10 hC10 hob10 hkp hcur hcs hby10 hbx10 hE10 hlt hkl b2
      go_wp2_with fail
      refine (Take_ok p gb lv8 [0, 0] _ _ 0 ⟨0, 1, o⟩ 0 1 wr hM11.at_ (by simp) (by simp) rfl rfl rfl (by decide) (by decide) rfl).mono ?_
      rintro e w12 ⟨lv12, kk, hkk, rfl, hN12, hk12, hat12⟩
      obtain rfl : k7 = kk := by simpa using hkk
      have hby11 : Blk wr k7 5 (nums .u8 o).toArray := hM11.at_.msg 0 ⟨0, 1, o⟩ k7 (by simp) (by simp)
      have hsep : ∀ {g : Nat} {cs : Array Value}, Blk wr g 5 cs → ¬ netS p lv8 g := fun hb h => by rcases h with e | e; exact hM11.at_.blk.ne_ hb (by decide) e.symm; exact own_blk_ne hM11.at_.row hb (by decide) e.symm
      have hby12 := hby11.kept hk12 (hsep hby11)
      have hC12 := kd_kept hol (by omega) hC11 hk12 (hsep hob11)
      obtain ⟨hM12, hE12⟩ := hM11.same hE11.size hN12 hk12 hat12
      have hE12' := hE11.trans hE12
      clear hN12 hk12 hat12 hE12 hM11 hE11 hC11 hob11 hby11 hsep hkk hbxr bxlt b2r hM12
      go_wp2_with fail
      have hB0 := (Below.refl w12.heap.size w12).alloc (Nat.le_refl _) (.cells #[.int .i64 0, .int .i64 1, .slice (some ⟨k7, 0, none⟩) (r.length + 1) (r.length + 1)] 32)
      have hby13 := hby12.below hB0 hby12.lt
      have hC13 := Kd.C_below hC12 hB0
      have hE13 := bthen hE12' hB0
      refine (Same_n (some ⟨k7, 0, none⟩) (r.length + 1) (r.length + 1) o (some ⟨ox, 0, none⟩) c3 (r.length + 1) o _ hol.symm hol.symm (hby13.kd (by rw [hol]; simp only [maxLen]; omega)) (by rw [hol]; exact hC13) (by omega)).mono ?_
      rintro e w14 ⟨rfl, hB14⟩
      have hE14 := bthen hE13 hB14
      have hdo : decide (o = o) = true := decide_eq_true rfl
      rw [hdo]
      clear hdo hB0 hby13 hC13 hE13 hB14 hby12 hC12 hE12'
      go_wp2_with fail
      refine (lives_calls _).mono ?_
      rintro e w15 ⟨rfl, hB15⟩
      have HB := Lib.hid (bthen hE14 hB15)
      clear hE14 hB15
      go_wp2
      go_ret
      exact ⟨rfl, HB.out⟩
end Go.Proofs.Ythoajajgbafngaa
