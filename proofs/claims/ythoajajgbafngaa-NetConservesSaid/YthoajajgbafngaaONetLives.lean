/- The example at the end of each law of package net. -/
import Derived.Test.YthoajajgbafngaaONet3
import Derived.Lib.SlBytesConst
namespace Go.Proofs.Ythoajajgbafngaa.Old
set_option linter.unusedVariables false
set_option linter.unusedSimpArgs false
open Go.RowKit Go.Shelf Go.Proofs.YthoajajgbafngaaW.PrintWords Go.Proofs.YthoajajgbafngaaW.PrintLast Go.Proofs.YthoajajgbafngaaW.PrintMore

/-- A network that lies wholly above b. -/
structure NetB (b : Nat) (W : World) (p gb : Nat) (lv : Value) (gs : List Int) (ms : List Msg) (bl : List Nat) : Prop where
  at_ : NetAt W p gb lv gs ms bl
  p_ : b ≤ p
  g_ : b ≤ gb
  l_ : ∀ k, lv.ownBlock = some k → b ≤ k
theorem NetB.below {b : Nat} {W W' : World} {p gb : Nat} {lv : Value} {gs : List Int} {ms : List Msg} {bl : List Nat} (h : NetB b W p gb lv gs ms bl) (hb : Below W.heap.size W W') : NetB b W' p gb lv gs ms bl := ⟨h.at_.below hb, h.p_, h.g_, h.l_⟩
theorem NetB.kept {b : Nat} {S : Nat → Prop} {W W' : World} {p gb : Nat} {lv : Value} {gs : List Int} {ms : List Msg} {bl : List Nat} (h : NetB b W p gb lv gs ms bl) (hk : Kept S W W') (hp : ¬ S p) (hg : ¬ S gb) (hl : ∀ k, lv.ownBlock = some k → ¬ S k) (hb : ∀ k ∈ bl, ¬ S k) : NetB b W' p gb lv gs ms bl := ⟨h.at_.kept hk hp hg hl hb, h.p_, h.g_, h.l_⟩
theorem NetB.step {b : Nat} {W W' : World} {p gb : Nat} {lv lv' : Value} {gs : List Int} {ms ms' : List Msg} {bl bl' : List Nat} (h : NetB b W p gb lv gs ms bl) (hb : b ≤ W.heap.size) (hN : NetAt W' p gb lv' gs ms' bl') (hk : Kept (netS p lv) W W')
    (hat : lv'.ownBlock = lv.ownBlock ∨ ∃ x, lv'.ownBlock = some x ∧ W.heap.size ≤ x) : NetB b W' p gb lv' gs ms' bl' ∧ Below b W W' := by
  refine ⟨⟨hN, h.p_, h.g_, fun k hk' => ?_⟩, hk.below hb (fun k hs => ?_)⟩
  · rcases hat with e | ⟨x, e, hx⟩
    · exact h.l_ k (e ▸ hk')
    · rw [e] at hk'
      cases hk'
      omega
  · rcases hs with rfl | hs
    · exact h.p_
    · exact h.l_ k hs.symm
theorem NetB.same {b : Nat} {W W' : World} {p gb : Nat} {lv lv' : Value} {gs : List Int} {ms ms' : List Msg} {bl bl' : List Nat} (h : NetB b W p gb lv gs ms bl) (hb : b ≤ W.heap.size) (hN : NetAt W' p gb lv' gs ms' bl') (hk : Kept (netS p lv) W W')
    (hat : lv'.ownBlock = lv.ownBlock) : NetB b W' p gb lv' gs ms' bl' ∧ Below b W W' := h.step hb hN hk (Or.inl hat)

theorem kd_const (w : World) (x : Int) (fr : Nat × Nat) : (Kd.int .u8).C (w.alloc (.cells #[.int .u8 x] 5 fr)) (some ⟨w.heap.size, 0, none⟩) 1 [x] := by
  have h : ReadsInt (w.alloc (.cells #[.int .u8 x] 5 fr)) .u8 (some ⟨w.heap.size, 0, none⟩) 1 [x] := by
    refine ⟨rfl, by omega, fun _ => ⟨_, rfl, fun j hj => ?_⟩⟩
    obtain rfl : j = 0 := by omega
    rw [add_plain]
    exact (cell_of_row _ w.heap.size 0 #[.int .u8 x] 5 fr (heap_alloc_new w _)).trans rfl
  exact Kd.C_of_reads (d := (0 : Int)) (h1 := fun _ => rfl) h

set_option maxRecDepth 100000 in
set_option maxHeartbeats 4000000 in
theorem lives_calls (w : World) : Calls Try.prog 24 #[] w fun e w' => e = .returned (.bool true) ∧ Below w.heap.size w w' := by
  have kc := fun (w : World) (C : Array Value) (n c : Nat) => Lib.run_convert_bytes_const (P := Try.prog) w 30 5 C n c Try.underlying30 Try.underlying5
  go_enter Try.func24, Try.ntmps24
  go_wp2_with fail
  refine (New_ok 2 w (by omega) (by omega)).mono ?_
  rintro e w1 ⟨p, gb, rfl, hN, hB, hp, hg⟩
  have hN1 : NetB w.heap.size w1 p gb (.slice none 0 0) [0, 0] [] [] := ⟨hN, hp, hg, fun k h => by cases h⟩
  clear hN hp hg
  -- the first message
  go_wp2_with fail
  have hB0 := (Below.refl w1.heap.size w1).alloc (Nat.le_refl _) (.cells #[.int .u8 97] 5 (1, 2))
  have hN0 := hN1.below hB0
  refine (Send_all p gb _ [0, 0] [] [] ⟨0, 1, [97]⟩ _ 1 _ hN0.at_ (by decide) (by decide) (kd_const w1 97 (1, 2))).mono ?_
  rintro e w2 ⟨-, -, h⟩
  obtain ⟨lv2, k0, rfl, hN2, hk2, hat2, hf2⟩ := h (by decide) (by decide)
  obtain ⟨hN2', hB2⟩ := hN0.step (by have := hB.size; simp; omega) hN2 hk2 hat2
  have hB2' : Below w.heap.size w w2 := (hB.trans (hB0.mono hB.size)).trans hB2
  clear h hN2 hk2 hat2 hN0 hB0 hB2 hN1 hB
  -- the second
  go_wp2_with fail
  have hB0 := (Below.refl w2.heap.size w2).alloc (Nat.le_refl _) (.cells #[.int .u8 98] 5 (1, 2))
  have hN0 := hN2'.below hB0
  refine (Send_all p gb _ [0, 0] _ _ ⟨1, 0, [98]⟩ _ 1 _ hN0.at_ (by decide) (by decide) (kd_const w2 98 (1, 2))).mono ?_
  rintro e w3 ⟨-, -, h⟩
  obtain ⟨lv3, k1, rfl, hN3, hk3, hat3, hf3⟩ := h (by decide) (by decide)
  obtain ⟨hN3', hB3⟩ := hN0.step (by have := hB2'.size; simp; omega) hN3 hk3 hat3
  have hB3' : Below w.heap.size w w3 := (hB2'.trans (hB0.mono hB2'.size)).trans hB3
  clear h hN3 hk3 hat3 hN0 hB0 hB3 hN2' hB2'
  -- the copy
  go_wp2_with fail
  refine (Copy_ok p gb lv3 [0, 0] _ _ 0 ⟨0, 1, [97]⟩ w3 hN3'.at_ (by decide) rfl (by decide)).mono ?_
  rintro e w4 ⟨lv4, k2, rfl, hN4, hk4, hat4, hf4⟩
  obtain ⟨hN4', hB4⟩ := hN3'.step hB3'.size hN4 hk4 hat4
  have hB4' : Below w.heap.size w w4 := hB3'.trans hB4
  clear hN4 hk4 hat4 hB4 hN3' hB3'
  go_wp2_with fail
  refine (Len_calls p gb lv4 _ _ _ w4 hN4'.at_).mono ?_
  rintro e w5 ⟨rfl, hB5⟩
  have hN5 := hN4'.below hB5
  have hB5' := bthen hB4' hB5
  clear hN4' hB4' hB5
  -- the second is delivered
  go_wp2_with fail
  refine (Take_ok p gb lv4 [0, 0] _ _ 1 ⟨1, 0, [98]⟩ 1 0 w5 hN5.at_ (by decide) (by decide) rfl rfl rfl (by decide) (by decide) rfl).mono ?_
  rintro e w6 ⟨lv6, kk, hkk, rfl, hN6, hk6, hat6⟩
  have hbytes : Blk w6 kk 5 (nums .u8 [98]).toArray := (hN5.at_.msg 1 ⟨1, 0, [98]⟩ kk rfl hkk).kept hk6 (fun hs => by
    rcases hs with e | e
    · exact (hN5.at_.msg 1 ⟨1, 0, [98]⟩ kk rfl hkk).ne_ hN5.at_.blk (by decide) e
    · exact own_blk_ne hN5.at_.row (hN5.at_.msg 1 ⟨1, 0, [98]⟩ kk rfl hkk) (by decide) e.symm)
  obtain ⟨hN6', hB6⟩ := hN5.same hB5'.size hN6 hk6 hat6
  have hB6' : Below w.heap.size w w6 := hB5'.trans hB6
  clear hN6 hk6 hat6 hB6 hN5 hB5' hkk
  go_wp2_with fail
  have hlo6 : ∀ x, lv6.ownBlock = some x → x < w6.heap.size := fun x hx => own_lt hN6'.at_.row x hx
  have hp6 : p < w6.heap.size := hN6'.at_.blk.lt
  have hg6 : gb < w6.heap.size := hN6'.at_.grp.lt
  have hbox := (Blk.new w6 32 #[.int .i64 1, .int .i64 0, .slice (some ⟨kk, 0, none⟩) 1 1]).alloc (.cells #[.int .i64 0, .int .i64 1] 3)
  have hB0 := ((Below.refl w6.heap.size w6).alloc (Nat.le_refl _) (.cells #[.int .i64 1, .int .i64 0, .slice (some ⟨kk, 0, none⟩) 1 1] 32)).alloc (by simp) (.cells #[.int .i64 0, .int .i64 1] 3)
  have hbytes0 := hbytes.below hB0 hbytes.lt
  have hN0 := hN6'.below hB0
  have hgrp := Blk.new (w6.alloc (.cells #[.int .i64 1, .int .i64 0, .slice (some ⟨kk, 0, none⟩) 1 1] 32)) 3 #[.int .i64 0, .int .i64 1]
  rw [World.size_alloc] at hgrp
  refine (Part_ok p gb lv6 [0, 0] [0, 1] _ _ _ 2 _ hN0.at_ rfl (Blk.kd (k := .i64) (l := [0, 1]) hgrp (by decide))).mono ?_
  rintro e w7 ⟨rfl, hN7, hk7⟩
  have hbox7 := hbox.kept hk7 (by omega)
  have hbytes7 := hbytes0.kept hk7 (fun e => hbytes0.ne_ hN0.at_.grp (by decide) e)
  have hN7' : NetB w.heap.size w7 p gb lv6 [0, 1] _ _ := ⟨hN7, hN6'.p_, hN6'.g_, hN6'.l_⟩
  have hB7' : Below w.heap.size w w7 := (hB6'.trans (hB0.mono hB6'.size)).trans (hk7.below (by have := hB6'.size; simp; omega) (fun k e => e ▸ hN6'.g_))
  clear hbox hB0 hbytes0 hN0 hgrp hk7 hN7 hN6' hB6' hbytes
  -- the first is not
  go_wp2_with fail
  refine (Take_state p gb lv6 [0, 1] _ _ 0 ⟨0, 1, [97]⟩ 0 1 w7 hN7'.at_ (by decide) (by decide) rfl rfl rfl (by decide) (by decide) (by decide)).mono ?_
  rintro e w8 ⟨rfl, hB8⟩
  have hbox8 := hbox7.below hB8 hbox7.lt
  have hbytes8 := hbytes7.below hB8 hbytes7.lt
  have hN8' := hN7'.below hB8
  have hB8' := bthen hB7' hB8
  clear hbox7 hbytes7 hN7' hB7' hB8
  go_wp2_with fail
  have hB0 := (Below.refl w8.heap.size w8).alloc (Nat.le_refl _) (.cells #[.int .i64 0, .int .i64 0, .slice none 0 0] 32)
  have hbox0 := hbox8.below hB0 hbox8.lt
  have hbytes0 := hbytes8.below hB0 hbytes8.lt
  have hN0 := hN8'.below hB0
  refine (Drop_ok p gb lv6 [0, 1] _ _ 0 _ hN0.at_ (by decide) (by decide)).mono ?_
  rintro e w9 ⟨lv9, rfl, hN9, hk9, hat9⟩
  have hbox9 := hbox0.kept hk9 (fun hs => by
    rcases hs with e | e
    · omega
    · have := hlo6 _ e.symm; omega)
  have hbytes9 := hbytes0.kept hk9 (fun hs => by
    rcases hs with e | e
    · exact hbytes0.ne_ hN0.at_.blk (by decide) e
    · exact own_blk_ne hN0.at_.row hbytes0 (by decide) e.symm)
  obtain ⟨hN9', hB9⟩ := hN0.same (by have := hB8'.size; simp; omega) hN9 hk9 hat9
  have hB9' : Below w.heap.size w w9 := (hB8'.trans (hB0.mono hB8'.size)).trans hB9
  clear hbox8 hbytes8 hN0 hN9 hk9 hat9 hB9 hB8' hN8' hB0 hbox0 hbytes0
  have b0 := hbox9.cell 0
  have b1 := hbox9.cell 1
  have b2 := hbox9.cell 2
  simp only [List.getElem?_toArray, List.getElem?_cons_succ, List.getElem?_cons_zero] at b0 b1 b2
  have hstr : (convert 30 9 (.slice (some ⟨kk, 0, none⟩) 1 1)).run Try.prog w9 = .ok (.string (strOfNums [98])) w9 := Kd.C_string Try.underlying30 Try.underlying5 Try.underlying9 (hbytes9.kd (by decide))
  rw [show strOfNums [98] = ⟨#[98]⟩ from rfl] at hstr
  go_wp2_with fail
  refine (Len_calls p gb lv9 _ _ _ w9 hN9'.at_).mono ?_
  rintro e w10 ⟨rfl, hB10⟩
  have HB := Lib.hid (bthen hB9' hB10)
  clear hB10 hB9'
  go_wp2
  go_ret
  exact ⟨rfl, HB.out⟩

end Go.Proofs.Ythoajajgbafngaa.Old
