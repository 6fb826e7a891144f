/- Package net's contracts, said of parts of memory. -/
import Derived.Test.YthoajajgbafngaaONet3
import Derived.Test.YthoajajgbafngaaR01
import Derived.Test.YthoajajgbafngaaSep6
namespace Go.Proofs.Ythoajajgbafngaa
set_option linter.unusedVariables false
set_option linter.unusedSimpArgs false
open Go.RowKit Go.Shelf Go.Proofs.YthoajajgbafngaaW.PrintWords Go.Proofs.YthoajajgbafngaaW.PrintLast Go.Proofs.YthoajajgbafngaaW.PrintMore

abbrev Msg := Old.Msg
theorem Old.NetAt.move {w w' : World} {p gb : Nat} {lv : Value} {gs : List Int} {ms : List Msg} {bl : List Nat} (h : Old.NetAt w p gb lv gs ms bl) (hp : w'.heap[p]? = w.heap[p]?) (hg : w'.heap[gb]? = w.heap[gb]?) (hl : ∀ k, lv.ownBlock = some k → w'.heap[k]? = w.heap[k]?) (hb : ∀ k ∈ bl, w'.heap[k]? = w.heap[k]?) : Old.NetAt w' p gb lv gs ms bl :=
  ⟨hp.trans h.blk, hg.trans h.grp, own_move h.row hl, h.len, h.nodup, fun i m k hm hk => (hb k (List.mem_of_getElem? hk)).trans (h.msg i m k hm hk)⟩
/-- A network behind the pointer p: its nodes' groups, the messages in transit. -/
def netH (p : Nat) (gs : List Int) (ms : List Msg) : Hp where
  H w S := ∃ gb lv bl, Old.NetAt w p gb lv gs ms bl ∧ S p ∧ S gb ∧ (∀ k, lv.ownBlock = some k → S k) ∧ ∀ k ∈ bl, S k
  mono := fun hS ⟨gb, lv, bl, h, h1, h2, h3, h4⟩ => ⟨gb, lv, bl, h, hS _ h1, hS _ h2, fun k hk => hS k (h3 k hk), fun k hk => hS k (h4 k hk)⟩
  bound := fun ⟨gb, lv, bl, h, h1, h2, h3, h4⟩ => ⟨gb, lv, bl, h, ⟨h1, h.blk.lt⟩, ⟨h2, h.grp.lt⟩, fun k hk => ⟨h3 k hk, own_lt h.row k hk⟩, fun k hk => ⟨h4 k hk, h.blt k hk⟩⟩
  move := fun hm ⟨gb, lv, bl, h, h1, h2, h3, h4⟩ => ⟨gb, lv, bl, h.move (hm _ h1) (hm _ h2) (fun k hk => hm k (h3 k hk)) (fun k hk => hm k (h4 k hk)), h1, h2, h3, h4⟩

theorem Calm.kept {S : Nat → Prop} {w w' : World} (h : Old.Kept S w w') : Calm w w' := ⟨h.os, h.tape, h.output, h.size⟩

section
variable {w w' : World} {p gb : Nat} {lv lv' : Value} {gs gs' : List Int} {ms ms' : List Msg} {bl bl' : List Nat} {F : List Hp}
/-- What a call that changed nothing that lay leaves. -/
theorem Holds.netSame (h : Holds w (netH p gs ms :: F)) (hb : Below w.heap.size w w') : Holds w' (netH p gs ms :: F) := h.below hb
/-- The network, opened for an elder contract: what it leaves is a network again. -/
theorem Holds.netOpen (h : Holds w (netH p gs ms :: F)) : ∃ gb lv bl, Old.NetAt w p gb lv gs ms bl ∧
    (∀ w' lv' gs' ms' bl', Old.NetAt w' p gb lv' gs' ms' bl' → Old.Kept (Old.netS p lv) w w' → (lv'.ownBlock = lv.ownBlock ∨ ∃ b, lv'.ownBlock = some b ∧ w.heap.size ≤ b) → (∀ k ∈ bl', k ∈ bl ∨ w.heap.size ≤ k) → Holds w' (netH p gs' ms' :: F)) ∧
    (∀ w' gs', Old.NetAt w' p gb lv gs' ms bl → Old.Kept (· = gb) w w' → Holds w' (netH p gs' ms :: F)) ∧
    (∀ w' lv' bl' i k m, ms[i]? = some m → bl[i]? = some k → Old.NetAt w' p gb lv' gs (ms.eraseIdx i) (bl.eraseIdx i) → Old.Kept (Old.netS p lv) w w' → lv'.ownBlock = lv.ownBlock → bl' = bl.eraseIdx i → Holds w' (blkH k 5 (nums .u8 m.b).toArray :: netH p gs (ms.eraseIdx i) :: F)) := by
  obtain ⟨S1, S2, d, _, _, ⟨gb, lv, bl, hN, h1, h2, h3, h4⟩, fr⟩ := h
  have hF := (sepL F).bound fr
  refine ⟨gb, lv, bl, hN, ?_, ?_, ?_⟩
  · intro w' lv' gs' ms' bl' hN' hk hat hbl
    refine ⟨fun k => S1 k ∨ w.heap.size ≤ k, fun k => S2 k ∧ k < w.heap.size, fun k k1 k2 => ?_, fun _ _ => trivial, fun _ _ => trivial, ⟨gb, lv', bl', hN', .inl h1, .inl h2, fun k hk' => ?_, fun k hk' => ?_⟩, (sepL F).move (fun k hk' => hk.block k hk'.2 (fun hs => ?_)) hF⟩
    · rcases k1 with k1 | k1
      · exact d k k1 k2.1
      · have := k2.2; omega
    · rcases hat with e | ⟨b, e, hle⟩
      · exact .inl (h3 k (e ▸ hk'))
      · rw [e] at hk'; cases hk'; exact .inr hle
    · exact (hbl k hk').imp (h4 k) id
    · rcases hs with rfl | hs
      · exact d _ h1 hk'.1
      · exact d _ (h3 k hs.symm) hk'.1
  · intro w' gs' hN' hk
    refine ⟨fun k => S1 k, fun k => S2 k ∧ k < w.heap.size, fun k k1 k2 => d k k1 k2.1, fun _ _ => trivial, fun _ _ => trivial, ⟨gb, lv, bl, hN', h1, h2, h3, h4⟩, (sepL F).move (fun k hk' => hk.block k hk'.2 (fun hs => ?_)) hF⟩
    subst hs
    exact d _ h2 hk'.1
  · intro w' lv' bl' i k m hm hki hN' hk hat _
    have hkb : k ∈ bl := List.mem_of_getElem? hki
    have hil : i < bl.length := (List.getElem?_eq_some_iff.1 hki).1
    have hne : k ∉ bl.eraseIdx i := fun hmem => by
      obtain ⟨j, hj, hjk⟩ := List.getElem_of_mem hmem
      have h5 : (bl.eraseIdx i)[j]? = some k := by rw [List.getElem?_eq_getElem hj, hjk]
      rw [List.getElem?_eraseIdx] at h5
      have hnd := hN.nodup
      rw [List.nodup_iff_pairwise_ne, List.pairwise_iff_getElem] at hnd
      have e2 : bl[i] = k := (List.getElem?_eq_some_iff.1 hki).2
      split at h5
      · obtain ⟨hjl, he⟩ := List.getElem?_eq_some_iff.1 h5
        exact hnd j i hjl hil (by omega) (by rw [he, e2])
      · obtain ⟨hjl, he⟩ := List.getElem?_eq_some_iff.1 h5
        exact hnd i (j + 1) hil hjl (by omega) (by rw [he, e2])
    have hkblk := hN.msg i m k hm hki
    have hkp : k ≠ p := hkblk.ne_ hN.blk (by decide)
    have hkl : ∀ x, lv.ownBlock = some x → k ≠ x := fun x hx e => Old.own_blk_ne hN.row hkblk (by decide) (by rw [hx, e])
    refine ⟨fun x => x = k, fun x => (S1 x ∧ x ≠ k) ∨ (S2 x ∧ x < w.heap.size), fun x k1 k2 => ?_, fun _ _ => trivial, fun _ _ => trivial, ⟨rfl, ?_⟩, fun x => S1 x ∧ x ≠ k, fun x => S2 x ∧ x < w.heap.size, fun x k1 k2 => d x k1.1 k2.1, fun _ h => .inl h, fun _ h => .inr h, ⟨gb, lv', bl.eraseIdx i, hN', ⟨h1, hkp.symm⟩, ⟨h2, (hkblk.ne_ hN.grp (by decide)).symm⟩, fun x hx => ⟨h3 x (hat ▸ hx), (hkl x (hat ▸ hx)).symm⟩, fun x hx => ⟨h4 x (List.mem_of_mem_eraseIdx hx), fun e => hne (e ▸ hx)⟩⟩, (sepL F).move (fun x hx => hk.block x hx.2 (fun hs => ?_)) hF⟩
    · subst k1
      rcases k2 with k2 | k2
      · exact k2.2 rfl
      · exact d _ (h4 _ hkb) k2.1
    · exact hk.blk hkblk (fun hs => by
        rcases hs with e | e
        · exact hkp e
        · exact hkl k e.symm rfl)
    · rcases hs with rfl | hs
      · exact d _ h1 hx.1
      · exact d _ (h3 x hs.symm) hx.1
end

/-! ### what the methods do, in plain words -/
def inR {α : Type} (ms : List α) (i : Int) : Bool := decide (0 ≤ i ∧ i < (ms.length : Int))
def sendE (gs : List Int) (ms : List Msg) (m : Msg) : Int := if Old.sendOk gs m = true then (if 1000 ≤ ms.length then 4 else 0) else 1
def sendL (gs : List Int) (ms : List Msg) (m : Msg) : List Msg := if Old.sendOk gs m = true then (if 1000 ≤ ms.length then ms else ms ++ [m]) else ms
def copyE (ms : List Msg) (i : Int) : Int := if inR ms i = true then (if 1000 ≤ ms.length then 4 else 0) else 9
def copyL (ms : List Msg) (i : Int) : List Msg := if inR ms i = true then (if 1000 ≤ ms.length then ms else ms ++ (ms[i.toNat]?).toList) else ms
def dropE (ms : List Msg) (i : Int) : Int := if inR ms i = true then 0 else 9
def dropL (ms : List Msg) (i : Int) : List Msg := if inR ms i = true then ms.eraseIdx i.toNat else ms
def zeroM : Msg := ⟨0, 0, []⟩
def atM (ms : List Msg) (i : Int) : Msg := (ms[i.toNat]?).getD zeroM
/-- The groups of a message's ends are one. -/
def oneG (gs : List Int) (m : Msg) : Bool := decide (gs[m.frm.toNat]?.getD 0 = gs[m.to_.toNat]?.getD 0)
def takeE (gs : List Int) (ms : List Msg) (i : Int) : Int := if inR ms i = true then (if oneG gs (atM ms i) = true then 0 else 20) else 9
def takeL (gs : List Int) (ms : List Msg) (i : Int) : List Msg := if inR ms i = true then (if oneG gs (atM ms i) = true then ms.eraseIdx i.toNat else ms) else ms
def takeM (gs : List Int) (ms : List Msg) (i : Int) : Msg := if inR ms i = true then (if oneG gs (atM ms i) = true then atM ms i else zeroM) else zeroM
def partE (gs xs : List Int) : Int := if xs.length = gs.length then 0 else 1
def partG (gs xs : List Int) : List Int := if xs.length = gs.length then xs else gs
/-- Messages that were sent: their ends are nodes, they are not too long, and there are not too many. -/
structure NetOk (gs : List Int) (ms : List Msg) : Prop where
  nodes : gs.length ≤ 1000000
  many : ms.length ≤ 1000
  ends : ∀ m ∈ ms, 0 ≤ m.frm ∧ m.frm < (gs.length : Int) ∧ 0 ≤ m.to_ ∧ m.to_ < (gs.length : Int) ∧ m.b.length ≤ 65536
theorem inR_iff {α : Type} {ms : List α} {i : Int} : inR ms i = true ↔ 0 ≤ i ∧ i < (ms.length : Int) := by unfold inR; rw [decide_eq_true_iff]
theorem inR_get {ms : List Msg} {i : Int} (h : inR ms i = true) : ∃ k : Nat, i = (k : Int) ∧ k < ms.length ∧ ms[k]? = some (atM ms i) := by
  obtain ⟨h0, h1⟩ := inR_iff.1 h
  refine ⟨i.toNat, by omega, by omega, ?_⟩
  unfold atM
  rw [List.getElem?_eq_getElem (show i.toNat < ms.length by omega)]
  rfl
theorem NetOk.sub {gs : List Int} {ms ms' : List Msg} (h : NetOk gs ms) (hl : ms'.length ≤ 1000) (hm : ∀ m ∈ ms', m ∈ ms) : NetOk gs ms' := ⟨h.nodes, hl, fun m hm' => h.ends m (hm m hm')⟩
theorem sendOk_iff {gs : List Int} {m : Msg} : Old.sendOk gs m = true ↔ 0 ≤ m.frm ∧ m.frm < (gs.length : Int) ∧ 0 ≤ m.to_ ∧ m.to_ < (gs.length : Int) ∧ m.b.length ≤ 65536 := by
  unfold Old.sendOk Old.atOk
  simp only [Bool.and_eq_true, decide_eq_true_iff]
  constructor
  · rintro ⟨⟨⟨a, b⟩, c, d⟩, e⟩; exact ⟨a, b, c, d, e⟩
  · rintro ⟨a, b, c, d, e⟩; exact ⟨⟨⟨a, b⟩, c, d⟩, e⟩
theorem NetOk.send {gs : List Int} {ms : List Msg} (h : NetOk gs ms) (m : Msg) : NetOk gs (sendL gs ms m) := by
  unfold sendL
  split
  · rename_i hs
    split
    · exact h
    · refine ⟨h.nodes, by rw [List.length_append, List.length_singleton]; omega, fun x hx => ?_⟩
      rcases List.mem_append.1 hx with hx | hx
      · exact h.ends x hx
      · rw [List.mem_singleton.1 hx]; exact sendOk_iff.1 hs
  · exact h
theorem atM_mem {ms : List Msg} {i : Int} (h : inR ms i = true) : atM ms i ∈ ms := by
  obtain ⟨k, rfl, hk, hg⟩ := inR_get h
  exact List.mem_of_getElem? hg
theorem NetOk.copy {gs : List Int} {ms : List Msg} (h : NetOk gs ms) (i : Int) : NetOk gs (copyL ms i) := by
  unfold copyL
  split
  · rename_i hs
    split
    · exact h
    · obtain ⟨k, rfl, hk, hg⟩ := inR_get hs
      rw [Int.toNat_natCast, hg]
      refine ⟨h.nodes, by rw [List.length_append]; simp; omega, fun x hx => ?_⟩
      rcases List.mem_append.1 hx with hx | hx
      · exact h.ends x hx
      · simp at hx
        rw [hx]
        exact h.ends _ (atM_mem hs)
  · exact h
theorem NetOk.erase {gs : List Int} {ms : List Msg} (h : NetOk gs ms) (i : Nat) : NetOk gs (ms.eraseIdx i) :=
  h.sub (Nat.le_trans (List.length_eraseIdx_le _ _) h.many) (fun m hm => List.mem_of_mem_eraseIdx hm)
theorem NetOk.drop {gs : List Int} {ms : List Msg} (h : NetOk gs ms) (i : Int) : NetOk gs (dropL ms i) := by
  unfold dropL
  split
  · exact h.erase _
  · exact h
theorem NetOk.take {gs : List Int} {ms : List Msg} (h : NetOk gs ms) (i : Int) : NetOk gs (takeL gs ms i) := by
  unfold takeL
  split
  · split
    · exact h.erase _
    · exact h
  · exact h
theorem NetOk.part {gs xs : List Int} {ms : List Msg} (h : NetOk gs ms) : NetOk (partG gs xs) ms := by
  unfold partG
  split
  · rename_i hl; exact ⟨by rw [hl]; exact h.nodes, h.many, fun m hm => by rw [hl]; exact h.ends m hm⟩
  · exact h

/-! ### the contracts -/
theorem nSend (p : Nat) (gs : List Int) (ms : List Msg) (m : Msg) (A : Option Addr) (c : Nat) (hok : NetOk gs ms) (w : World) {F : List Hp} (H : Holds w (netH p gs ms :: F)) (hR : Rd (Kd.int .u8) F A m.b.length m.b) :
    Calls Try.prog 12 #[.pointer (some ⟨p, 0, none⟩), .agg #[.int .i64 m.frm, .int .i64 m.to_, .slice A m.b.length c]] w fun e w' => e = .returned (.int .i64 (sendE gs ms m)) ∧ Holds w' (netH p gs (sendL gs ms m) :: F) ∧ Calm w w' := by
  obtain ⟨gb, lv, bl, hN, hback, _⟩ := H.netOpen
  refine (Old.Send_all p gb lv gs ms bl m A c w hN hok.nodes (by have := hok.many; omega) (hR w H.drop)).mono ?_
  rintro e w' ⟨h1, h2, h3⟩
  unfold sendE sendL
  by_cases hs : Old.sendOk gs m = true
  · rw [if_pos hs, if_pos hs]
    by_cases hf : 1000 ≤ ms.length
    · rw [if_pos hf, if_pos hf]
      obtain ⟨he, hb⟩ := h2 hs hf
      exact ⟨he, H.below hb, Calm.of_below hb⟩
    · rw [if_neg hf, if_neg hf]
      obtain ⟨lv', k, he, hN', hk, hat, hle⟩ := h3 hs (by omega)
      exact ⟨he, hback w' lv' gs (ms ++ [m]) (bl ++ [k]) hN' hk hat (fun x hx => by
        rcases List.mem_append.1 hx with h | h
        · exact .inl h
        · rw [List.mem_singleton.1 h]; exact .inr hle), Calm.kept hk⟩
  · rw [if_neg hs, if_neg hs]
    obtain ⟨he, hb⟩ := h1 (by simpa using hs)
    exact ⟨he, H.below hb, Calm.of_below hb⟩
theorem nLen (p : Nat) (gs : List Int) (ms : List Msg) (w : World) {F : List Hp} (H : Holds w (netH p gs ms :: F)) :
    Calls Try.prog 23 #[.pointer (some ⟨p, 0, none⟩)] w fun e w' => e = .returned (.int .i64 (ms.length : Int)) ∧ Holds w' (netH p gs ms :: F) ∧ Calm w w' := by
  obtain ⟨gb, lv, bl, hN, _⟩ := H.netOpen
  refine (Old.Len_calls p gb lv gs ms bl w hN).mono ?_
  rintro e w' ⟨he, hb⟩
  exact ⟨he, H.below hb, Calm.of_below hb⟩
theorem nCopy (p : Nat) (gs : List Int) (ms : List Msg) (i : Int) (hok : NetOk gs ms) (w : World) {F : List Hp} (H : Holds w (netH p gs ms :: F)) :
    Calls Try.prog 17 #[.pointer (some ⟨p, 0, none⟩), .int .i64 i] w fun e w' => e = .returned (.int .i64 (copyE ms i)) ∧ Holds w' (netH p gs (copyL ms i) :: F) ∧ Calm w w' := by
  obtain ⟨gb, lv, bl, hN, hback, _⟩ := H.netOpen
  have hm1000 := hok.many
  unfold copyE copyL
  by_cases hs : inR ms i = true
  · rw [if_pos hs, if_pos hs]
    obtain ⟨k, rfl, hk, hg⟩ := inR_get hs
    by_cases hf : 1000 ≤ ms.length
    · rw [if_pos hf, if_pos hf]
      refine (Old.Copy_full p gb lv gs ms bl k w hN hf (by omega) hk).mono ?_
      rintro e w' ⟨he, hb⟩
      exact ⟨he, H.below hb, Calm.of_below hb⟩
    · rw [if_neg hf, if_neg hf, Int.toNat_natCast, hg]
      refine (Old.Copy_ok p gb lv gs ms bl k _ w hN (by omega) hg (by have := (hok.ends _ (atM_mem hs)).2.2.2.2; omega)).mono ?_
      rintro e w' ⟨lv', k', he, hN', hk', hat, hle⟩
      exact ⟨he, hback w' lv' gs _ (bl ++ [k']) hN' hk' hat (fun x hx => by
        rcases List.mem_append.1 hx with h | h
        · exact .inl h
        · rw [List.mem_singleton.1 h]; exact .inr hle), Calm.kept hk'⟩
  · rw [if_neg hs, if_neg hs]
    refine (Old.Copy_none p gb lv gs ms bl i w hN (by omega) (by rw [inR_iff] at hs; omega)).mono ?_
    rintro e w' ⟨he, hb⟩
    exact ⟨he, H.below hb, Calm.of_below hb⟩
theorem nDrop (p : Nat) (gs : List Int) (ms : List Msg) (i : Int) (hok : NetOk gs ms) (w : World) {F : List Hp} (H : Holds w (netH p gs ms :: F)) :
    Calls Try.prog 19 #[.pointer (some ⟨p, 0, none⟩), .int .i64 i] w fun e w' => e = .returned (.int .i64 (dropE ms i)) ∧ Holds w' (netH p gs (dropL ms i) :: F) ∧ Calm w w' := by
  obtain ⟨gb, lv, bl, hN, hback, _⟩ := H.netOpen
  have hm1000 := hok.many
  unfold dropE dropL
  by_cases hs : inR ms i = true
  · rw [if_pos hs, if_pos hs]
    obtain ⟨k, rfl, hk, hg⟩ := inR_get hs
    rw [Int.toNat_natCast]
    refine (Old.Drop_ok p gb lv gs ms bl k w hN (by omega) hk).mono ?_
    rintro e w' ⟨lv', he, hN', hk', hat⟩
    exact ⟨he, hback w' lv' gs _ _ hN' hk' (.inl hat) (fun x hx => .inl (List.mem_of_mem_eraseIdx hx)), Calm.kept hk'⟩
  · rw [if_neg hs, if_neg hs]
    refine (Old.Drop_none p gb lv gs ms bl i w hN (by omega) (by rw [inR_iff] at hs; omega)).mono ?_
    rintro e w' ⟨he, hb⟩
    exact ⟨he, H.below hb, Calm.of_below hb⟩
theorem Holds.blkRow {w : World} {g : Nat} {k : IntKind} {e : TypeId} {l : List Int} {F : List Hp} (h : Holds w (blkH g e (nums k l).toArray :: F)) (hl : l.length ≤ maxLen) : Holds w (rowH (Kd.int k) e (.slice (some ⟨g, 0, none⟩) l.length l.length) l :: F) :=
  h.imp (fun S a _ => Kd.R_of_own (enc := Value.int k) (Old.Blk.own (n := l.length) (size := 1) a.2 (by simp [nums]) hl) (fun b hb => by cases hb; exact a.1))
theorem nTake (p : Nat) (gs : List Int) (ms : List Msg) (i : Int) (hok : NetOk gs ms) (w : World) {F : List Hp} (H : Holds w (netH p gs ms :: F)) :
    Calls Try.prog 14 #[.pointer (some ⟨p, 0, none⟩), .int .i64 i] w fun e w' => ∃ A c, e = .returned (.tuple #[.agg #[.int .i64 (takeM gs ms i).frm, .int .i64 (takeM gs ms i).to_, .slice A (takeM gs ms i).b.length c], .int .i64 (takeE gs ms i)]) ∧ Holds w' (rowH (Kd.int .u8) 5 (.slice A (takeM gs ms i).b.length c) (takeM gs ms i).b :: netH p gs (takeL gs ms i) :: F) ∧ Calm w w' := by
  obtain ⟨gb, lv, bl, hN, hback, _, htake⟩ := H.netOpen
  have hm1000 := hok.many
  unfold takeE takeL takeM
  by_cases hs : inR ms i = true
  · rw [if_pos hs, if_pos hs, if_pos hs]
    obtain ⟨k, rfl, hk, hg⟩ := inR_get hs
    obtain ⟨e1, e2, e3, e4, e5⟩ := hok.ends _ (atM_mem hs)
    generalize atM ms (k : Int) = m at *
    obtain ⟨ka, hka⟩ : ∃ ka : Nat, m.frm = (ka : Int) := ⟨m.frm.toNat, by omega⟩
    obtain ⟨kb, hkb⟩ : ∃ kb : Nat, m.to_ = (kb : Int) := ⟨m.to_.toNat, by omega⟩
    have la : ka < gs.length := by omega
    have lb : kb < gs.length := by omega
    have hone : oneG gs m = decide (gs[ka] = gs[kb]) := by
      unfold oneG
      rw [hka, hkb, Int.toNat_natCast, Int.toNat_natCast, List.getElem?_eq_getElem la, List.getElem?_eq_getElem lb]
      rfl
    by_cases ho : gs[ka] = gs[kb]
    · have ho' : oneG gs m = true := by rw [hone]; exact decide_eq_true ho
      rw [if_pos ho', if_pos ho', if_pos ho', Int.toNat_natCast]
      refine (Old.Take_ok p gb lv gs ms bl k m ka kb w hN (by omega) hok.nodes hg hka hkb la lb ho).mono ?_
      rintro e w' ⟨lv', kk, hkk, he, hN', hk', hat⟩
      exact ⟨_, _, he, (htake w' lv' _ k kk m hg hkk hN' hk' hat rfl).blkRow (by unfold maxLen; omega), Calm.kept hk'⟩
    · have ho' : ¬ oneG gs m = true := by rw [hone, decide_eq_true_iff]; exact ho
      rw [if_neg ho', if_neg ho', if_neg ho']
      refine (Old.Take_state p gb lv gs ms bl k m ka kb w hN (by omega) hok.nodes hg hka hkb la lb ho).mono ?_
      rintro e w' ⟨he, hb⟩
      exact ⟨none, 0, he, (H.below hb).nilRow _ _, Calm.of_below hb⟩
  · rw [if_neg hs, if_neg hs, if_neg hs]
    refine (Old.Take_none p gb lv gs ms bl i w hN (by omega) (by rw [inR_iff] at hs; omega)).mono ?_
    rintro e w' ⟨he, hb⟩
    exact ⟨none, 0, he, (H.below hb).nilRow _ _, Calm.of_below hb⟩
theorem nPart (p : Nat) (gs xs : List Int) (ms : List Msg) (A : Option Addr) (c : Nat) (w : World) {F : List Hp} (H : Holds w (netH p gs ms :: F)) (hR : Rd (Kd.int .i64) F A xs.length xs) :
    Calls Try.prog 21 #[.pointer (some ⟨p, 0, none⟩), .slice A xs.length c] w fun e w' => e = .returned (.int .i64 (partE gs xs)) ∧ Holds w' (netH p (partG gs xs) ms :: F) ∧ Calm w w' := by
  obtain ⟨gb, lv, bl, hN, _, hpart, _⟩ := H.netOpen
  unfold partE partG
  by_cases hl : xs.length = gs.length
  · rw [if_pos hl, if_pos hl]
    refine (Old.Part_ok p gb lv gs xs ms bl A c w hN hl (hR w H.drop)).mono ?_
    rintro e w' ⟨he, hN', hk⟩
    exact ⟨he, hpart w' xs hN' hk, Calm.kept hk⟩
  · rw [if_neg hl, if_neg hl]
    refine (Old.Part_arg p gb lv gs ms bl A xs.length c w hN hl).mono ?_
    rintro e w' ⟨he, hb⟩
    exact ⟨he, H.below hb, Calm.of_below hb⟩
theorem nNew (n : Nat) (w : World) (hn : 1 ≤ n) (hn2 : n ≤ 16) {F : List Hp} (H : Holds w F) :
    Calls Try.prog 25 #[.int .i64 (n : Int)] w fun e w' => ∃ p, e = .returned (.tuple #[.pointer (some ⟨p, 0, none⟩), .int .i64 0]) ∧ Holds w' (netH p (List.replicate n 0) [] :: F) ∧ Calm w w' := by
  refine (Old.New_ok n w hn hn2).mono ?_
  rintro e w' ⟨p, gb, he, hN, hb, hp, hg⟩
  refine ⟨p, he, H.new hb (S := fun k => w.heap.size ≤ k) ⟨gb, _, _, hN, hp, hg, (fun k hk => by cases hk), (fun k hk => by simp at hk)⟩ (fun k hk => hk), Calm.of_below hb⟩
theorem NetOk.new (n : Nat) (h : n ≤ 16) : NetOk (List.replicate n 0) [] := ⟨by simp; omega, by simp, fun m hm => by simp at hm⟩
end Go.Proofs.Ythoajajgbafngaa
