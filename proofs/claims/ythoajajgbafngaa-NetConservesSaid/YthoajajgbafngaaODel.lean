/- slices.Delete of one message out of a row of messages. -/
import Derived.Test.YthoajajgbafngaaONet
import Derived.Lib.SliceRun
import Derived.Shelf.RegionOpenPlain
namespace Go.Proofs.Ythoajajgbafngaa.Old
set_option linter.unusedVariables false
set_option linter.unusedSimpArgs false
open Go.RowKit Go.Shelf Go.Proofs.YthoajajgbafngaaW.PrintWords Go.Proofs.YthoajajgbafngaaW.PrintLast Go.Proofs.YthoajajgbafngaaW.PrintMore

/-- clear over one element of three cells. -/
theorem run_clear_msg (w : World) (ty : TypeId) (b o c : Nat) (hc : ∀ j, j < 3 → (w.cell? ⟨b, o + j, none⟩).isSome = true) (hf : ∀ j, j < 3 → w.frozen? ⟨b, o + j, none⟩ = false) :
    (Builtin.clear_ #[43] ty #[.slice (some ⟨b, o, none⟩) 1 c]).run Try.prog w = .ok (.tuple #[]) (w.setCells b o [.int .i64 0, .int .i64 0, .slice none 0 0]) := by
  have hst := run_storeCells_cells (P := Try.prog) b o [.int .i64 0, .int .i64 0, .slice none 0 0] 0 w (by simpa using hc) (by simpa using hf) (by simp [Value.oneCell'])
  simp only [Nat.add_zero] at hst
  have hi : ∃ i, Try.prog.info? 32 = some i ∧ i.zero = some (.agg #[.int .i64 0, .int .i64 0, .slice none 0 0]) := by
    have h := info_msg
    cases h' : Try.prog.info? 32 with
    | none => rw [h'] at h; simp at h
    | some i => rw [h'] at h; simp at h; exact ⟨i, rfl, h.1⟩
  obtain ⟨i, hi, hz⟩ := hi
  have hzc : (Builtin.zeroCells (Value.agg #[.int .i64 0, .int .i64 0, .slice none 0 0]).cells 1).toList = [.int .i64 0, .int .i64 0, .slice none 0 0] := by
    kernel_rfl
  simp [Builtin.clear_, run_underlying Try.underlying43, zeroValue, typeInfo, hi, hz, hzc, hst]

set_option maxRecDepth 100000 in
set_option maxHeartbeats 2000000 in
theorem Delete_calls (lv : Value) (n i j : Nat) (hj : j = i + 1) (xs : List Value) (w : World) (hrow : w.ownsRow 0 32 3 lv n xs) (hi : i < n) (hn : n ≤ 1000000) (h1 : ∀ u ∈ xs, u.oneCell' = true) :
    Calls Try.prog 33 #[lv, .int .i64 (i : Int), .int .i64 (j : Int)] w fun e w' => ∃ v', e = .returned v' ∧ w'.ownsRow 0 32 3 v' (n - 1) (xs.take (i * 3) ++ xs.drop (j * 3)) ∧ w.grownBy w' lv.ownBlock ∧ v'.ownBlock = lv.ownBlock := by
  obtain ⟨hlen, h | ⟨g, cap, cur, hv, _, hg, hnc, hcm, hcs, htake⟩⟩ := hrow
  · omega
  subst hv
  have hlt : i < j := by omega
  have hic : i ≤ cap := by omega
  have hjc : j ≤ cap := by omega
  have hjn : j ≤ n := by omega
  obtain ⟨i0, hi0, hz0, hz1, hz2⟩ := info_parts info_msg
  have hcm' : cap ≤ 9223372036854775807 := hcm
  obtain ⟨news, hnews⟩ : ∃ news, news = xs.drop (j * 3) := ⟨_, rfl⟩
  have hnl : news.length = (n - j) * 3 := by rw [hnews, List.length_drop, hlen]; omega
  have hcell : ∀ j, w.cell? ⟨g, j, none⟩ = cur[j]? := fun j => cell_of_row w g j cur _ (0, 0) hg
  have hfro : ∀ (W : World) j, (∃ c, W.heap[g]? = some (.cells c 32 (0, 0))) → W.frozen? ⟨g, j, none⟩ = false := fun W j ⟨c, h⟩ => frozen_of_row W g j c _ h
  obtain ⟨A, hA, hsrc⟩ : ∃ A : Addr, (if cap = j then (⟨g, 0, none⟩ : Addr) else ⟨g, j * 3, none⟩) = A ∧ Hid (∀ t u, news[t]? = some u → w.drew.cell? (A.add t) = some u) := by
    by_cases h : cap = j
    · refine ⟨_, rfl, fun t u hu => ?_⟩
      have h0 : news.length = 0 := by rw [hnl]; omega
      rw [List.length_eq_zero_iff.1 h0] at hu
      simp at hu
    · refine ⟨_, rfl, fun t u hu => ?_⟩
      rw [if_neg h]
      show w.cell? (Addr.add ⟨g, j * 3, none⟩ t) = some u
      rw [Addr.add_lit, hcell]
      rw [hnews, ← htake, List.getElem?_drop, List.getElem?_take] at hu
      split at hu
      · simpa using hu
      · cases hu
  have s1 : Hid (news.length = (n - j) * 3) := hnl
  have s2 : Hid (∀ u ∈ news, u.oneCell' = true) := fun u hu => h1 u (by rw [hnews] at hu; exact List.mem_of_mem_drop hu)
  have s3 : Hid (∀ t, t < news.length → (w.drew.cell? ⟨g, 0 + i * 3 + t, none⟩).isSome = true ∧ w.drew.frozen? ⟨g, 0 + i * 3 + t, none⟩ = false) := by
    intro t ht
    refine ⟨?_, hfro _ _ ⟨cur, hg⟩⟩
    show (w.cell? _).isSome = true
    rw [hcell, Array.getElem?_eq_getElem (by rw [hcs]; omega)]
    rfl
  obtain ⟨W1, hW1⟩ : ∃ W1, W1 = w.drew.setCells g (0 + i * 3) news := ⟨_, rfl⟩
  obtain ⟨cur1, hg1, hcs1, hcl1⟩ := setCells_row news (0 + i * 3) w.drew cur hg (by rw [hcs, hnl]; omega)
  rw [← hW1] at hg1
  obtain ⟨cur2, hg2, hcs2, hcl2⟩ := setCells_row [.int .i64 0, .int .i64 0, .slice none 0 0] ((n - 1) * 3) W1 cur1 hg1 (by rw [hcs1, hcs]; simp; omega)
  have hcl : ∀ ty c, (Builtin.clear_ #[43] ty #[.slice (some ⟨g, (n - 1) * 3, none⟩) 1 c]).run Try.prog W1 = .ok (.tuple #[]) (W1.setCells g ((n - 1) * 3) [.int .i64 0, .int .i64 0, .slice none 0 0]) := fun ty c => run_clear_msg W1 ty g _ _ (fun j hj => by rw [cell_of_row W1 g _ cur1 _ (0, 0) hg1, Array.getElem?_eq_getElem (by rw [hcs1, hcs]; omega)]; rfl) (fun j hj => hfro _ _ ⟨cur1, hg1⟩)
  have hW : Hid (W1 = w.drew.setCells g (0 + i * 3) news) := hW1
  have hres : Hid ((W1.setCells g ((n - 1) * 3) [.int .i64 0, .int .i64 0, .slice none 0 0]).ownsRow 0 32 3 (.slice (some ⟨g, 0, none⟩) (n - 1) cap) (n - 1) (xs.take (i * 3) ++ xs.drop (j * 3))) := by
    refine ⟨by simp only [List.length_append, List.length_take, List.length_drop, hlen]; omega, .inr ⟨g, cap, cur2, rfl, Nat.zero_le _, hg2, by omega, hcm, by rw [hcs2, hcs1, hcs], ?_⟩⟩
    have e0 : cur.toList.take (i * 3) = xs.take (i * 3) := by rw [← htake, List.take_take]; congr 1; omega
    rw [hcl2, hcl1, Nat.zero_add, e0, ← hnews]
    have l1 : (xs.take (i * 3)).length = i * 3 := by rw [List.length_take, hlen]; omega
    have l2 : (xs.take (i * 3) ++ news).length = (n - 1) * 3 := by rw [List.length_append, l1, hnl]; omega
    have e1 : ∀ (a b c d : List Value) (k : Nat), a.length = k → ((a ++ b).take k ++ c ++ d).take k = a := by
      intro a b c d k hk
      subst hk
      simp
    exact e1 _ _ _ _ _ l2
  have hgrow : Hid (w.grownBy (W1.setCells g ((n - 1) * 3) [.int .i64 0, .int .i64 0, .slice none 0 0]) (some g)) := by
    obtain ⟨a1, a2, a3, a4⟩ := setCells_same g [.int .i64 0, .int .i64 0, .slice none 0 0] ((n - 1) * 3) W1
    obtain ⟨b1, b2, b3, b4⟩ := setCells_same g news (0 + i * 3) w.drew
    rw [← hW1] at b1 b2 b3 b4
    refine ⟨a1.trans b1, a2.trans b2, a3.trans b3, by rw [a4, b4]; exact Nat.le_refl _, fun k _ hk => ?_⟩
    have hk' : k ≠ g := fun e => hk (by rw [e])
    rw [setCells_far _ _ _ hk', hW1, setCells_far _ _ _ hk']
    rfl
  have Hj := Lib.hid hj
  clear hj
  clear hW1 hg1 hcs1 hcl1 hg2 hcs2 hcl2 hcell hfro htake hcs hg hnews hnl hlen
  go_enter Try.func33, Try.ntmps33
  go_wp2_with fail
  go_region_law (refine step_append_room rfl (.tmp 22) (.tmp 25) 43 rfl 32 i0 3 Try.underlying43 hi0 hz1 g 0 i cap (by simp [Act.eval, Act.put]) A (n - j) (cap - j) news (by simp [Act.eval, Act.put]; rw [← hA]; split <;> rfl) s1.out hsrc.out s2.out (by omega) s3.out ?_; rw [← hW.out])
  clear hW hsrc s1 s2 s3 hA
  have hcl' : ∀ ty c, (Builtin.clear_ #[43] ty #[.slice (some ⟨g, (i + (n - j)) * 3, none⟩) (n - (i + (n - j))) c]).run Try.prog W1 = .ok (.tuple #[]) (W1.setCells g ((n - 1) * 3) [.int .i64 0, .int .i64 0, .slice none 0 0]) := by
    have e1 : (n - 1) * 3 = (i + (n - j)) * 3 := by have := Hj.out; omega
    have e2 : 1 = n - (i + (n - j)) := by have := Hj.out; omega
    rw [← e1, ← e2]
    exact hcl
  have hR : Hid ((W1.setCells g ((n - 1) * 3) [.int .i64 0, .int .i64 0, .slice none 0 0]).ownsRow 0 32 3 (.slice (some ⟨g, 0, none⟩) (i + (n - j)) cap) (n - 1) (xs.take (i * 3) ++ xs.drop (j * 3))) := by
    have e1 : i + (n - j) = n - 1 := by have := Hj.out; omega
    rw [e1]
    exact hres
  clear hcl hres
  go_wp2
  all_goals
    go_ret
    refine ⟨_, rfl, ?_, hgrow.out, rfl⟩
    first
      | exact hR.out
      | (rename_i h; subst h; exact hR.out)
end Go.Proofs.Ythoajajgbafngaa.Old
