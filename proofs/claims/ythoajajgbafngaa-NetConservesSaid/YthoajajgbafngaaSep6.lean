/- Stores into a row of whole numbers. -/
import Derived.Test.YthoajajgbafngaaSep5
namespace Go.Proofs.Ythoajajgbafngaa
set_option linter.unusedVariables false
set_option linter.unusedSimpArgs false
open Go.RowKit Go.Shelf Go.Proofs.YthoajajgbafngaaW.PrintWords Go.Proofs.YthoajajgbafngaaW.PrintLast Go.Proofs.YthoajajgbafngaaW.PrintMore
section
variable {k : IntKind} {e : TypeId} {w : World} {v : Value} {xs : List Int} {F : List Hp} {g n c : Nat}
theorem Holds.rowForm (h : Holds w (rowH (Kd.int k) e v xs :: F)) (h0 : 0 < xs.length) : ∃ g c, v = .slice (some ⟨g, 0, none⟩) xs.length c ∧ g < w.heap.size := by
  obtain ⟨S, a, _⟩ := h.get
  obtain ⟨g, cap, hv, _, hlt, _⟩ := Kd.R_form a h0
  exact ⟨g, cap, hv, hlt⟩
theorem Holds.rowAddr {A : Option Addr} (h : Holds w (rowH (Kd.int k) e (.slice A n c) xs :: F)) (h0 : 0 < xs.length) : ∃ g, A = some ⟨g, 0, none⟩ ∧ g < w.heap.size := by
  obtain ⟨g, c', he, hlt⟩ := h.rowForm h0
  cases he
  exact ⟨g, rfl, hlt⟩
theorem Holds.rowCell (h : Holds w (rowH (Kd.int k) e (.slice (some ⟨g, 0, none⟩) n c) xs :: F)) (i : Nat) (hi : i < xs.length) : w.cell? ⟨g, i, none⟩ = some (.int k xs[i]) ∧ w.frozen? ⟨g, i, none⟩ = false := by
  have hn := h.row'.1
  obtain ⟨S, a, _⟩ := h.get
  have := Kd.R_celln (enc := Value.int k) (0 : Int) a (i : Int) (by omega) (by omega)
  rw [Int.toNat_natCast] at this
  refine ⟨?_, this.2⟩
  rw [this.1]
  simp [rdOf, List.getD_eq_getElem?_getD, hi]
theorem Holds.rowPut (h : Holds w (rowH (Kd.int k) e (.slice (some ⟨g, 0, none⟩) n c) xs :: F)) (i : Nat) (x : Int) : Holds (w.setCell ⟨g, i, none⟩ (.int k x)) (rowH (Kd.int k) e (.slice (some ⟨g, 0, none⟩) n c) (xs.set i x) :: F) := by
  refine h.change (fun S a _ => ⟨S, fun _ h => .inl h, ?_, fun b hb hn => Below.heap_setCell w ⟨g, i, none⟩ _ b (fun he => hn (a.1 b (by rw [he]; rfl)))⟩)
  have := Kd.R_putn (enc := Value.int k) a (i : Int) x
  rw [Int.toNat_natCast] at this
  exact this
end
end Go.Proofs.Ythoajajgbafngaa
