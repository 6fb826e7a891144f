/- A row of values whose inner rows are read only. -/
import Derived.Test.YthkmfmcofkcjeaaWireRound
import Derived.Test.YthkmfmcofkcjeaaWirePrefix
import Derived.Test.YthkmfmcofkcjeaaSep6
import Derived.Test.YthkmfmcofkcjeaaWApart
namespace Go.Proofs.Ythkmfmcofkcjeaa
set_option linter.unusedVariables false
set_option linter.unusedSimpArgs false
open Go.RowKit Go.Shelf Go.Proofs.YthkmfmcofkcjeaaW.PrintWords Go.Proofs.YthkmfmcofkcjeaaW.PrintLast Go.Proofs.YthkmfmcofkcjeaaW.PrintMore

/-- A value that was read, and where its rows are. -/
structure GV where
  v : Val
  A1 : Option Addr
  c1 : Nat
  A2 : Option Addr
  c2 : Nat
def GV.cells (g : GV) : List Value := valCells g.v.kind g.v.u g.v.n (.slice g.A1 g.v.b.length g.c1) (.slice g.A2 g.v.l.length g.c2)
def gvK : Kd GV := Kd.iso (Kd.raw 5) GV.cells
def viewsH : List GV → Hp
  | [] => empH
  | g :: gs => sepL [viewH .u8 g.A1 g.v.b, viewH .i64 g.A2 g.v.l, viewsH gs]
section
variable {w : World} {F : List Hp} {g : GV} {gs : List GV}
theorem Holds.viewsNil (h : Holds w F) : Holds w (viewsH [] :: F) := h.emp
theorem Holds.viewsCons (h : Holds w (viewH .u8 g.A1 g.v.b :: viewH .i64 g.A2 g.v.l :: viewsH gs :: F)) : Holds w (viewsH (g :: gs) :: F) := Holds.group h
theorem Holds.viewsUncons (h : Holds w (viewsH (g :: gs) :: F)) : Holds w (viewH .u8 g.A1 g.v.b :: viewH .i64 g.A2 g.v.l :: viewsH gs :: F) := Holds.parts (l := [_, _, _]) h
theorem Holds.viewsSnoc : ∀ {gs : List GV} {F : List Hp}, Holds w (viewH .u8 g.A1 g.v.b :: viewH .i64 g.A2 g.v.l :: viewsH gs :: F) → Holds w (viewsH (gs ++ [g]) :: F)
  | [], F, h => Holds.viewsCons h
  | a :: gs, F, h => by
    have h1 := (h.f3).viewsUncons
    have h2 : Holds w (viewH .u8 g.A1 g.v.b :: viewH .i64 g.A2 g.v.l :: viewsH gs :: viewH .u8 a.A1 a.v.b :: viewH .i64 a.A2 a.v.l :: F) := (((h1.f5).f5).f5).b3
    have h3 := Holds.viewsSnoc h2
    exact Holds.viewsCons (h3.b3)
theorem Holds.viewsGet : ∀ {gs : List GV} {F : List Hp}, Holds w (viewsH gs :: F) → ∀ (i : Nat) (hi : i < gs.length), (Kd.int .u8).C w gs[i].A1 gs[i].v.b.length gs[i].v.b ∧ (Kd.int .i64).C w gs[i].A2 gs[i].v.l.length gs[i].v.l
  | [], F, h, i, hi => by simp at hi
  | a :: gs, F, h, 0, hi => ⟨h.viewsUncons.viewC, h.viewsUncons.drop.viewC⟩
  | a :: gs, F, h, i + 1, hi => by
    have := Holds.viewsGet (h.viewsUncons.drop.drop) i (by simpa using hi)
    simpa using this
theorem Holds.eltGV (h : Holds w F) (g : GV) : Holds w (eltH gvK g g.cells :: F) := h.emp.imp (fun S _ _ => by
  refine ⟨rfl, rfl, fun u hu => ?_⟩
  simp only [GV.cells, valCells, List.mem_cons, List.not_mem_nil, or_false] at hu
  rcases hu with rfl | rfl | rfl | rfl | rfl <;> rfl)
/-- The row and the rows inside are values. -/
theorem Holds.gotAt {A0 : Option Addr} {N c : Nat} {e : TypeId} (h : Holds w (rowH gvK e (.slice A0 N c) gs :: viewsH gs :: F)) (hle : ∀ g ∈ gs, g.v.b.length ≤ g.c1 ∧ g.v.l.length ≤ g.c2) : ValsAt [rowH gvK e (.slice A0 N c) gs, viewsH gs] A0 (gs.map GV.v) := by
  intro i hi
  have hil : i < gs.length := by simpa using hi
  have hform : ∀ W : World, Holds W [rowH gvK e (.slice A0 N c) gs, viewsH gs] → ∃ g, A0 = some ⟨g, 0, none⟩ ∧ ∀ j u, gs[i].cells[j]? = some u → W.cell? ⟨g, i * 5 + j, none⟩ = some u := by
    intro W hW
    obtain ⟨S, a, _⟩ := hW.get
    obtain ⟨g, cap, hv, _⟩ := Kd.R_form a (show 0 < gs.length by omega)
    cases hv
    refine ⟨g, rfl, fun j u hu => ?_⟩
    obtain ⟨ad, cs, he, hl, hK, hc⟩ := Kd.C_get (Kd.R_reads' a).2.2 gs[i] (i : Int) (by omega) (by omega)
    cases he
    rw [Int.toNat_natCast] at hK hc
    have hK' : cs = gs[i].cells := by
      have := hK.1
      rw [this]
      simp [List.getD_eq_getElem?_getD, hil]
    subst hK'
    have := hc j u hu
    rw [add_plain] at this
    exact this
  obtain ⟨g, rfl, _⟩ := hform w (h.sub (l := [_, _]))
  have hv : (gs.map GV.v)[i] = gs[i].v := by simp
  rw [hv]
  refine ⟨g, gs[i].A1, gs[i].c1, gs[i].A2, gs[i].c2, rfl, fun W hW => ?_, (hle _ (List.getElem_mem hil)).1, (hle _ (List.getElem_mem hil)).2, fun W hW => (hW.drop.viewsGet i hil).1, fun W hW => (hW.drop.viewsGet i hil).2⟩
  obtain ⟨g', he, hc⟩ := hform W hW
  cases he
  exact ⟨hc 0 _ rfl, hc 1 _ rfl, hc 2 _ rfl, hc 3 _ rfl, hc 4 _ rfl⟩
end
end Go.Proofs.Ythkmfmcofkcjeaa
