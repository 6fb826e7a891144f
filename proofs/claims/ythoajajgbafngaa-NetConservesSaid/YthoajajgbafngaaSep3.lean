/- Rows that are read only; rows whose cells are known by name; elements of several cells. -/
import Derived.Test.YthoajajgbafngaaSep2
namespace Go.Proofs.Ythoajajgbafngaa
set_option linter.unusedVariables false
set_option linter.unusedSimpArgs false
open Go.RowKit Go.Shelf Go.Proofs.YthoajajgbafngaaW.PrintWords Go.Proofs.YthoajajgbafngaaW.PrintLast Go.Proofs.YthoajajgbafngaaW.PrintMore

/-- A part of a row of whole numbers, to be read. -/
def viewH (k : IntKind) (A : Option Addr) (xs : List Int) : Hp where
  H w S := (Kd.int k).C w A xs.length xs ∧ ∀ ad, A = some ad → 0 < xs.length → S ad.block
  mono := fun hS h => ⟨h.1, fun ad e h0 => hS _ (h.2 ad e h0)⟩
  bound := fun {w S} h => ⟨h.1, fun ad e h0 => ⟨h.2 ad e h0, by
    obtain ⟨ad', e', hc⟩ := (Kd.reads_of_C (d := (0 : Int)) (h1 := fun _ => rfl) h.1).2.2 h0
    rw [e] at e'
    cases e'
    have := World.block_lt_of_cell? w _ (hc 0 h0)
    rwa [add_block] at this⟩⟩
  move := fun {w w' S} hm h => ⟨Kd.C_of_reads (d := (0 : Int)) (h1 := fun _ => rfl) (by
    have h1 := Kd.reads_of_C (d := (0 : Int)) (h1 := fun _ => rfl) h.1
    refine ⟨h1.1, h1.2.1, fun h0 => ?_⟩
    obtain ⟨ad, e, hc⟩ := h1.2.2 h0
    refine ⟨ad, e, fun j hj => ?_⟩
    exact (World.cell?_of_block (w := w) (hm _ (by rw [add_block]; exact h.2 ad e h0))).trans (hc j hj)), h.2⟩
section
variable {k : IntKind} {e : TypeId} {w : World} {A : Option Addr} {n c : Nat} {xs : List Int} {F : List Hp}
theorem Holds.view (h : Holds w (rowH (Kd.int k) e (.slice A n c) xs :: F)) : Holds w (viewH k A xs :: F) := by
  have hr := h.row'
  exact h.imp (fun S a _ => ⟨hr.2.2, fun ad e _ => a.1 _ (by rw [e]; rfl)⟩)
theorem Holds.viewC (h : Holds w (viewH k A xs :: F)) : (Kd.int k).C w A xs.length xs := by
  obtain ⟨S, a, _⟩ := h.get
  exact a.1
theorem Rd.view (F : List Hp) : Rd (Kd.int k) (viewH k A xs :: F) A xs.length xs := fun w hw => hw.viewC
theorem Rd.take (h : Rd (Kd.int k) F A xs.length xs) (m : Nat) (hm : m ≤ xs.length) : Rd (Kd.int k) F A m (xs.take m) := fun w hw => by
  exact Kd.C_of_reads (d := (0 : Int)) (h1 := fun _ => rfl) (ReadsInt.take_ (Kd.reads_of_C (d := (0 : Int)) (h1 := fun _ => rfl) (h w hw)) m hm)
theorem Rd.drop (h : Rd (Kd.int k) F A xs.length xs) (m : Nat) (hm : m ≤ xs.length) (hc : xs.length ≤ c) : Rd (Kd.int k) F (if c = m then A else A.map (·.add m)) (xs.length - m) (xs.drop m) := fun w hw => by
  exact Kd.C_of_reads (d := (0 : Int)) (h1 := fun _ => rfl) (ReadsInt.drop_ (Kd.reads_of_C (d := (0 : Int)) (h1 := fun _ => rfl) (h w hw)) m hm hc)
end

/-! ### a row whose cells have names -/
def pinH {α : Type} (d : Kd α) (e : TypeId) (v : Value) (xs : List α) (inner : List Value) : Hp where
  H w S := (∀ k, v.ownBlock = some k → S k) ∧ w.ownsRow 0 e d.sz v xs.length inner ∧ Reps (d.M w 0 (fun k => S k ∧ some k ≠ v.ownBlock)) d.sz xs inner
  mono := fun hS h => ⟨fun k hk => hS k (h.1 k hk), h.2.1, h.2.2.imp_ (fun _ _ hp => d.M_mono (fun k hk => ⟨hS k hk.1, hk.2⟩) hp)⟩
  bound := fun {w S} h => ⟨fun k hk => ⟨h.1 k hk, own_lt h.2.1 k hk⟩, h.2.1, h.2.2.imp_ (fun _ _ hp => d.M_mono (fun k hk => ⟨⟨hk.1.1, hk.2.2.1⟩, hk.1.2⟩) (d.M_bound hp))⟩
  move := fun hm h => ⟨h.1, own_move h.2.1 (fun k hk => hm k (h.1 k hk)), h.2.2.imp_ (fun _ _ hp => d.M_move (fun k hk => hm k hk.1) hp)⟩
/-- What an element's cells say, read of F alone. -/
def RdK {α : Type} (d : Kd α) (F : List Hp) (x : α) (cs : List Value) : Prop := ∀ w, Holds w F → d.K w x cs
section
variable {α β : Type} {d : Kd α} {d' : Kd β} {e : TypeId} {w : World} {v : Value} {xs : List α} {inner cs c0 c1 : List Value} {x : α} {y : β} {F : List Hp} {g n c : Nat} {A : Option Addr}
theorem Holds.pin (h : Holds w (rowH d e v xs :: F)) : ∃ inner, Holds w (pinH d e v xs inner :: F) := by
  have h' : Holds w (exH (fun inner => pinH d e v xs inner) :: F) := h.imp (fun S a _ => by
    obtain ⟨h0, inner, ho, hr⟩ := a
    exact ⟨inner, h0, ho, hr⟩)
  exact h'.ex
theorem Holds.unpin (h : Holds w (pinH d e v xs inner :: F)) : Holds w (rowH d e v xs :: F) := h.imp (fun S a _ => ⟨a.1, inner, a.2.1, a.2.2⟩)
theorem Holds.pinOwn (h : Holds w (pinH d e v xs inner :: F)) : w.ownsRow 0 e d.sz v xs.length inner := by
  obtain ⟨S, a, _⟩ := h.get
  exact a.2.1
theorem Holds.pinLen (h : Holds w (pinH d e v xs inner :: F)) : inner.length = xs.length * d.sz := h.pinOwn.1
theorem Holds.pinForm (h : Holds w (pinH d e v xs inner :: F)) (h0 : 0 < xs.length) : ∃ g cap, v = .slice (some ⟨g, 0, none⟩) xs.length cap ∧ xs.length ≤ cap := by
  rcases h.pinOwn.2 with ⟨_, h1⟩ | ⟨g, cap, cur, hv, _, _, hn, _⟩
  · omega
  · exact ⟨g, cap, hv, hn⟩
theorem Holds.pinCell (h : Holds w (pinH d e (.slice (some ⟨g, 0, none⟩) n c) xs inner :: F)) (j : Nat) (hj : j < xs.length * d.sz) : w.cell? ⟨g, j, none⟩ = inner[j]? := by
  have h1 := h.pinOwn
  obtain ⟨A, c', hv⟩ := own_slice h1
  cases hv
  exact h1.cellAt j hj
theorem RdK.pin {i : Nat} (h : xs[i]? = some x) : RdK d (pinH d e v xs inner :: F) x ((inner.drop (i * d.sz)).take d.sz) := fun w hw => by
  obtain ⟨S, a, _⟩ := hw.get
  exact d.K_of_M (a.2.2.2 i x h)
theorem RdK.cons (h : RdK d F x cs) (B : Hp) : RdK d (B :: F) x cs := fun w hw => h w hw.drop
theorem RdK.perm {G : List Hp} (h : RdK d F x cs) (p : G.Perm F) : RdK d G x cs := fun w hw => h w (hw.perm p)
theorem RdK.fst {p : α × β} (h : RdK (Kd.pair d d') F p cs) : RdK d F p.1 (cs.take d.sz) := fun w hw => by
  obtain ⟨c0, c1, rfl, h0, h1⟩ := h w hw
  rw [← d.K_len h0, List.take_left]
  exact h0
theorem RdK.snd {p : α × β} (h : RdK (Kd.pair d d') F p cs) : RdK d' F p.2 (cs.drop d.sz) := fun w hw => by
  obtain ⟨c0, c1, rfl, h0, h1⟩ := h w hw
  rw [← d.K_len h0, List.drop_left]
  exact h1
theorem RdK.len (h : RdK d F x cs) (hw : Holds w F) : cs.length = d.sz := d.K_len (h w hw)
theorem RdK.one {enc : α → Value} {h1 : ∀ x, (enc x).oneCell' = true} (h : RdK (Kd.scalar enc h1) F x cs) (hw : Holds w F) : cs = [enc x] := h w hw
theorem RdK.slice_ (h : RdK (Kd.slice e d) F xs [v]) (hw : Holds w F) : ∃ A c, v = .slice A xs.length c ∧ xs.length ≤ c ∧ Rd d F A xs.length xs := by
  obtain ⟨A, c, he, hl, hr⟩ := h w hw
  cases he
  refine ⟨A, c, rfl, hl, fun w' hw' => ?_⟩
  obtain ⟨A', c', he, _, hr'⟩ := h w' hw'
  cases he
  exact hr'
/-! making an element -/
theorem Holds.eltOne {enc : α → Value} {h1 : ∀ x, (enc x).oneCell' = true} (h : Holds w F) (x : α) : Holds w (eltH (Kd.scalar enc h1) x [enc x] :: F) := h.emp.imp (fun _ _ _ => rfl)
theorem Holds.eltRow (h : Holds w (rowH d e v xs :: F)) : Holds w (eltH (Kd.slice e d) xs [v] :: F) := h.imp (fun S a _ => ⟨v, rfl, a⟩)
theorem Holds.rowElt (h : Holds w (eltH (Kd.slice e d) xs [v] :: F)) : Holds w (rowH d e v xs :: F) := h.imp (fun S a _ => by
  obtain ⟨v', he, hr⟩ := a
  cases he
  exact hr)
theorem Holds.eltPair (h : Holds w (eltH d x c0 :: eltH d' y c1 :: F)) : Holds w (eltH (Kd.pair d d') (x, y) (c0 ++ c1) :: F) := by
  have h' : Holds w (sepL [eltH d x c0, eltH d' y c1] :: F) := Holds.group h
  refine h'.imp (fun S a _ => ?_)
  obtain ⟨S1, T, d1, h1, h2, a1, S2, T2, d2, h3, _, a2, _⟩ := a
  exact ⟨c0, c1, rfl, d.M_mono h1 a1, d'.M_mono (fun k hk => h2 k (h3 k hk)) a2⟩
end
end Go.Proofs.Ythoajajgbafngaa
