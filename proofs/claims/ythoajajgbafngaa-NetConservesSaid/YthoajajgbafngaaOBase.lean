/- Small lemmas, and the contracts of the reference model's small functions. -/
import Derived.WalkKit
import Derived.Deep.QuietTactic
import Derived.BigQuiet
import Derived.Lib.Hide
import Derived.Deep.DeepMust
import Derived.Deep.RegionHeld3
import Derived.Deep.RegionWith
import Derived.Deep.DrawnRows
import Derived.Maps.AppendAt
import Derived.Shelf.Abstract
import Derived.WalkSpells
import Derived.Test.YthoajajgbafngaaProg
import Derived.Test.YthoajajgbafngaaWMore
namespace Go.Proofs.Ythoajajgbafngaa.Old
set_option linter.unusedVariables false
set_option linter.unusedSimpArgs false
open Go.RowKit Go.Shelf Go.Proofs.YthoajajgbafngaaW.PrintWords Go.Proofs.YthoajajgbafngaaW.PrintLast Go.Proofs.YthoajajgbafngaaW.PrintMore
attribute [local go_sem] max2_int min2_int max_two min_two

def AllU8 (l : List Int) : Prop := ∀ x ∈ l, 0 ≤ x ∧ x < 256

theorem allU8_take {l : List Int} (hl : AllU8 l) (k : Nat) : AllU8 (l.take k) := fun x hx => hl x (List.mem_of_mem_take hx)

theorem allU8_drop {l : List Int} (hl : AllU8 l) (k : Nat) : AllU8 (l.drop k) := fun x hx => hl x (List.mem_of_mem_drop hx)

theorem getD_get (l : List Int) {i : Nat} (h : i < l.length) : l[i] = l[i]?.getD 0 := by simp [h]

/-- Element k of a row that is read. -/
theorem at_nat {k : IntKind} {w : World} {A : Option Addr} {n : Nat} {xs : List Int} (h : (Kd.int k).C w A n xs) {i : Nat} (hi : i < n) : ∃ ad, A = some ad ∧ w.cell? (ad.add i) = some (.int k (xs[i]?.getD 0)) := by
  obtain ⟨ad, e, hc⟩ := Kd.at_int h (i : Int) (by omega) (by omega)
  refine ⟨ad, e, ?_⟩
  simpa [rd, List.getD_eq_getElem?_getD] using hc

theorem kd_take {k : IntKind} {w : World} {A : Option Addr} {xs : List Int} (h : (Kd.int k).C w A xs.length xs) {m : Nat} (hm : m ≤ xs.length) : (Kd.int k).C w A m (xs.take m) := by
  exact Kd.C_of_reads (d := (0 : Int)) (h1 := fun _ => rfl) (ReadsInt.take_ (Kd.reads_of_C (d := (0 : Int)) (h1 := fun _ => rfl) h) m hm)

theorem wf_range {n : Int} (h : (Lit.int .i64 n).wf = true) : -9223372036854775808 ≤ n ∧ n ≤ 9223372036854775807 := by
  simp [Lit.wf, IntKind.min, IntKind.max, IntKind.bits, IntKind.signed] at h
  omega

theorem int_eq {k : IntKind} {a b : Int} (h : a = b) : Value.int k a = Value.int k b := by rw [h]

theorem ret_int {k : IntKind} {a b : Int} (h : a = b) : Ending.returned (.int k a) = .returned (.int k b) := by rw [h]

/-- What a row of the call's own that holds whole numbers is, for a reader. -/
theorem own_kd {w : World} {base n : Nat} {e : TypeId} {k : IntKind} {v : Value} {xs : List Int} (h : w.ownsRow base e 1 v n (nums k xs)) : ∃ A c, v = .slice A xs.length c ∧ xs.length ≤ c ∧ (Kd.int k).C w A xs.length xs := by
  have hn : n = xs.length := by have := h.1; simp [nums] at this; omega
  subst hn
  exact Kd.R_reads (Kd.R_of_own (ok := fun _ => True) (h1 := fun _ => rfl) h (fun _ _ => trivial))

theorem own_kd' {w : World} {base n : Nat} {e : TypeId} {k : IntKind} {A : Option Addr} {c : Nat} {xs : List Int} (h : w.ownsRow base e 1 (.slice A n c) n (nums k xs)) : n = xs.length ∧ n ≤ c ∧ (Kd.int k).C w A xs.length xs := by
  obtain ⟨A', c', he, hle, hC⟩ := own_kd h
  injection he with h1 h2 h3
  subst h1 h2 h3
  exact ⟨rfl, hle, hC⟩

theorem nums_one (k : IntKind) (x : Int) : nums k [x] = [.int k x] := rfl

theorem u8_of_wf {l : List Int} (h : ∀ x ∈ l, (Lit.int .u8 x).wf = true) : AllU8 l := by
  intro x hx
  have := h x hx
  simp [Lit.wf, IntKind.min, IntKind.max, IntKind.bits, IntKind.signed] at this
  omega

theorem byte_of_wf {b : Int} (h : (Lit.int .u8 b).wf = true) : 0 ≤ b ∧ b < 256 := by
  simp [Lit.wf, IntKind.min, IntKind.max, IntKind.bits, IntKind.signed] at h
  omega

/-- A slice of whole numbers that came in. -/
def IsRow (k : IntKind) (w : World) (a : Option Addr) (len cap : Nat) (zs : List Int) : Prop :=
  (a = none ∧ len = 0 ∧ cap = 0 ∧ zs = []) ∨
  ∃ x, a = some x ∧ len ≤ cap ∧ cap ≤ maxLen ∧ zs.length = cap ∧ (∀ i, i < zs.length → w.cell? (x.add i) = some (.int k (zs.getD i 0))) ∧ ∀ n ∈ zs, (Lit.int k n).wf = true

/-- What came in, for the contracts. -/
theorem row_in {k : IntKind} {w : World} {a : Option Addr} {len cap : Nat} {zs : List Int} (h : IsRow k w a len cap zs) : ∃ l : List Int, len = l.length ∧ l.length ≤ cap ∧ (Kd.int k).C w a l.length l ∧ ∀ x ∈ l, (Lit.int k x).wf = true := by
  obtain ⟨l, rfl, hr, _, hw, hc⟩ := ReadsInt.ofRowC h
  exact ⟨l, rfl, hc, Kd.C_of_reads (d := (0 : Int)) (h1 := fun _ => rfl) hr, hw⟩

theorem bthen {w w1 w2 : World} (h : Below w.heap.size w w1) (k : Below w1.heap.size w1 w2) : Below w.heap.size w w2 := h.trans (k.mono h.size)

/-- The first elements, under a name. -/
theorem take_name (l : List Int) (most : Int) : ∃ r, Hid (l.take most.toNat = r) ∧ r.length ≤ most.toNat ∧ r.length ≤ l.length ∧ (AllU8 l → AllU8 r) :=
  ⟨l.take most.toNat, rfl, by rw [List.length_take]; omega, by rw [List.length_take]; omega, fun h => allU8_take h _⟩

theorem beq_beq {α β : Type} [BEq α] [LawfulBEq α] [BEq β] [LawfulBEq β] {x y : α} {a b : β} (h : x = y ↔ a = b) : ((x == y) == (a == b)) = true := by
  have e : (x == y) = (a == b) := by rw [Bool.eq_iff_iff, beq_iff_eq, beq_iff_eq]; exact h
  rw [e]; simp

theorem bytesOf_u8 (s : ByteArray) : AllU8 (bytesOf s) := by
  intro x hx
  simp only [bytesOf, List.mem_map] at hx
  obtain ⟨b, _, rfl⟩ := hx
  have := b.toNat_lt
  exact ⟨by omega, by omega⟩

theorem bytesOf_nums {l : List Int} (h : AllU8 l) : bytesOf (strOfNums l) = l := by
  unfold bytesOf
  rw [strOfNums_data, List.map_map]
  conv => rhs; rw [← List.map_id l]
  apply List.map_congr_left
  intro x hx
  have := h x hx
  simp
  omega

theorem take_eq_succ {l1 l2 : List Int} {k : Nat} (h1 : k < l1.length) (h2 : k < l2.length) (h : l1.take k = l2.take k) (e : l1[k] = l2[k]) : l1.take (k + 1) = l2.take (k + 1) := by
  rw [List.take_succ_eq_append_getElem h1, List.take_succ_eq_append_getElem h2, h, e]

theorem allU8_set {l : List Int} (hl : AllU8 l) (k : Nat) {v : Int} (hv : 0 ≤ v ∧ v < 256) : AllU8 (l.set k v) := by
  intro x hx
  rcases List.mem_or_eq_of_mem_set hx with h | h
  · exact hl x h
  · rw [h]; exact hv

theorem info_int : (Try.prog.info? 3).map (fun i => (i.zero, i.size, i.bytes)) = some (some (.int .i64 0), 1, 8) := by kernel_rfl

theorem info_u8 : (Try.prog.info? 5).map (fun i => (i.zero, i.size, i.bytes)) = some (some (.int .u8 0), 1, 1) := by kernel_rfl

/-- What lay and is not in S lies as it lay. -/
structure Kept (S : Nat → Prop) (w w' : World) : Prop where
  os : w'.os = w.os
  tape : w'.tape = w.tape
  output : w'.output = w.output
  size : w.heap.size ≤ w'.heap.size
  block : ∀ k, k < w.heap.size → ¬ S k → w'.heap[k]? = w.heap[k]?
theorem Kept.refl (S : Nat → Prop) (w : World) : Kept S w w := ⟨rfl, rfl, rfl, Nat.le_refl _, fun _ _ _ => rfl⟩
theorem Kept.trans {S T : Nat → Prop} {a b c : World} (h : Kept S a b) (k : Kept T b c) (hT : ∀ i, T i → S i ∨ a.heap.size ≤ i) : Kept S a c :=
  ⟨k.os.trans h.os, k.tape.trans h.tape, k.output.trans h.output, Nat.le_trans h.size k.size, fun i hi hs => (k.block i (Nat.lt_of_lt_of_le hi h.size) (fun ht => by rcases hT i ht with h1 | h1; exact hs h1; omega)).trans (h.block i hi hs)⟩
theorem Kept.mono {S T : Nat → Prop} {a b : World} (h : Kept S a b) (hT : ∀ i, i < a.heap.size → S i → T i) : Kept T a b := ⟨h.os, h.tape, h.output, h.size, fun i hi ht => h.block i hi (fun hs => ht (hT i hi hs))⟩
theorem Kept.of_below {a b : World} (h : Below a.heap.size a b) (S : Nat → Prop) : Kept S a b := ⟨h.os, h.tape, h.output, h.size, fun i hi _ => h.block i hi⟩
theorem Kept.below {S : Nat → Prop} {a b : World} (h : Kept S a b) {B : Nat} (hB : B ≤ a.heap.size) (hS : ∀ k, S k → B ≤ k) : Below B a b :=
  ⟨h.os, h.tape, h.output, h.size, fun i hi => h.block i (Nat.lt_of_lt_of_le hi hB) (fun hs => by have := hS i hs; omega)⟩
theorem Kept.alloc {S : Nat → Prop} {a w : World} (h : Kept S a w) (o : Obj) : Kept S a (w.alloc o) :=
  ⟨h.os, h.tape, h.output, Nat.le_trans h.size (by simp), fun i hi hs => (Below.heap_alloc w o i (Nat.lt_of_lt_of_le hi h.size)).trans (h.block i hi hs)⟩
theorem Kept.drew {S : Nat → Prop} {a w : World} (h : Kept S a w) : Kept S a w.drew := ⟨h.os, h.tape, h.output, h.size, h.block⟩
theorem Kept.drewN {S : Nat → Prop} {a w : World} (h : Kept S a w) (n : Nat) : Kept S a (w.drewN n) := ⟨h.os, h.tape, h.output, h.size, h.block⟩
theorem Kept.setCell {S : Nat → Prop} {a w : World} (h : Kept S a w) {p : Addr} (hp : S p.block ∨ a.heap.size ≤ p.block) (u : Value) : Kept S a (w.setCell p u) :=
  ⟨h.os, h.tape, h.output, by simpa [World.setCell] using h.size, fun i hi hs => (Below.heap_setCell w p u i (by rintro rfl; rcases hp with hp | hp; exact hs hp; omega)).trans (h.block i hi hs)⟩
theorem Kept.grown {S : Nat → Prop} {a w w' : World} {row : Option Nat} (h : Kept S a w) (hg : w.grownBy w' row) (hr : ∀ k, row = some k → S k ∨ a.heap.size ≤ k) : Kept S a w' :=
  ⟨hg.os.trans h.os, hg.tape.trans h.tape, hg.output.trans h.output, Nat.le_trans h.size hg.size, fun i hi hs => (hg.block i (Nat.lt_of_lt_of_le hi h.size) (fun e => by rcases hr i e.symm with h1 | h1; exact hs h1; omega)).trans (h.block i hi hs)⟩
theorem Kept.cell {S : Nat → Prop} {w w' : World} (h : Kept S w w') {p : Addr} {v : Value} (hc : w.cell? p = some v) (hp : ¬ S p.block) : w'.cell? p = some v :=
  (World.cell?_of_block (w := w) (h.block p.block (World.block_lt_of_cell? w p hc) hp)).trans hc
theorem Kept.blk {S : Nat → Prop} {w w' : World} (h : Kept S w w') {k : Nat} {o : Obj} (hc : w.heap[k]? = some o) (hp : ¬ S k) : w'.heap[k]? = some o :=
  (h.block k (Array.getElem?_eq_some_iff.1 hc).1 hp).trans hc
theorem Kept.own {S : Nat → Prop} {w w' : World} (h : Kept S w w') {base : Nat} {e : TypeId} {size n : Nat} {v : Value} {xs : List Value} (ho : w.ownsRow base e size v n xs) (hp : ∀ k, v.ownBlock = some k → ¬ S k) : w'.ownsRow base e size v n xs :=
  own_move ho (fun k hk => h.block k (own_lt ho k hk) (hp k hk))
/-- The frame of one that changed nothing that lay. -/
theorem Kept.then_below {S : Nat → Prop} {a b c : World} (h : Kept S a b) (k : Below b.heap.size b c) : Kept S a c := h.trans (Kept.of_below k (fun _ => False)) (fun _ h => h.elim)

/-- Block g is just the cells cs of element type t. -/
def Blk (w : World) (g : Nat) (t : TypeId) (cs : Array Value) : Prop := w.heap[g]? = some (.cells cs t (0, 0))
theorem Blk.lt {w : World} {g : Nat} {t : TypeId} {cs : Array Value} (h : Blk w g t cs) : g < w.heap.size := (Array.getElem?_eq_some_iff.1 h).1
theorem Blk.cell {w : World} {g : Nat} {t : TypeId} {cs : Array Value} (h : Blk w g t cs) (i : Nat) : w.cell? ⟨g, i, none⟩ = cs[i]? := cell_of_row w g i cs t (0, 0) h
theorem Blk.frozen {w : World} {g : Nat} {t : TypeId} {cs : Array Value} (h : Blk w g t cs) (i : Nat) : w.frozen? ⟨g, i, none⟩ = false := blk_frozen h i
theorem Blk.new (w : World) (t : TypeId) (cs : Array Value) : Blk (w.alloc (.cells cs t)) w.heap.size t cs := heap_alloc_new w _
theorem Blk.alloc {w : World} {g : Nat} {t : TypeId} {cs : Array Value} (h : Blk w g t cs) (o : Obj) : Blk (w.alloc o) g t cs := (Below.heap_alloc w o g h.lt).trans h
theorem Blk.set_ {w : World} {g : Nat} {t : TypeId} {cs : Array Value} (h : Blk w g t cs) (i : Nat) (u : Value) : Blk (w.setCell ⟨g, i, none⟩ u) g t (cs.setIfInBounds i u) := blk_set h i u
theorem Blk.far {w : World} {g : Nat} {t : TypeId} {cs : Array Value} (h : Blk w g t cs) {p : Addr} (hp : g ≠ p.block) (u : Value) : Blk (w.setCell p u) g t cs := blk_far h hp u
theorem Blk.ne_ {w : World} {g g' : Nat} {t t' : TypeId} {cs cs' : Array Value} (h : Blk w g t cs) (h' : Blk w g' t' cs') (hne : t ≠ t') : g ≠ g' := blk_ne h h' hne
theorem Blk.kept {S : Nat → Prop} {w w' : World} {g : Nat} {t : TypeId} {cs : Array Value} (h : Blk w g t cs) (hk : Kept S w w') (hp : ¬ S g) : Blk w' g t cs := hk.blk h hp
theorem Blk.below {B : Nat} {w w' : World} {g : Nat} {t : TypeId} {cs : Array Value} (h : Blk w g t cs) (hb : Below B w w') (hg : g < B) : Blk w' g t cs := (hb.block g hg).trans h
theorem own_blk_ne {w : World} {base : Nat} {e t : TypeId} {size n g : Nat} {v : Value} {xs : List Value} {cs : Array Value} (h : w.ownsRow base e size v n xs) (hg : Blk w g t cs) (hne : e ≠ t) : v.ownBlock ≠ some g := fun he => by
  obtain ⟨cells, hc⟩ := own_typed h g he
  exact Blk.ne_ (t := e) hc hg hne rfl

/-- n modulo most, never negative. -/
def aroundI (n most : Int) : Int := (if n < 0 then -(n + 1) else n) % most

theorem aroundI_range (n : Int) {most : Int} (h : 1 ≤ most) : 0 ≤ aroundI n most ∧ aroundI n most < most :=
  ⟨Int.emod_nonneg _ (by omega), Int.emod_lt_of_pos _ (by omega)⟩

set_option maxRecDepth 100000 in
set_option maxHeartbeats 1000000 in
theorem Around_calls (n most : Int) (hn : (Lit.int .i64 n).wf = true) (hm : 1 ≤ most) (hm2 : most ≤ 9223372036854775807) (w : World) :
    Calls Try.prog 26 #[.int .i64 n, .int .i64 most] w fun e w' => e = .returned (.int .i64 (aroundI n most)) ∧ w = w' := by
  have hr := wf_range hn
  clear hn
  by_cases h : n < 0
  · have hT : aroundI n most = -((n + 1).tmod most) := by unfold aroundI; rw [if_pos h, ← Int.neg_tmod, Int.tmod_eq_emod_of_nonneg (by omega)]
    rw [hT]
    clear hT
    go_enter Try.func26, Try.ntmps26
    go_wp2
    go_ret
    exact ⟨rfl, rfl⟩
  · have hT : aroundI n most = n % most := by unfold aroundI; rw [if_neg h]
    rw [hT]
    clear hT
    go_enter Try.func26, Try.ntmps26
    go_wp2
    go_ret
    exact ⟨rfl, rfl⟩

theorem Around_at (n most : Int) (k : Nat) (hk : Hid (aroundI n most = (k : Int))) (hn : (Lit.int .i64 n).wf = true) (hm : 1 ≤ most) (hm2 : most ≤ 9223372036854775807) (w : World) :
    Calls Try.prog 26 #[.int .i64 n, .int .i64 most] w fun e w' => e = .returned (.int .i64 (k : Int)) ∧ w = w' := by
  rw [← hk.out]
  exact Around_calls n most hn hm hm2 w

theorem around_name (n : Int) (m : Nat) (hm : 1 ≤ m) : ∃ k : Nat, Hid (aroundI n (m : Int) = (k : Int)) ∧ k < m := by
  have h := aroundI_range n (show (1 : Int) ≤ (m : Int) by omega)
  exact ⟨(aroundI n m).toNat, show _ = _ by omega, by omega⟩

set_option maxRecDepth 100000 in
set_option maxHeartbeats 1000000 in
theorem Ints_calls (A : Option Addr) (c : Nat) (l : List Int) (most : Int) (h0 : 0 ≤ most) (hl : l.length * 8 ≤ 140737488351232) (w : World) (hC : (Kd.int .i64).C w A l.length l) (hc : l.length ≤ c) :
    Calls Try.prog 27 #[.slice A l.length c, .int .i64 most] w fun e w' => ∃ v, e = .returned v ∧ (Kd.int .i64).R 3 w' w.heap.size (fun _ => True) v (l.take most.toNat) ∧ Below w.heap.size w w' := by
  by_cases hm : most < (l.length : Int)
  · have hR := kd_take hC (show most.toNat ≤ l.length by omega)
    have hlen : (most.toNat : Nat) ≤ l.length := by omega
    go_enter Try.func27, Try.ntmps27
    go_wp2_with (at_builtin; refine Kd.R_append_rows (Kd.int .i64) (w0 := w) w.heap.size rfl _ _ 22 3 (.int .i64 0) 8 rfl Try.underlying22 info_int rfl (by decide) (by omega) (.slice none 0 0) [] (l.take most.toNat) _ _ _ (fun _ => True) (fun _ => False) rfl rfl (Kd.R_nil _ _ _ _ _) hR (fun _ _ h => h) (fun _ h => h.elim) (fun _ _ => trivial) (Below.refl _ _) (Nat.le_refl _) (by simp; omega) ?_; intro v1 w1 ho hb hg hat)
    go_ret
    exact ⟨_, rfl, ho, hb⟩
  · have hT : l.take most.toNat = l := List.take_of_length_le (by omega)
    rw [hT]
    clear hT
    go_enter Try.func27, Try.ntmps27
    go_wp2_with (at_builtin; refine Kd.R_append_rows (Kd.int .i64) (w0 := w) w.heap.size rfl _ _ 22 3 (.int .i64 0) 8 rfl Try.underlying22 info_int rfl (by decide) (by omega) (.slice none 0 0) [] l _ _ _ (fun _ => True) (fun _ => False) rfl rfl (Kd.R_nil _ _ _ _ _) hC (fun _ _ h => h) (fun _ h => h.elim) (fun _ _ => trivial) (Below.refl _ _) (Nat.le_refl _) (by simp; omega) ?_; intro v1 w1 ho hb hg hat)
    go_ret
    exact ⟨_, rfl, ho, hb⟩

theorem Ints_at (A : Option Addr) (c : Nat) (l : List Int) (most : Int) (r : List Int) (hr : Hid (l.take most.toNat = r)) (h0 : 0 ≤ most) (hl : l.length * 8 ≤ 140737488351232) (w : World) (hC : (Kd.int .i64).C w A l.length l) (hc : l.length ≤ c) :
    Calls Try.prog 27 #[.slice A l.length c, .int .i64 most] w fun e w' => ∃ A' c', e = .returned (.slice A' r.length c') ∧ r.length ≤ c' ∧ (Kd.int .i64).R 3 w' w.heap.size (fun _ => True) (.slice A' r.length c') r ∧ Below w.heap.size w w' := by
  have hr' := hr.out
  subst hr'
  refine (Ints_calls A c l most h0 hl w hC hc).mono ?_
  rintro e w' ⟨v, rfl, hR, hB⟩
  obtain ⟨A', c', rfl, h1, h2⟩ := Kd.R_reads hR
  exact ⟨A', c', rfl, h1, hR, hB⟩

set_option maxRecDepth 100000 in
set_option maxHeartbeats 1000000 in
theorem Few_calls (A : Option Addr) (c : Nat) (l : List Int) (most : Int) (h0 : 0 ≤ most) (hl : l.length ≤ 140737488351232) (w : World) (hC : (Kd.int .u8).C w A l.length l) (hc : l.length ≤ c) :
    Calls Try.prog 28 #[.slice A l.length c, .int .i64 most] w fun e w' => ∃ v, e = .returned v ∧ (Kd.int .u8).R 5 w' w.heap.size (fun _ => True) v (l.take most.toNat) ∧ Below w.heap.size w w' := by
  by_cases hm : most < (l.length : Int)
  · have hR := kd_take hC (show most.toNat ≤ l.length by omega)
    have hlen : (most.toNat : Nat) ≤ l.length := by omega
    go_enter Try.func28, Try.ntmps28
    go_wp2_with (at_builtin; refine Kd.R_append_rows (Kd.int .u8) (w0 := w) w.heap.size rfl _ _ 30 5 (.int .u8 0) 1 rfl Try.underlying30 info_u8 rfl (by decide) (by omega) (.slice none 0 0) [] (l.take most.toNat) _ _ _ (fun _ => True) (fun _ => False) rfl rfl (Kd.R_nil _ _ _ _ _) hR (fun _ _ h => h) (fun _ h => h.elim) (fun _ _ => trivial) (Below.refl _ _) (Nat.le_refl _) (by simp; omega) ?_; intro v1 w1 ho hb hg hat)
    go_ret
    exact ⟨_, rfl, ho, hb⟩
  · have hT : l.take most.toNat = l := List.take_of_length_le (by omega)
    rw [hT]
    clear hT
    go_enter Try.func28, Try.ntmps28
    go_wp2_with (at_builtin; refine Kd.R_append_rows (Kd.int .u8) (w0 := w) w.heap.size rfl _ _ 30 5 (.int .u8 0) 1 rfl Try.underlying30 info_u8 rfl (by decide) (by omega) (.slice none 0 0) [] l _ _ _ (fun _ => True) (fun _ => False) rfl rfl (Kd.R_nil _ _ _ _ _) hC (fun _ _ h => h) (fun _ h => h.elim) (fun _ _ => trivial) (Below.refl _ _) (Nat.le_refl _) (by simp; omega) ?_; intro v1 w1 ho hb hg hat)
    go_ret
    exact ⟨_, rfl, ho, hb⟩

theorem Few_at (A : Option Addr) (c : Nat) (l : List Int) (most : Int) (r : List Int) (hr : Hid (l.take most.toNat = r)) (h0 : 0 ≤ most) (hl : l.length ≤ 140737488351232) (w : World) (hC : (Kd.int .u8).C w A l.length l) (hc : l.length ≤ c) :
    Calls Try.prog 28 #[.slice A l.length c, .int .i64 most] w fun e w' => ∃ A' c', e = .returned (.slice A' r.length c') ∧ r.length ≤ c' ∧ (Kd.int .u8).R 5 w' w.heap.size (fun _ => True) (.slice A' r.length c') r ∧ Below w.heap.size w w' := by
  have hr' := hr.out
  subst hr'
  refine (Few_calls A c l most h0 hl w hC hc).mono ?_
  rintro e w' ⟨v, rfl, hR, hB⟩
  obtain ⟨A', c', rfl, h1, h2⟩ := Kd.R_reads hR
  exact ⟨A', c', rfl, h1, hR, hB⟩

set_option maxRecDepth 100000 in
set_option maxHeartbeats 2000000 in
theorem SameBytes_calls (A1 : Option Addr) (c1 : Nat) (l1 : List Int) (A2 : Option Addr) (c2 : Nat) (l2 : List Int) (w : World) (hC1 : (Kd.int .u8).C w A1 l1.length l1) (hC2 : (Kd.int .u8).C w A2 l2.length l2) (hl : l1.length ≤ 140737488351232) :
    Calls Try.prog 29 #[.slice A1 l1.length c1, .slice A2 l2.length c2] w fun e w' => e = .returned (.bool (decide (l1 = l2))) ∧ Drawn0 w w' := by
  by_cases hne : l1.length = l2.length
  · have hB : ((l1.length : Int) == (l2.length : Int)) = true := beq_iff_eq.mpr (by omega)
    have hB1 : ((l1.length : Int) != (l2.length : Int)) = false := bne_eq_false_iff_eq.mpr (by omega)
    have hB2 : (l1.length == l2.length) = true := by simpa using hne
    have Hne := Lib.hid hne
    have hle : l1.length ≤ l2.length := by omega
    clear hne
    go_enter Try.func29, Try.ntmps29
    go_wp2
    repeat (go_quiet (fail); try go_wp2)
    go_loopw [5] (fun i wr => ∃ k : Nat, k ≤ l1.length ∧ i = .int .i64 (k : Int) ∧ Hid (l1.take k = l2.take k) ∧ Drawn0 w wr) (fun i _ => l1.length - (intOf i).toNat)
    case atStart => exact ⟨0, Nat.zero_le _, rfl, rfl, by repeat (first | exact Drawn0.refl _ | apply Drawn0.step)⟩
    case round =>
      obtain ⟨k, hk, rfl, hT, ⟨m1, rfl⟩⟩ := hrel
      by_cases hlt : k < l1.length
      · obtain ⟨ad1, e1, hcell1⟩ := at_nat hC1 hlt
        obtain ⟨ad2, e2, hcell2⟩ := at_nat hC2 (show k < l2.length by omega)
        cases e1
        cases e2
        have hlt2 : k < l2.length := by omega
        have hx1 : l1[k]?.getD 0 = l1[k] := by simp [hlt]
        have hx2 : l2[k]?.getD 0 = l2[k] := by simp [hlt2]
        rw [hx1] at hcell1
        rw [hx2] at hcell2
        clear hx1 hx2
        have hi0 : 0 ≤ (k : Int) := by omega
        have hi1 : (k : Int) < (l1.length : Int) := by omega
        have hi2 : (k : Int) < (l2.length : Int) := by omega
        by_cases hx : l1[k] = l2[k]
        · have hxB : (l1[k] == l2[k]) = true := by simpa using hx
          have hxB1 : (l1[k] != l2[k]) = false := by simpa using hx
          have HX := Lib.hid hx
          clear hx
          go_wp2
          repeat (go_quiet (fail); try go_wp2)
          go_roundw
          case rel => exact ⟨k + 1, by omega, by go_num, take_eq_succ hlt hlt2 hT.out HX.out, by repeat (first | exact Drawn0.refl _ | apply Drawn0.step)⟩
          case measure => simp [intOf]; omega
        · have hxB : (l1[k] == l2[k]) = false := by simpa using hx
          have hxB1 : (l1[k] != l2[k]) = true := by simpa using hx
          have HR : Hid (decide (l1 = l2) = false) := decide_eq_false (fun e => hx (by subst e; rfl))
          clear hx
          go_wp2
          repeat (go_quiet (fail); try go_wp2)
          go_ret
          exact ⟨by rw [HR.out]; rfl, by repeat (first | exact Drawn0.refl _ | apply Drawn0.step)⟩
      · have HR : Hid (decide (l1 = l2) = true) := decide_eq_true (by
          have h := hT.out
          have h1 := Hne.out
          rwa [List.take_of_length_le (by omega), List.take_of_length_le (by omega)] at h)
        go_wp2
        repeat (go_quiet (fail); try go_wp2)
        go_ret
        exact ⟨by rw [HR.out]; rfl, by repeat (first | exact Drawn0.refl _ | apply Drawn0.step)⟩
  · have hB : ((l1.length : Int) == (l2.length : Int)) = false := beq_eq_false_iff_ne.mpr (by omega)
    have hB1 : ((l1.length : Int) != (l2.length : Int)) = true := bne_iff_ne.mpr (by omega)
    have hB2 : (l1.length == l2.length) = false := by simpa using hne
    have HR : Hid (decide (l1 = l2) = false) := decide_eq_false (fun e => hne (by rw [e]))
    clear hne
    go_enter Try.func29, Try.ntmps29
    go_wp2
    repeat (go_quiet (fail); try go_wp2)
    go_ret
    exact ⟨by rw [HR.out]; rfl, by repeat (first | exact Drawn0.refl _ | apply Drawn0.step)⟩

theorem Same_n (A1 : Option Addr) (c1 n1 : Nat) (l1 : List Int) (A2 : Option Addr) (c2 n2 : Nat) (l2 : List Int) (w : World) (h1 : n1 = l1.length) (h2 : n2 = l2.length) (hC1 : (Kd.int .u8).C w A1 l1.length l1) (hC2 : (Kd.int .u8).C w A2 l2.length l2) (hl : n1 ≤ 140737488351232) :
    Calls Try.prog 29 #[.slice A1 n1 c1, .slice A2 n2 c2] w fun e w' => e = .returned (.bool (decide (l1 = l2))) ∧ Below w.heap.size w w' := by
  subst h1 h2
  exact (SameBytes_calls A1 c1 l1 A2 c2 l2 w hC1 hC2 hl).mono fun e w' h => ⟨h.1, h.2.below⟩

end Go.Proofs.Ythoajajgbafngaa.Old
