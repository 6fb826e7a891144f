/- Plain laws of the hash: the mixing step is injective in each argument, and so is the sum in each word. No program here. -/
import Derived.Laws.BitsAllLaws
import Derived.Laws.Bits64
import Derived.Below
import Derived.RowKit
namespace Go.Proofs.Ytkkhpdbognaioaa.Hx
set_option linter.unusedVariables false
set_option linter.unusedSimpArgs false
open Go.RowKit

/-- The mixing step on naturals below 2^64. -/
def mixN (a b : Nat) : Nat := ((a ^^^ b) * 11400714819323198485 % 18446744073709551616) ^^^ ((a ^^^ b) * 11400714819323198485 % 18446744073709551616 / 4294967296)

/-- The mixing step as the walk spells it. -/
def mixI (a b : Int) : Int := bits .xor .u64 (IntKind.u64.wrap (bits .xor .u64 a b * 11400714819323198485)) (IntKind.u64.wrap (bits .xor .u64 a b * 11400714819323198485) / 4294967296)

theorem xor_lt64 {a b : Nat} (ha : a < 18446744073709551616) (hb : b < 18446744073709551616) : a ^^^ b < 18446744073709551616 :=
  Nat.xor_lt_two_pow (n := 64) ha hb

theorem mixN_lt {a b : Nat} : mixN a b < 18446744073709551616 := by
  unfold mixN
  have h := Nat.mod_lt ((a ^^^ b) * 11400714819323198485) (show 18446744073709551616 > 0 by decide)
  exact xor_lt64 h (Nat.lt_of_le_of_lt (Nat.div_le_self _ _) h)

theorem mixI_nat (a b : Nat) (ha : a < 18446744073709551616) (hb : b < 18446744073709551616) : mixI (a : Int) (b : Int) = ((mixN a b : Nat) : Int) := by
  unfold mixI mixN
  have hx : bits .xor .u64 (a : Int) (b : Int) = ((a ^^^ b : Nat) : Int) := bits_xor_u64_nat a b ha hb
  have hm : IntKind.u64.wrap (((a ^^^ b : Nat) : Int) * 11400714819323198485) = (((a ^^^ b) * 11400714819323198485 % 18446744073709551616 : Nat) : Int) := by
    rw [IntKind.wrap_u64]; omega
  rw [hx, hm]
  have hl := Nat.mod_lt ((a ^^^ b) * 11400714819323198485) (show 18446744073709551616 > 0 by decide)
  have hd : ((((a ^^^ b) * 11400714819323198485 % 18446744073709551616 : Nat) : Int) / 4294967296) = ((((a ^^^ b) * 11400714819323198485 % 18446744073709551616) / 4294967296 : Nat) : Int) := by omega
  rw [hd]
  exact bits_xor_u64_nat _ _ hl (Nat.lt_of_le_of_lt (Nat.div_le_self _ _) hl)

def U64 (a : Int) : Prop := 0 ≤ a ∧ a < 18446744073709551616

theorem u64_nat {a : Int} (h : U64 a) : ∃ n : Nat, a = (n : Int) ∧ n < 18446744073709551616 := ⟨a.toNat, by have := h.1; omega, by have := h.1; have := h.2; omega⟩

theorem mixI_u64 {a b : Int} (ha : U64 a) (hb : U64 b) : U64 (mixI a b) := by
  obtain ⟨m, rfl, hm⟩ := u64_nat ha
  obtain ⟨n, rfl, hn⟩ := u64_nat hb
  rw [mixI_nat m n hm hn]
  have := @mixN_lt m n
  exact ⟨by omega, by omega⟩

theorem xorshift_inj {m n : Nat} (hm : m < 18446744073709551616) (hn : n < 18446744073709551616) (h : m ^^^ (m / 4294967296) = n ^^^ (n / 4294967296)) : m = n := by
  have e : ∀ x : Nat, x / 4294967296 = x >>> 32 := fun x => by rw [Nat.shiftRight_eq_div_pow]
  have key : ∀ x : Nat, x < 18446744073709551616 → (x ^^^ (x / 4294967296)) ^^^ ((x ^^^ (x / 4294967296)) / 4294967296) = x := by
    intro x hx
    rw [e, e, Nat.shiftRight_xor_distrib, ← Nat.shiftRight_add]
    have : x >>> (32 + 32) = 0 := by rw [Nat.shiftRight_eq_div_pow]; exact Nat.div_eq_of_lt hx
    rw [this, Nat.xor_zero, Nat.xor_assoc, Nat.xor_self, Nat.xor_zero]
  rw [← key m hm, h, key n hn]

theorem mul_inj {m n : Nat} (hm : m < 18446744073709551616) (hn : n < 18446744073709551616) (h : m * 11400714819323198485 % 18446744073709551616 = n * 11400714819323198485 % 18446744073709551616) : m = n := by
  have key : ∀ x : Nat, x < 18446744073709551616 → (x * 11400714819323198485 % 18446744073709551616) * 17428512612931826493 % 18446744073709551616 = x := by
    intro x hx
    have e : 11400714819323198485 * 17428512612931826493 = 1 + 18446744073709551616 * 10771413168148108919 := by decide
    have e2 : x * 11400714819323198485 * 17428512612931826493 = x + 18446744073709551616 * (x * 10771413168148108919) := by
      rw [Nat.mul_assoc, e, Nat.mul_add, Nat.mul_one, Nat.mul_left_comm]
    have e3 : (x * 11400714819323198485 % 18446744073709551616) * 17428512612931826493 % 18446744073709551616 = x * 11400714819323198485 * 17428512612931826493 % 18446744073709551616 := by
      rw [Nat.mul_mod (x * 11400714819323198485 % 18446744073709551616), Nat.mod_mod, ← Nat.mul_mod]
    rw [e3, e2, Nat.add_mul_mod_self_left, Nat.mod_eq_of_lt hx]
  rw [← key m hm, h, key n hn]

theorem xor_inj_right {a b c : Nat} (h : a ^^^ b = a ^^^ c) : b = c := by
  have := congrArg (a ^^^ ·) h
  simpa [← Nat.xor_assoc] using this

theorem mixN_inj_right {a b c : Nat} (ha : a < 18446744073709551616) (hb : b < 18446744073709551616) (hc : c < 18446744073709551616) (h : mixN a b = mixN a c) : b = c := by
  unfold mixN at h
  have h1 := xorshift_inj (Nat.mod_lt _ (by decide)) (Nat.mod_lt _ (by decide)) h
  exact xor_inj_right (mul_inj (xor_lt64 ha hb) (xor_lt64 ha hc) h1)

theorem mixN_comm (a b : Nat) : mixN a b = mixN b a := by unfold mixN; rw [Nat.xor_comm a b]

theorem mixI_comm {a b : Int} (ha : U64 a) (hb : U64 b) : mixI a b = mixI b a := by
  obtain ⟨m, rfl, hm⟩ := u64_nat ha
  obtain ⟨n, rfl, hn⟩ := u64_nat hb
  rw [mixI_nat m n hm hn, mixI_nat n m hn hm, mixN_comm]

theorem mixI_inj_right {a b c : Int} (ha : U64 a) (hb : U64 b) (hc : U64 c) (h : mixI a b = mixI a c) : b = c := by
  obtain ⟨m, rfl, hm⟩ := u64_nat ha
  obtain ⟨n, rfl, hn⟩ := u64_nat hb
  obtain ⟨k, rfl, hk⟩ := u64_nat hc
  rw [mixI_nat m n hm hn, mixI_nat m k hm hk] at h
  rw [mixN_inj_right hm hn hk (by exact_mod_cast h)]

theorem mixI_inj_left {a b c : Int} (ha : U64 a) (hb : U64 b) (hc : U64 c) (h : mixI b a = mixI c a) : b = c := by
  rw [mixI_comm hb ha, mixI_comm hc ha] at h
  exact mixI_inj_right ha hb hc h

/-- A sum over words. -/
def fold (s : Int) (l : List Int) : Int := l.foldl mixI s
theorem fold_nil (s : Int) : fold s [] = s := rfl
theorem fold_cons (s x : Int) (l : List Int) : fold s (x :: l) = fold (mixI s x) l := rfl
theorem fold_snoc (s x : Int) (l : List Int) : fold s (l ++ [x]) = mixI (fold s l) x := by simp [fold]
theorem fold_append (s : Int) (l m : List Int) : fold s (l ++ m) = fold (fold s l) m := by simp [fold]

def AllU64 (l : List Int) : Prop := ∀ x ∈ l, U64 x

theorem fold_u64 {s : Int} (hs : U64 s) {l : List Int} (hl : AllU64 l) : U64 (fold s l) := by
  induction l generalizing s with
  | nil => exact hs
  | cons x l ih => exact ih (mixI_u64 hs (hl x (by simp))) (fun y hy => hl y (by simp [hy]))

theorem fold_inj {s t : Int} (hs : U64 s) (ht : U64 t) {l : List Int} (hl : AllU64 l) (h : fold s l = fold t l) : s = t := by
  induction l generalizing s t with
  | nil => exact h
  | cons x l ih =>
    have hx := hl x (by simp)
    exact mixI_inj_left hx hs ht (ih (mixI_u64 hs hx) (mixI_u64 ht hx) (fun y hy => hl y (by simp [hy])) h)

/-- Lists that differ in one place alone have different sums. -/
theorem fold_one {s : Int} (hs : U64 s) {l : List Int} (hl : AllU64 l) {k : Nat} (hk : k < l.length) {v : Int} (hv : U64 v) : fold s (l.set k v) = fold s l ↔ v = l[k] := by
  constructor
  · intro h
    induction l generalizing s k with
    | nil => simp at hk
    | cons x l ih =>
      have hx := hl x (by simp)
      have hl' : AllU64 l := fun y hy => hl y (by simp [hy])
      cases k with
      | zero =>
        rw [List.set_cons_zero, fold_cons, fold_cons] at h
        exact mixI_inj_right hs hv hx (fold_inj (mixI_u64 hs hv) (mixI_u64 hs hx) hl' h)
      | succ k =>
        rw [List.set_cons_succ, fold_cons, fold_cons] at h
        simpa using ih (mixI_u64 hs hx) hl' (by simpa using hk) h
  · intro h
    rw [h, List.set_getElem_self]

/-! ### words -/
/-- The little-endian word of some bytes. -/
def wordOf : List Int → Int
  | [] => 0
  | b :: r => b + 256 * wordOf r

def AllU8 (l : List Int) : Prop := ∀ x ∈ l, 0 ≤ x ∧ x < 256

theorem allU8_take {l : List Int} (hl : AllU8 l) (k : Nat) : AllU8 (l.take k) := fun x hx => hl x (List.mem_of_mem_take hx)
theorem allU8_drop {l : List Int} (hl : AllU8 l) (k : Nat) : AllU8 (l.drop k) := fun x hx => hl x (List.mem_of_mem_drop hx)

theorem wordOf_bound {l : List Int} (hl : AllU8 l) : 0 ≤ wordOf l ∧ wordOf l < 256 ^ l.length := by
  induction l with
  | nil => simp [wordOf]
  | cons b r ih =>
    have hb := hl b (by simp)
    have hr := ih (fun y hy => hl y (by simp [hy]))
    simp only [wordOf, List.length_cons]
    rw [Int.pow_succ]
    omega

theorem wordOf_u64 {l : List Int} (hl : AllU8 l) (h8 : l.length ≤ 8) : U64 (wordOf l) := by
  have h := wordOf_bound hl
  refine ⟨h.1, Int.lt_of_lt_of_le h.2 ?_⟩
  have h2 : (256 : Int) ^ l.length ≤ 256 ^ 8 := by
    have h3 : ∀ n, n ≤ 8 → (256 : Int) ^ n ≤ 256 ^ 8 := by decide
    exact h3 _ h8
  exact Int.le_trans h2 (by decide)

theorem wordOf_inj {l m : List Int} (hl : AllU8 l) (hm : AllU8 m) (hlen : l.length = m.length) (h : wordOf l = wordOf m) : l = m := by
  induction l generalizing m with
  | nil => cases m with
    | nil => rfl
    | cons => simp at hlen
  | cons a l ih => cases m with
    | nil => simp at hlen
    | cons b m =>
      have ha := hl a (by simp)
      have hb := hm b (by simp)
      simp only [wordOf] at h
      have e1 : a = b := by omega
      have e2 : wordOf l = wordOf m := by omega
      rw [e1, ih (fun y hy => hl y (by simp [hy])) (fun y hy => hm y (by simp [hy])) (by simpa using hlen) e2]

theorem wordOf_snoc (l : List Int) (b : Int) : wordOf (l ++ [b]) = wordOf l + b * 256 ^ l.length := by
  induction l with
  | nil => simp [wordOf]
  | cons a l ih =>
    simp only [List.cons_append, wordOf, ih, List.length_cons, Int.pow_succ]
    have : 256 * (b * 256 ^ l.length) = b * (256 ^ l.length * 256) := by rw [Int.mul_comm (256 ^ l.length) 256, ← Int.mul_assoc, Int.mul_comm 256 b, Int.mul_assoc]
    omega

theorem pow256 (m : Nat) : (256 : Int) ^ m = ((2 ^ (8 * m) : Nat) : Int) := by
  rw [Nat.pow_mul]
  simp

theorem word_or {D : List Int} (hD : AllU8 D) {m : Nat} (hm : m < 8) (hl : m < D.length) {b : Int} (hb : D[m] = b) :
    bits .or .u64 (wordOf (D.take m)) (IntKind.u64.wrap (IntKind.u64.wrap b * 2 ^ (8 * m))) = wordOf (D.take (m + 1)) := by
  have hbr := hD b (by rw [← hb]; exact List.getElem_mem hl)
  have hw := wordOf_bound (allU8_take hD m)
  rw [List.take_succ_eq_append_getElem hl, hb, wordOf_snoc]
  have hlen : (D.take m).length = m := by rw [List.length_take]; omega
  rw [hlen] at hw ⊢
  obtain ⟨x, hx⟩ : ∃ x : Nat, wordOf (D.take m) = (x : Int) := ⟨(wordOf (D.take m)).toNat, by omega⟩
  obtain ⟨c, hc⟩ : ∃ c : Nat, b = (c : Int) := ⟨b.toNat, by omega⟩
  rw [hx] at hw ⊢
  rw [hc] at hbr ⊢
  rw [pow256] at hw ⊢
  have hc' : c < 256 := by omega
  have hx' : x < 2 ^ (8 * m) := by omega
  have hp : 2 ^ (8 * m) * 256 ≤ 18446744073709551616 := by
    have h1 : ∀ n, n < 8 → 2 ^ (8 * n) * 256 ≤ 18446744073709551616 := by decide
    exact h1 m hm
  have hlt : c * 2 ^ (8 * m) < 18446744073709551616 := by
    refine Nat.lt_of_lt_of_le ?_ hp
    rw [Nat.mul_comm]
    exact Nat.mul_lt_mul_of_pos_left hc' (Nat.two_pow_pos _)
  have e1 : IntKind.u64.wrap (c : Int) = (c : Int) := by rw [IntKind.wrap_u64]; omega
  have e2 : IntKind.u64.wrap ((c : Int) * 2 ^ (8 * m)) = ((c * 2 ^ (8 * m) : Nat) : Int) := by
    rw [IntKind.wrap_u64, show ((c : Int) * 2 ^ (8 * m)) = ((c * 2 ^ (8 * m) : Nat) : Int) from by simp]
    omega
  rw [e1, e2, u64_or_nat x (c * 2 ^ (8 * m)) (Nat.lt_of_lt_of_le hx' (by omega)) hlt, Nat.or_comm, nat_join (8 * m) _ _ (by simp) hx']
  push_cast
  omega

/-- How many words some bytes have. -/
def nwords (n : Nat) : Nat := (n + 7) / 8
/-- Word j of some bytes. -/
def wordAt (l : List Int) (j : Nat) : Int := wordOf ((l.drop (8 * j)).take 8)
def upto {α : Type} (f : Nat → α) (k : Nat) : List α := (List.range k).map f
theorem upto_succ {α : Type} (f : Nat → α) (k : Nat) : upto f (k + 1) = upto f k ++ [f k] := by simp [upto, List.range_succ]
theorem upto_length {α : Type} (f : Nat → α) (k : Nat) : (upto f k).length = k := by simp [upto]
theorem upto_zero {α : Type} (f : Nat → α) : upto f 0 = [] := rfl
/-- The words of some bytes. -/
def wordsOf (l : List Int) : List Int := upto (wordAt l) (nwords l.length)

theorem allU8_sub {l m : List Int} (hl : AllU8 l) (h : ∀ x ∈ m, x ∈ l) : AllU8 m := fun x hx => hl x (h x hx)
theorem wordAt_u64 {l : List Int} (hl : AllU8 l) (j : Nat) : U64 (wordAt l j) :=
  wordOf_u64 (allU8_sub hl fun _ hx => List.mem_of_mem_drop (List.mem_of_mem_take hx)) (by rw [List.length_take]; omega)
theorem wordsOf_u64 {l : List Int} (hl : AllU8 l) : AllU64 (wordsOf l) := by
  intro x hx
  simp only [wordsOf, upto, List.mem_map] at hx
  obtain ⟨j, _, rfl⟩ := hx
  exact wordAt_u64 hl j
theorem wordsOf_length (l : List Int) : (wordsOf l).length = nwords l.length := upto_length _ _

/-- The hash of a label's bytes and some integers, as they are converted to 64 bits. -/
def sumW (label : List Int) (l : List Int) : Int := mixI (fold (mixI (mixI (fold 0 (wordsOf label)) (label.length : Int)) (l.length : Int)) l) 0
def u64s (l : List Int) : List Int := l.map fun x => IntKind.u64.wrap x
def i64s (l : List Int) : List Int := l.map fun x => wrap64 x
/-- Sum. -/
def sumI (label : List Int) (l : List Int) : Int := sumW label (u64s l)

theorem wrap_u64_u64 (x : Int) : U64 (IntKind.u64.wrap x) := by rw [IntKind.wrap_u64]; exact ⟨by omega, by omega⟩
theorem u64s_u64 (l : List Int) : AllU64 (u64s l) := by
  intro x hx
  simp only [u64s, List.mem_map] at hx
  obtain ⟨y, _, rfl⟩ := hx
  exact wrap_u64_u64 y
theorem u64s_take_succ (l : List Int) {k : Nat} (h : k < l.length) : u64s (l.take (k + 1)) = u64s (l.take k) ++ [IntKind.u64.wrap l[k]] := by
  rw [List.take_succ_eq_append_getElem h]
  simp only [u64s, List.map_append, List.map_cons, List.map_nil]
theorem u64s_length (l : List Int) : (u64s l).length = l.length := by simp [u64s]

theorem sumI_eq (b l : List Int) : sumI b l = mixI (fold (mixI (mixI (fold 0 (wordsOf b)) (b.length : Int)) (l.length : Int)) (u64s l)) 0 := by
  unfold sumI sumW
  rw [u64s_length]

theorem word_horner {r : List Int} (hr : AllU8 r) (h7 : r.length ≤ 7) {b : Int} (hb : 0 ≤ b ∧ b < 256) : IntKind.u64.wrap (IntKind.u64.wrap (256 * wordOf r) + IntKind.u64.wrap b) = wordOf (b :: r) := by
  have hb1 := wordOf_bound hr
  have hb2 : (256 : Int) ^ r.length ≤ 256 ^ 7 := by
    have h3 : ∀ n, n ≤ 7 → (256 : Int) ^ n ≤ 256 ^ 7 := by decide
    exact h3 _ h7
  have hb3 : (256 : Int) ^ 7 = 72057594037927936 := by decide
  simp only [wordOf]
  generalize wordOf r = q at hb1 ⊢
  rw [IntKind.wrap_u64, IntKind.wrap_u64, IntKind.wrap_u64]
  omega
theorem drop_take_cons {l : List Int} {i lim : Nat} (hi : i < lim) (hl : lim ≤ l.length) : (l.drop i).take (lim - i) = l[i] :: (l.drop (i + 1)).take (lim - (i + 1)) := by
  rw [List.drop_eq_getElem_cons (by omega), show lim - i = (lim - (i + 1)) + 1 from by omega, List.take_succ_cons]

end Go.Proofs.Ytkkhpdbognaioaa.Hx

