/- Plain laws of the hash: what one word, one group of bytes, one byte of a label changes. No program here. -/
import Derived.Test.YtkkhpdbognaioaaHxMath
namespace Go.Proofs.Ytkkhpdbognaioaa.Hx
set_option linter.unusedVariables false
set_option linter.unusedSimpArgs false
open Go.RowKit

theorem u64_wrap64 (x : Int) : IntKind.u64.wrap (wrap64 x) = IntKind.u64.wrap x := by
  rw [IntKind.wrap_u64, IntKind.wrap_u64]; unfold wrap64; omega
theorem u64_self {x : Int} (h : U64 x) : IntKind.u64.wrap x = x := by
  rw [IntKind.wrap_u64]; have h1 := h.1; have h2 := h.2; omega
theorem u64_len {n : Nat} (h : n ≤ 140737488351232) : U64 (n : Int) := ⟨by omega, by omega⟩
theorem u64_zero : U64 0 := ⟨by omega, by omega⟩

/-- What Sum has absorbed before the integers. -/
def headS (b : List Int) (n : Nat) : Int := mixI (mixI (fold 0 (wordsOf b)) (b.length : Int)) (n : Int)
theorem headS_u64 {b : List Int} (hb : AllU8 b) (hl : b.length ≤ 140737488351232) {n : Nat} (hn : n ≤ 140737488351232) : U64 (headS b n) :=
  mixI_u64 (mixI_u64 (fold_u64 u64_zero (wordsOf_u64 hb)) (u64_len hl)) (u64_len hn)
theorem sumI_head (b l : List Int) : sumI b l = mixI (fold (headS b l.length) (u64s l)) 0 := sumI_eq b l

theorem u64s_set (l : List Int) (k : Nat) (v : Int) : u64s (l.set k v) = (u64s l).set k (IntKind.u64.wrap v) := by simp [u64s, List.map_set]

/-- One integer replaced. -/
theorem sumI_set {b : List Int} (hb : AllU8 b) (hbl : b.length ≤ 140737488351232) {l : List Int} (hl : l.length ≤ 140737488351232) {k : Nat} (hk : k < l.length) (v : Int) :
    sumI b (l.set k v) = sumI b l ↔ IntKind.u64.wrap v = IntKind.u64.wrap l[k] := by
  have hh := headS_u64 hb hbl hl
  have hk' : k < (u64s l).length := by rw [u64s_length]; exact hk
  have e : (u64s l)[k] = IntKind.u64.wrap l[k] := by simp [u64s]
  rw [sumI_head, sumI_head, List.length_set, u64s_set, ← e, ← fold_one hh (u64s_u64 l) hk' (wrap_u64_u64 v)]
  constructor
  · intro h
    have h1 : AllU64 ((u64s l).set k (IntKind.u64.wrap v)) := by rw [← u64s_set]; exact u64s_u64 _
    exact mixI_inj_left u64_zero (fold_u64 hh h1) (fold_u64 hh (u64s_u64 l)) h
  · intro h; rw [h]

/-- Integers of 64 bits are told apart. -/
theorem wrap_inj_i64 {a b : Int} (ha : -9223372036854775808 ≤ a ∧ a ≤ 9223372036854775807) (hb : -9223372036854775808 ≤ b ∧ b ≤ 9223372036854775807) : IntKind.u64.wrap a = IntKind.u64.wrap b ↔ a = b := by
  rw [IntKind.wrap_u64, IntKind.wrap_u64]
  constructor <;> intro h <;> omega

/-! ### groups of eight bytes -/
/-- y is x but for bytes of group g. -/
structure Group (x y : List Int) (g : Nat) : Prop where
  len : y.length = x.length
  at_ : ∀ i, i / 8 ≠ g → y[i]? = x[i]?

theorem Group.word {x y : List Int} {g j : Nat} (h : Group x y g) (hj : j ≠ g) : wordAt y j = wordAt x j := by
  unfold wordAt
  congr 1
  apply List.ext_getElem?
  intro i
  rw [List.getElem?_take, List.getElem?_take]
  split
  · rw [List.getElem?_drop, List.getElem?_drop]
    exact h.at_ _ (by omega)
  · rfl
theorem Group.words {x y : List Int} {g : Nat} (h : Group x y g) : wordsOf y = (wordsOf x).set g (wordAt y g) := by
  unfold wordsOf
  rw [h.len]
  apply List.ext_getElem?
  intro i
  rw [List.getElem?_set]
  by_cases hi : i < nwords x.length
  · by_cases hg : g = i
    · subst hg
      rw [if_pos rfl, if_pos (by rw [upto_length]; exact hi)]
      simp [upto, hi]
    · rw [if_neg hg]
      simp [upto, hi, h.word (Ne.symm hg)]
  · have e1 : (upto (wordAt y) (nwords x.length))[i]? = none := List.getElem?_eq_none (by rw [upto_length]; omega)
    have e2 : (upto (wordAt x) (nwords x.length))[i]? = none := List.getElem?_eq_none (by rw [upto_length]; omega)
    rw [e1, e2]
    split
    · split
      · rename_i h1 h2; rw [upto_length] at h2; omega
      · rfl
    · rfl
theorem Group.eq_iff {x y : List Int} {g : Nat} (h : Group x y g) (hx : AllU8 x) (hy : AllU8 y) : wordAt y g = wordAt x g ↔ y = x := by
  constructor
  · intro e
    have e2 := wordOf_inj (allU8_take (allU8_drop hy (8 * g)) 8) (allU8_take (allU8_drop hx (8 * g)) 8) (by simp [h.len]) e
    apply List.ext_getElem?
    intro i
    by_cases hi : i / 8 = g
    · have := congrArg (fun l => l[i - 8 * g]?) e2
      simp only [List.getElem?_take, List.getElem?_drop] at this
      rw [if_pos (by omega), if_pos (by omega), show 8 * g + (i - 8 * g) = i from by omega] at this
      exact this
    · exact h.at_ i hi
  · intro e; rw [e]

theorem wordsOf_get {x : List Int} {g : Nat} (hg : g < nwords x.length) : (wordsOf x)[g]? = some (wordAt x g) := by
  unfold wordsOf upto
  simp [hg]

theorem i64s_set (l : List Int) (k : Nat) (v : Int) : i64s (l.set k v) = (i64s l).set k (wrap64 v) := by simp [i64s, List.map_set]

def bytesL (b : List Int) : List Int := i64s (wordsOf b) ++ [(b.length : Int)]
theorem i64s_snoc (l : List Int) (x : Int) : i64s (l ++ [x]) = i64s l ++ [wrap64 x] := by simp [i64s]
theorem i64s_length (l : List Int) : (i64s l).length = l.length := by simp [i64s]
theorem bytesL_length (b : List Int) : (bytesL b).length = (wordsOf b).length + 1 := by simp [bytesL, i64s]

/-- Bytes within one group changed. -/
theorem sumI_group {b : List Int} (hb : AllU8 b) (hbl : b.length ≤ 140737488351232) {x y : List Int} (hx : AllU8 x) (hy : AllU8 y) (hl : x.length ≤ 140737488351232) {g : Nat} (h : Group x y g) (hg : g < nwords x.length) :
    sumI b (bytesL y) = sumI b (bytesL x) ↔ y = x := by
  have hwl : (wordsOf x).length = nwords x.length := wordsOf_length x
  have hil : (i64s (wordsOf x)).length = nwords x.length := by rw [i64s_length, hwl]
  have e1 : bytesL y = (bytesL x).set g (wrap64 (wordAt y g)) := by
    unfold bytesL
    rw [h.words, i64s_set, h.len, List.set_append_left _ _ (by rw [hil]; exact hg)]
  have hlen : (bytesL x).length ≤ 140737488351232 := by rw [bytesL_length, hwl]; unfold nwords; omega
  have hg2 : g < (bytesL x).length := by rw [bytesL_length, hwl]; omega
  rw [e1, sumI_set hb hbl hlen hg2]
  have e2 : (bytesL x)[g] = wrap64 (wordAt x g) := by
    have h1 : (bytesL x)[g]? = some (wrap64 (wordAt x g)) := by
      unfold bytesL
      rw [List.getElem?_append_left (by rw [hil]; exact hg)]
      unfold i64s
      rw [List.getElem?_map, wordsOf_get hg]
      rfl
    rw [List.getElem?_eq_getElem hg2] at h1
    exact Option.some.inj h1
  rw [e2, u64_wrap64, u64_wrap64, u64_self (wordAt_u64 hy g), u64_self (wordAt_u64 hx g)]
  exact h.eq_iff hx hy

/-- Bytes within one group of the label changed. -/
theorem sumI_label {x y : List Int} (hx : AllU8 x) (hy : AllU8 y) (hxl : x.length ≤ 140737488351232) {l : List Int} (hl : l.length ≤ 140737488351232) {g : Nat} (h : Group x y g) (hg : g < nwords x.length) :
    sumI y l = sumI x l ↔ y = x := by
  have hk : g < (wordsOf x).length := by rw [wordsOf_length]; exact hg
  have e2 : (wordsOf x)[g] = wordAt x g := by
    have h1 := wordsOf_get hg
    rw [List.getElem?_eq_getElem hk] at h1
    exact Option.some.inj h1
  rw [← h.eq_iff hx hy, ← e2, ← fold_one u64_zero (wordsOf_u64 hx) hk (wordAt_u64 hy g), ← h.words]
  constructor
  · intro e
    rw [sumI_head, sumI_head] at e
    have hyl : y.length ≤ 140737488351232 := by rw [h.len]; exact hxl
    have h1 := mixI_inj_left u64_zero (fold_u64 (headS_u64 hy hyl hl) (u64s_u64 l)) (fold_u64 (headS_u64 hx hxl hl) (u64s_u64 l)) e
    have h2 := fold_inj (headS_u64 hy hyl hl) (headS_u64 hx hxl hl) (u64s_u64 l) h1
    unfold headS at h2
    have a1 := fold_u64 u64_zero (wordsOf_u64 hy)
    have a2 := fold_u64 u64_zero (wordsOf_u64 hx)
    have h3 := mixI_inj_left (u64_len hl) (mixI_u64 a1 (u64_len hyl)) (mixI_u64 a2 (u64_len hxl)) h2
    rw [h.len] at h3
    exact mixI_inj_left (u64_len hxl) a1 a2 h3
  · intro e
    rw [sumI_head, sumI_head]
    unfold headS
    rw [e, h.len]

/-- A zero appended within a group leaves the words. -/
theorem wordsOf_zero {x : List Int} (h : x.length % 8 ≠ 0) : wordsOf (x ++ [0]) = wordsOf x := by
  have hz : ∀ l : List Int, wordOf (l ++ [0]) = wordOf l := fun l => by rw [wordOf_snoc]; simp
  unfold wordsOf
  have e : nwords (x ++ [0]).length = nwords x.length := by rw [List.length_append, List.length_singleton]; unfold nwords; omega
  rw [e]
  unfold upto
  apply List.map_congr_left
  intro j hj
  have hj' : j < nwords x.length := List.mem_range.1 hj
  unfold wordAt
  by_cases hlast : 8 * j + 8 ≤ x.length
  · rw [List.drop_append_of_le_length (by omega), List.take_append_of_le_length (by rw [List.length_drop]; omega)]
  · unfold nwords at hj'
    rw [List.drop_append_of_le_length (by omega), List.take_of_length_le (by rw [List.length_append, List.length_drop]; simp; omega), List.take_of_length_le (by rw [List.length_drop]; omega), hz]

theorem bytes_zero {b : List Int} (hb : AllU8 b) (hbl : b.length ≤ 140737488351232) {x : List Int} (hl : x.length ≤ 140737488351231) (h : x.length % 8 ≠ 0) : sumI b (bytesL (x ++ [0])) ≠ sumI b (bytesL x) := by
  have e : bytesL (x ++ [0]) = (bytesL x).set (wordsOf x).length ((x.length : Int) + 1) := by
    unfold bytesL
    rw [wordsOf_zero h, List.set_append_right _ _ (by rw [i64s_length]; exact Nat.le_refl _), i64s_length]
    simp
  have hlen : (bytesL x).length ≤ 140737488351232 := by rw [bytesL_length, wordsOf_length]; unfold nwords; omega
  have hk : (wordsOf x).length < (bytesL x).length := by rw [bytesL_length]; omega
  rw [e, Ne, sumI_set hb hbl hlen hk]
  have e2 : (bytesL x)[(wordsOf x).length] = (x.length : Int) := by
    have h1 : (bytesL x)[(wordsOf x).length]? = some (x.length : Int) := by
      unfold bytesL
      rw [List.getElem?_append_right (by rw [i64s_length]; exact Nat.le_refl _), i64s_length]
      simp
    rw [List.getElem?_eq_getElem hk] at h1
    exact Option.some.inj h1
  rw [e2, wrap_inj_i64 ⟨by omega, by omega⟩ ⟨by omega, by omega⟩]
  omega

/-! ### pairs -/
def pairI (a b : Int) : Int := sumI [112, 97, 105, 114] [wrap64 a, wrap64 b]
theorem pairI_eq (a b : Int) (ha : U64 a) (hb : U64 b) : pairI a b = mixI (mixI (mixI (headS [112, 97, 105, 114] 2) a) b) 0 := by
  unfold pairI
  rw [sumI_head]
  have e : u64s [wrap64 a, wrap64 b] = [a, b] := by simp [u64s, u64_wrap64, u64_self ha, u64_self hb]
  rw [e]
  rfl
theorem pair_head : U64 (headS [112, 97, 105, 114] 2) := headS_u64 (by unfold AllU8; decide) (by decide) (by decide)
theorem pairI_left {a b c : Int} (ha : U64 a) (hb : U64 b) (hc : U64 c) : pairI a c = pairI b c ↔ a = b := by
  constructor
  · intro h
    rw [pairI_eq a c ha hc, pairI_eq b c hb hc] at h
    have h1 := mixI_inj_left u64_zero (mixI_u64 (mixI_u64 pair_head ha) hc) (mixI_u64 (mixI_u64 pair_head hb) hc) h
    exact mixI_inj_right pair_head ha hb (mixI_inj_left hc (mixI_u64 pair_head ha) (mixI_u64 pair_head hb) h1)
  · intro h; rw [h]
theorem pairI_right {a b c : Int} (ha : U64 a) (hb : U64 b) (hc : U64 c) : pairI c a = pairI c b ↔ a = b := by
  constructor
  · intro h
    rw [pairI_eq c a hc ha, pairI_eq c b hc hb] at h
    have h1 := mixI_inj_left u64_zero (mixI_u64 (mixI_u64 pair_head hc) ha) (mixI_u64 (mixI_u64 pair_head hc) hb) h
    exact mixI_inj_right (mixI_u64 pair_head hc) ha hb h1
  · intro h; rw [h]

end Go.Proofs.Ytkkhpdbognaioaa.Hx

