/- Plain laws of streams of bits: numbers, bytes. No program here. -/
import Derived.Laws.BitsAllLaws
import Derived.Laws.Bits64
import Derived.RowKit
import Derived.Lib.Hide
namespace Go.Proofs.Ytkkhpdbognaioaa
set_option linter.unusedVariables false
set_option linter.unusedSimpArgs false
open Go.RowKit

def b2n (b : Bool) : Nat := if b then 1 else 0
theorem b2n_le (b : Bool) : b2n b ≤ 1 := by cases b <;> decide
/-- The number of some bits, the highest first. -/
def valB (l : List Bool) : Nat := l.foldl (fun n b => 2 * n + b2n b) 0
theorem valB_nil : valB [] = 0 := rfl
theorem valB_snoc (l : List Bool) (b : Bool) : valB (l ++ [b]) = 2 * valB l + b2n b := by simp [valB]
theorem valB_append (l : List Bool) : ∀ m : List Bool, valB (l ++ m) = valB l * 2 ^ m.length + valB m := by
  intro m
  have key : ∀ (m : List Bool) (a c : Nat), m.foldl (fun n b => 2 * n + b2n b) (a + c) = a * 2 ^ m.length + m.foldl (fun n b => 2 * n + b2n b) c := by
    intro m
    induction m with
    | nil => intro a c; simp
    | cons b m ih =>
      intro a c
      simp only [List.foldl_cons, List.length_cons, Nat.pow_succ]
      rw [show 2 * (a + c) + b2n b = 2 * a + (2 * c + b2n b) by omega, ih]
      rw [show 2 * a * 2 ^ m.length = a * (2 ^ m.length * 2) by rw [Nat.mul_comm 2 a, Nat.mul_assoc, Nat.mul_comm 2]]
  unfold valB
  rw [List.foldl_append]
  exact key m _ 0
theorem valB_lt : ∀ l : List Bool, valB l < 2 ^ l.length := by
  intro l
  induction l with
  | nil => decide
  | cons b l ih =>
    have h := valB_append [b] l
    rw [List.singleton_append] at h
    have h1 : valB [b] = b2n b := by cases b <;> rfl
    have h2 := b2n_le b
    rw [h, h1, List.length_cons, Nat.pow_succ]
    have : b2n b * 2 ^ l.length ≤ 1 * 2 ^ l.length := Nat.mul_le_mul_right _ h2
    omega
theorem valB_cons (b : Bool) (l : List Bool) : valB (b :: l) = b2n b * 2 ^ l.length + valB l := by
  have h := valB_append [b] l
  rw [List.singleton_append] at h
  rw [h]
  cases b <;> rfl

/-- The lowest bits of a number, the highest first. -/
def bitsN (n : Nat) : Nat → List Bool
  | 0 => []
  | k + 1 => decide (n / 2 ^ k % 2 = 1) :: bitsN n k
theorem bitsN_length (n k : Nat) : (bitsN n k).length = k := by
  induction k with
  | zero => rfl
  | succ k ih => simp [bitsN, ih]
theorem b2n_decide (n : Nat) : b2n (decide (n % 2 = 1)) = n % 2 := by
  unfold b2n
  by_cases h : n % 2 = 1
  · rw [if_pos (by simpa using h), h]
  · rw [if_neg (by simpa using h)]; omega
theorem valB_bitsN (n k : Nat) : valB (bitsN n k) = n % 2 ^ k := by
  induction k with
  | zero => simp [bitsN, valB_nil, Nat.mod_one]
  | succ k ih =>
    rw [bitsN, valB_cons, ih, bitsN_length, b2n_decide, Nat.pow_succ, Nat.mod_mul]
    rw [Nat.mul_comm, Nat.add_comm]
theorem bitsN_valB : ∀ (l m : List Bool), bitsN (valB (m ++ l)) l.length = l := by
  intro l
  induction l with
  | nil => intro m; rfl
  | cons b l ih =>
    intro m
    rw [List.length_cons, bitsN]
    have h1 := ih (m ++ [b])
    rw [List.append_assoc, List.singleton_append] at h1
    rw [h1]
    congr 1
    have h2 := valB_append (m ++ [b]) l
    rw [List.append_assoc, List.singleton_append] at h2
    have h3 := valB_lt l
    rw [h2, valB_snoc, Nat.mul_comm, Nat.mul_add_div (Nat.two_pow_pos _), Nat.div_eq_of_lt h3]
    cases b <;> simp [b2n] <;> omega
theorem bitsN_val (l : List Bool) : bitsN (valB l) l.length = l := bitsN_valB l []
theorem bitsN_mod (n k : Nat) : bitsN (n % 2 ^ k) k = bitsN n k := by
  have h := bitsN_val (bitsN n k)
  rw [valB_bitsN, bitsN_length] at h
  exact h
theorem bitsN_inj {m n k : Nat} (h : bitsN m k = bitsN n k) : m % 2 ^ k = n % 2 ^ k := by
  rw [← valB_bitsN, ← valB_bitsN, h]
theorem bitsN_get (n k j : Nat) (h : j < k) : (bitsN n k)[j]? = some (decide (n / 2 ^ (k - 1 - j) % 2 = 1)) := by
  induction k generalizing j with
  | zero => omega
  | succ k ih =>
    cases j with
    | zero => simp [bitsN]
    | succ j =>
      rw [bitsN, List.getElem?_cons_succ, ih j (by omega), show k + 1 - 1 - (j + 1) = k - 1 - j by omega]

/-! ### bytes -/
/-- Up to 8 bits as a byte, the missing ones 0. -/
def byteOf (l : List Bool) : Int := ((valB l * 2 ^ (8 - l.length) : Nat) : Int)
theorem byteOf_u8 (l : List Bool) (h : l.length ≤ 8) : 0 ≤ byteOf l ∧ byteOf l < 256 := by
  have h1 := valB_lt l
  have h2 : 2 ^ l.length * 2 ^ (8 - l.length) = 256 := by rw [← Nat.pow_add, show l.length + (8 - l.length) = 8 by omega]
  have h3 : valB l * 2 ^ (8 - l.length) < 2 ^ l.length * 2 ^ (8 - l.length) := Nat.mul_lt_mul_of_pos_right h1 (Nat.two_pow_pos _)
  unfold byteOf
  omega
theorem byteOf_snoc (l : List Bool) (b : Bool) (h : l.length ≤ 7) : byteOf (l ++ [b]) = byteOf l + ((b2n b * 2 ^ (7 - l.length) : Nat) : Int) := by
  unfold byteOf
  rw [valB_snoc, List.length_append, List.length_singleton, show 8 - (l.length + 1) = 7 - l.length by omega, show 8 - l.length = (7 - l.length) + 1 by omega, Nat.pow_succ, Nat.add_mul]
  have : 2 * valB l * 2 ^ (7 - l.length) = valB l * (2 ^ (7 - l.length) * 2) := by rw [Nat.mul_comm 2, Nat.mul_assoc, Nat.mul_comm 2]
  omega
/-- How the byte is written: or-ing the new bit. -/
theorem or_bit : ∀ (a : Fin 8) (x : Fin 256), x.val % 2 ^ (8 - a.val) = 0 → bits BinOp.or IntKind.u8 (x.val : Int) ((2 ^ (7 - a.val) : Nat) : Int) = ((x.val + 2 ^ (7 - a.val) : Nat) : Int) := by decide +kernel
theorem or_zero8 : ∀ (x : Fin 256), bits BinOp.or IntKind.u8 (x.val : Int) 0 = (x.val : Int) := by decide +kernel
theorem byteOf_or (l : List Bool) (b : Bool) (h : l.length ≤ 7) : bits BinOp.or IntKind.u8 (byteOf l) ((b2n b * 2 ^ (7 - l.length) : Nat) : Int) = byteOf (l ++ [b]) := by
  have h8 := byteOf_u8 l (by omega)
  rw [byteOf_snoc l b h]
  have hx : byteOf l = ((byteOf l).toNat : Int) := by omega
  have hm : (byteOf l).toNat % 2 ^ (8 - l.length) = 0 := by
    unfold byteOf
    rw [Int.toNat_natCast]
    exact Nat.mul_mod_left _ _
  cases b
  · have := or_zero8 ⟨(byteOf l).toNat, by omega⟩
    simp only at this
    rw [← hx] at this
    simp [b2n, this]
  · have := or_bit ⟨l.length, by omega⟩ ⟨(byteOf l).toNat, by omega⟩ hm
    simp only at this
    rw [← hx] at this
    simp only [b2n, if_true, Nat.one_mul]
    rw [this]
    omega

/-- How many bytes so many bits have. -/
def nbytes (n : Nat) : Nat := (n + 7) / 8
/-- The bytes of a stream. -/
def pack (l : List Bool) : List Int := (List.range (nbytes l.length)).map (fun j => byteOf ((l.drop (8 * j)).take 8))
theorem pack_length (l : List Bool) : (pack l).length = nbytes l.length := by simp [pack]
theorem pack_get (l : List Bool) (j : Nat) : (pack l)[j]? = if j < nbytes l.length then some (byteOf ((l.drop (8 * j)).take 8)) else none := by
  unfold pack
  rw [List.getElem?_map]
  by_cases h : j < nbytes l.length
  · rw [if_pos h, List.getElem?_range h]; rfl
  · rw [if_neg h, List.getElem?_eq_none (by simp; omega)]; rfl
theorem pack_nil : pack [] = [] := rfl
def AllU8' (l : List Int) : Prop := ∀ x ∈ l, 0 ≤ x ∧ x < 256
theorem pack_u8 (l : List Bool) : AllU8' (pack l) := by
  intro x hx
  simp only [pack, List.mem_map] at hx
  obtain ⟨j, _, rfl⟩ := hx
  exact byteOf_u8 _ (by rw [List.length_take]; omega)
/-- The bytes before the next bit is or-ed: with a new byte, if the last one is full. -/
def packX (l : List Bool) : List Int := if l.length % 8 = 0 then pack l ++ [0] else pack l
theorem packX_length (l : List Bool) : (packX l).length = l.length / 8 + 1 := by
  unfold packX
  split
  · rw [List.length_append, pack_length]; unfold nbytes; simp; omega
  · rw [pack_length]; unfold nbytes; omega
theorem packX_last (l : List Bool) : (packX l)[l.length / 8]? = some (byteOf (l.drop (8 * (l.length / 8)))) := by
  unfold packX
  split
  · rename_i h
    have hl : (pack l).length = l.length / 8 := by rw [pack_length]; unfold nbytes; omega
    rw [List.getElem?_append_right (by omega), hl, Nat.sub_self, List.drop_of_length_le (by omega)]
    rfl
  · rename_i h
    rw [pack_get, if_pos (by unfold nbytes; omega), List.take_of_length_le (by rw [List.length_drop]; omega)]
theorem pack_push (l : List Bool) (b : Bool) : pack (l ++ [b]) = (packX l).set (l.length / 8) (byteOf (l.drop (8 * (l.length / 8)) ++ [b])) := by
  apply List.ext_getElem?
  intro j
  have hX := packX_length l
  rw [pack_get, List.getElem?_set, List.length_append, List.length_singleton, hX]
  have hn : nbytes (l.length + 1) = l.length / 8 + 1 := by unfold nbytes; omega
  rw [hn]
  by_cases hj : l.length / 8 = j
  · rw [if_pos (by omega), if_pos hj, if_pos (by omega), ← hj, List.drop_append_of_le_length (by omega), List.take_of_length_le (by simp; omega)]
  · rw [if_neg hj]
    by_cases hlt : j < l.length / 8 + 1
    · rw [if_pos hlt]
      have hp : (packX l)[j]? = (pack l)[j]? := by
        unfold packX
        split
        · rw [List.getElem?_append_left (by rw [pack_length]; unfold nbytes; omega)]
        · rfl
      rw [hp, pack_get, if_pos (by unfold nbytes; omega), List.drop_append_of_le_length (by omega), List.take_append_of_le_length (by simp; omega)]
    · rw [if_neg hlt, List.getElem?_eq_none (by omega)]
theorem packX_u8 (l : List Bool) : AllU8' (packX l) := by
  unfold packX
  split
  · intro x hx
    rcases List.mem_append.1 hx with h | h
    · exact pack_u8 l x h
    · rw [List.mem_singleton.1 h]; decide
  · exact pack_u8 l

/-- The bits of a value in unary. -/
def unaryB (n : Nat) : List Bool := List.replicate n true ++ [false]

/-! ### the bits of bytes -/
def unpack : List Int → List Bool
  | [] => []
  | x :: l => bitsN x.toNat 8 ++ unpack l
theorem unpack_length : ∀ l : List Int, (unpack l).length = 8 * l.length
  | [] => rfl
  | x :: l => by rw [unpack, List.length_append, bitsN_length, unpack_length l, List.length_cons]; omega
theorem unpack_append : ∀ l m : List Int, unpack (l ++ m) = unpack l ++ unpack m
  | [], m => rfl
  | x :: l, m => by rw [List.cons_append, unpack, unpack_append l m, unpack, List.append_assoc]
theorem unpack_get : ∀ (l : List Int) (t : Nat) (h : t / 8 < l.length), (unpack l)[t]? = some (decide (l[t / 8].toNat / 2 ^ (7 - t % 8) % 2 = 1))
  | [], t, h => by simp at h
  | x :: l, t, h => by
    rw [unpack]
    by_cases h8 : t < 8
    · have e0 : t / 8 = 0 := by omega
      rw [List.getElem?_append_left (by rw [bitsN_length]; exact h8), bitsN_get _ _ _ h8]
      simp only [e0, List.getElem_cons_zero]
      rw [show 7 - t % 8 = 8 - 1 - t by omega]
    · rw [List.getElem?_append_right (by rw [bitsN_length]; omega), bitsN_length]
      have e1 : t / 8 = (t - 8) / 8 + 1 := by omega
      have e2 : t % 8 = (t - 8) % 8 := by omega
      have hl : (t - 8) / 8 < l.length := by rw [List.length_cons] at h; omega
      have := unpack_get l (t - 8) hl
      rw [this]
      simp only [e1, e2, List.getElem_cons_succ]
theorem pack_cons8 {m : List Bool} (h : m.length = 8) (r : List Bool) : pack (m ++ r) = byteOf m :: pack r := by
  unfold pack
  have hn : nbytes (m ++ r).length = nbytes r.length + 1 := by rw [List.length_append, h]; unfold nbytes; omega
  rw [hn, List.range_succ_eq_map, List.map_cons, List.map_map]
  congr 1
  · rw [Nat.mul_zero, List.drop_zero, List.take_append_of_le_length (by omega), List.take_of_length_le (by omega)]
  · apply List.map_congr_left
    intro j _
    show byteOf _ = byteOf _
    rw [show 8 * (j.succ) = m.length + 8 * j by omega, List.drop_append, List.drop_of_length_le (by omega), List.nil_append, show m.length + 8 * j - m.length = 8 * j by omega]
theorem pack_unpack : ∀ l : List Int, AllU8' l → pack (unpack l) = l
  | [], _ => rfl
  | x :: l, h => by
    rw [unpack, pack_cons8 (bitsN_length _ _), pack_unpack l (fun y hy => h y (by simp [hy]))]
    have hx := h x (by simp)
    congr 1
    unfold byteOf
    rw [valB_bitsN, bitsN_length]
    simp only [Nat.sub_self, Nat.pow_zero, Nat.mul_one]
    have : x.toNat % 2 ^ 8 = x.toNat := Nat.mod_eq_of_lt (by omega)
    omega
theorem byteOf_pad (l : List Bool) (z : Nat) (h : l.length + z ≤ 8) : byteOf (l ++ List.replicate z false) = byteOf l := by
  have hz : ∀ z, valB (List.replicate z false) = 0 := by
    intro z
    induction z with
    | zero => rfl
    | succ z ih => rw [List.replicate_succ, valB_cons, ih]; simp [b2n]
  unfold byteOf
  rw [valB_append, hz, List.length_append, List.length_replicate, Nat.add_zero, Nat.mul_assoc, ← Nat.pow_add, show z + (8 - (l.length + z)) = 8 - l.length by omega]
/-- Bits 0 within the last byte change nothing. -/
theorem pack_pad (l : List Bool) (z : Nat) (h : nbytes (l.length + z) = nbytes l.length) : pack (l ++ List.replicate z false) = pack l := by
  unfold pack
  rw [List.length_append, List.length_replicate, h]
  apply List.map_congr_left
  intro j hj
  have hj := List.mem_range.1 hj
  unfold nbytes at h hj
  rw [List.drop_append_of_le_length (by omega)]
  by_cases hlt : 8 ≤ l.length - 8 * j
  · rw [List.take_append_of_le_length (by rw [List.length_drop]; omega)]
  · rw [List.take_of_length_le (by rw [List.length_append, List.length_drop, List.length_replicate]; omega), List.take_of_length_le (l := l.drop (8 * j)) (by rw [List.length_drop]; omega), byteOf_pad _ _ (by rw [List.length_drop]; omega)]
/-- The bits of a stream's bytes: the stream, and bits 0 up to the byte's end. -/
theorem unpack_pack (l : List Bool) : unpack (pack l) = l ++ List.replicate (8 * nbytes l.length - l.length) false := by
  have key : ∀ (n : Nat) (m : List Bool), m.length = 8 * n → unpack (pack m) = m := by
    intro n
    induction n with
    | zero =>
      intro m hm
      have hm0 : m = [] := List.length_eq_zero_iff.1 (by omega)
      subst hm0
      rfl
    | succ n ih =>
      intro m hm
      have e : m = m.take 8 ++ m.drop 8 := (List.take_append_drop 8 m).symm
      have h8 : (m.take 8).length = 8 := by rw [List.length_take]; omega
      rw [e, pack_cons8 h8, unpack, ih (m.drop 8) (by rw [List.length_drop]; omega)]
      congr 1
      have hb := bitsN_val (m.take 8)
      rw [h8] at hb
      unfold byteOf
      rw [h8, Int.toNat_natCast]
      simp only [Nat.sub_self, Nat.pow_zero, Nat.mul_one]
      exact hb
  have hp := pack_pad l (8 * nbytes l.length - l.length) (by unfold nbytes; omega)
  rw [← hp]
  exact key (nbytes l.length) _ (by rw [List.length_append, List.length_replicate]; unfold nbytes; omega)
end Go.Proofs.Ytkkhpdbognaioaa
