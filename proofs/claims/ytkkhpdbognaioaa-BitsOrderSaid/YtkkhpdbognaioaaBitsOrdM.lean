/- Plain laws: the order of the bytes of streams. -/
import Derived.Test.YtkkhpdbognaioaaBitsMath
import Derived.Laws.BytesArg
import Derived.Lib.Bytes
namespace Go.Proofs.Ytkkhpdbognaioaa
set_option linter.unusedVariables false
set_option linter.unusedSimpArgs false
open Go.RowKit

def by8 (l : List Int) : List UInt8 := l.map fun n => UInt8.ofNat n.toNat
theorem str_by8 (l : List Int) : (strOfNums l).toList = by8 l := by rw [Lib.toList_data]; rfl
theorem unpack_val (x : Int) (X : List Int) (hx : 0 ≤ x ∧ x < 256) : valB (unpack (x :: X)) = x.toNat * 2 ^ (8 * X.length) + valB (unpack X) := by
  have h8 : x.toNat < 2 ^ 8 := by
    have : (2 : Nat) ^ 8 = 256 := by decide
    omega
  rw [unpack, valB_append, valB_bitsN, unpack_length, Nat.mod_eq_of_lt h8]
theorem unpack_lt (X : List Int) : valB (unpack X) < 2 ^ (8 * X.length) := by
  have := valB_lt (unpack X)
  rwa [unpack_length] at this
theorem two_digits {a b u v M : Nat} (hu : u < M) (hv : v < M) : a * M + u < b * M + v ↔ a < b ∨ (a = b ∧ u < v) := by
  constructor
  · intro h
    by_cases hab : a = b
    · subst hab; exact .inr ⟨rfl, by omega⟩
    · refine .inl (Nat.lt_of_not_le fun hba => ?_)
      have : (b + 1) * M ≤ a * M := Nat.mul_le_mul_right M (by omega)
      rw [Nat.add_mul] at this
      omega
  · rintro (h | ⟨rfl, h⟩)
    · have : (a + 1) * M ≤ b * M := Nat.mul_le_mul_right M (by omega)
      rw [Nat.add_mul] at this
      omega
    · omega
theorem less_val : ∀ (X Y : List Int), X.length = Y.length → AllU8' X → AllU8' Y → (Op.bytesLess (by8 X) (by8 Y) = true ↔ valB (unpack X) < valB (unpack Y))
  | [], [], _, _, _ => by simp [by8, Op.bytesLess, unpack]
  | [], _ :: _, h, _, _ => by simp at h
  | _ :: _, [], h, _, _ => by simp at h
  | x :: X, y :: Y, h, hX, hY => by
    have hx := hX x (by simp)
    have hy := hY y (by simp)
    have hl : X.length = Y.length := by simpa using h
    have ih := less_val X Y hl (fun z hz => hX z (by simp [hz])) (fun z hz => hY z (by simp [hz]))
    rw [unpack_val x X hx, unpack_val y Y hy, hl, two_digits (by rw [← hl]; exact unpack_lt X) (unpack_lt Y), ← ih]
    have e1 : (UInt8.ofNat x.toNat < UInt8.ofNat y.toNat) ↔ x.toNat < y.toNat := by
      rw [UInt8.lt_iff_toNat_lt, UInt8.toNat_ofNat', UInt8.toNat_ofNat']
      omega
    have e2 : (UInt8.ofNat x.toNat = UInt8.ofNat y.toNat) ↔ x.toNat = y.toNat := by
      rw [← UInt8.toNat_inj, UInt8.toNat_ofNat', UInt8.toNat_ofNat']
      omega
    show Op.bytesLess (UInt8.ofNat x.toNat :: by8 X) (UInt8.ofNat y.toNat :: by8 Y) = true ↔ _
    rw [Op.bytesLess]
    simp only [Bool.or_eq_true, decide_eq_true_eq, Bool.and_eq_true, beq_iff_eq, e1, e2]
theorem by8_inj : ∀ {X Y : List Int}, AllU8' X → AllU8' Y → by8 X = by8 Y → X = Y
  | [], [], _, _, _ => rfl
  | [], _ :: _, _, _, h => by simp [by8] at h
  | _ :: _, [], _, _, h => by simp [by8] at h
  | x :: X, y :: Y, hX, hY, h => by
    have hx := hX x (by simp)
    have hy := hY y (by simp)
    simp only [by8, List.map_cons, List.cons.injEq] at h
    obtain ⟨h1, h2⟩ := h
    have e2 : x.toNat = y.toNat := by
      rw [← UInt8.toNat_inj, UInt8.toNat_ofNat', UInt8.toNat_ofNat'] at h1
      omega
    rw [by8_inj (fun z hz => hX z (by simp [hz])) (fun z hz => hY z (by simp [hz])) h2, show x = y by omega]
theorem valB_zeros (z : Nat) : valB (List.replicate z false) = 0 := by
  induction z with
  | zero => rfl
  | succ z ih => rw [List.replicate_succ, valB_cons, ih]; simp [b2n]
theorem pack_val (S : List Bool) : valB (unpack (pack S)) = valB S * 2 ^ (8 * nbytes S.length - S.length) := by
  rw [unpack_pack, valB_append, valB_zeros, List.length_replicate, Nat.add_zero]
/-- The order of the bytes behind a common beginning. -/
theorem order_less (S0 : List Bool) (m n c : Nat) : (Op.bytesLess (strOfNums (pack (S0 ++ bitsN m c))).toList (strOfNums (pack (S0 ++ bitsN n c))).toList = true ↔ m % 2 ^ c < n % 2 ^ c) := by
  have hl : (S0 ++ bitsN m c).length = (S0 ++ bitsN n c).length := by simp [bitsN_length]
  rw [str_by8, str_by8, less_val _ _ (by rw [pack_length, pack_length, hl]) (pack_u8 _) (pack_u8 _), pack_val, pack_val, hl, valB_append, valB_append, valB_bitsN, valB_bitsN, bitsN_length, bitsN_length]
  generalize 8 * nbytes (S0 ++ bitsN n c).length - (S0 ++ bitsN n c).length = z
  rw [Nat.mul_lt_mul_right (Nat.two_pow_pos z)]
  omega
theorem order_eq (S0 : List Bool) (m n c : Nat) : ((strOfNums (pack (S0 ++ bitsN m c))).toList = (strOfNums (pack (S0 ++ bitsN n c))).toList ↔ m % 2 ^ c = n % 2 ^ c) := by
  rw [str_by8, str_by8]
  constructor
  · intro h
    have h1 := congrArg unpack (by8_inj (pack_u8 _) (pack_u8 _) h)
    rw [unpack_pack, unpack_pack] at h1
    have h2 := List.append_inj_left h1 (by simp [bitsN_length])
    exact bitsN_inj (List.append_cancel_left h2)
  · intro h
    rw [← bitsN_mod m c, h, bitsN_mod]
theorem order_len (S0 : List Bool) (m n c : Nat) : (pack (S0 ++ bitsN m c)).length = (pack (S0 ++ bitsN n c)).length := by
  rw [pack_length, pack_length]; simp [bitsN_length]
end Go.Proofs.Ytkkhpdbognaioaa
