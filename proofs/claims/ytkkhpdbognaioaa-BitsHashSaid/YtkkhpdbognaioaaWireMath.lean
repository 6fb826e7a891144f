/- The varint encoding as plain functions on lists: what is written is read again, what is read was written so, and a part of it is not enough. -/
namespace Go.Proofs.Ytkkhpdbognaioaa
set_option linter.unusedVariables false
set_option linter.unusedSimpArgs false

/-- The varint of a number. -/
def encN (n : Nat) : List Int := if n < 128 then [(n : Int)] else ((n % 128 + 128 : Nat) : Int) :: encN (n / 128)
termination_by n
decreasing_by omega
theorem encN_lt {n : Nat} (h : n < 128) : encN n = [(n : Int)] := by rw [encN, if_pos h]
theorem encN_ge {n : Nat} (h : 128 ≤ n) : encN n = ((n % 128 + 128 : Nat) : Int) :: encN (n / 128) := by rw [encN, if_neg (by omega)]
theorem encN_pos (n : Nat) : 1 ≤ (encN n).length := by
  by_cases h : n < 128
  · rw [encN_lt h]; simp
  · rw [encN_ge (by omega)]; simp
theorem encN_u8 : ∀ n : Nat, ∀ x ∈ encN n, 0 ≤ x ∧ x < 256 := by
  intro n
  induction n using Nat.strongRecOn with
  | ind n ih =>
    intro x hx
    by_cases h : n < 128
    · rw [encN_lt h] at hx; simp at hx; omega
    · rw [encN_ge (by omega)] at hx
      rcases List.mem_cons.1 hx with h1 | h1
      · omega
      · exact ih (n / 128) (by omega) x h1
theorem encN_len (j : Nat) : ∀ n : Nat, n < 128 ^ (j + 1) → (encN n).length ≤ j + 1 := by
  induction j with
  | zero => intro n h; rw [encN_lt (by omega)]; simp
  | succ j ih =>
    intro n h
    by_cases h1 : n < 128
    · rw [encN_lt h1]; simp
    · rw [encN_ge (by omega), List.length_cons]
      have := ih (n / 128) (by rw [Nat.pow_succ] at h; exact Nat.div_lt_of_lt_mul (by omega))
      omega
theorem encN_inj : ∀ m n : Nat, encN m = encN n → m = n := by
  intro m
  induction m using Nat.strongRecOn with
  | ind m ih =>
    intro n h
    by_cases h1 : m < 128 <;> by_cases h2 : n < 128
    · rw [encN_lt h1, encN_lt h2] at h; simp at h; omega
    · rw [encN_lt h1, encN_ge (by omega)] at h
      injection h with _ h
      have := encN_pos (n / 128)
      rw [← h] at this
      simp at this
    · rw [encN_lt h2, encN_ge (by omega)] at h
      injection h with _ h
      have := encN_pos (m / 128)
      rw [h] at this
      simp at this
    · rw [encN_ge (by omega), encN_ge (by omega : 128 ≤ n)] at h
      injection h with h3 h4
      have := ih (m / 128) (by omega) (n / 128) h4
      omega

/-- The zigzag form. -/
def zz (n : Int) : Nat := if n < 0 then (-(n + 1)).toNat * 2 + 1 else n.toNat * 2
def unzz (z : Nat) : Int := if z % 2 = 1 then -((z / 2 : Nat) : Int) - 1 else ((z / 2 : Nat) : Int)
theorem unzz_zz (n : Int) : unzz (zz n) = n := by
  unfold unzz zz
  split <;> split <;> omega
theorem zz_unzz (z : Nat) : zz (unzz z) = z := by
  unfold unzz zz
  split <;> split <;> omega
theorem zz_lt (n : Int) (h : -9223372036854775808 ≤ n) (h' : n ≤ 9223372036854775807) : zz n < 18446744073709551616 := by
  unfold zz
  split <;> omega
theorem unzz_range (z : Nat) (h : z < 18446744073709551616) : -9223372036854775808 ≤ unzz z ∧ unzz z ≤ 9223372036854775807 := by
  unfold unzz
  split <;> omega

/-- Reading a varint: the number, what is left, the error. -/
def uRd (i n : Nat) : List Int → Nat × List Int × Int
  | [] => (0, [], 3)
  | c :: bs => if i = 9 ∧ 1 < c ∨ 0 < i ∧ c = 0 then (0, bs, 2) else if c < 128 then (n + c.toNat * 128 ^ i, bs, 0) else uRd (i + 1) (n + (c.toNat - 128) * 128 ^ i) bs

theorem uRd_enc (m : Nat) : ∀ (i n : Nat) (rest : List Int), i ≤ 9 → m * 128 ^ i < 18446744073709551616 → (0 < i → m ≠ 0) → uRd i n (encN m ++ rest) = (n + m * 128 ^ i, rest, 0) := by
  induction m using Nat.strongRecOn with
  | ind m ih =>
    intro i n rest hi hm h0
    by_cases h : m < 128
    · have h9 : ¬ (i = 9 ∧ 1 < (m : Int) ∨ 0 < i ∧ (m : Int) = 0) := by
        rintro (⟨rfl, h9⟩ | ⟨h9, h9'⟩)
        · simp only [Nat.reducePow] at hm; omega
        · have := h0 h9; omega
      rw [encN_lt h, List.singleton_append, uRd, if_neg h9, if_pos (by omega)]
      simp
    · have hi9 : i ≠ 9 := by
        rintro rfl
        simp only [Nat.reducePow] at hm
        omega
      rw [encN_ge (by omega), List.cons_append, uRd, if_neg (by omega), if_neg (by omega)]
      have e1 : (m / 128) * 128 ^ (i + 1) + m % 128 * 128 ^ i = m * 128 ^ i := by
        rw [Nat.pow_succ, Nat.mul_comm (128 ^ i) 128, ← Nat.mul_assoc, ← Nat.add_mul]
        congr 1
        omega
      rw [ih (m / 128) (by omega) (i + 1) _ rest (by omega) (by have := Nat.le_add_right ((m / 128) * 128 ^ (i + 1)) (m % 128 * 128 ^ i); omega) (fun _ => by omega)]
      have e2 : (((m % 128 + 128 : Nat) : Int).toNat - 128) = m % 128 := by omega
      rw [e2, Nat.add_assoc, Nat.add_comm (m % 128 * 128 ^ i), e1]

theorem uRd_full (m : Nat) (hm : m < 18446744073709551616) (rest : List Int) : uRd 0 0 (encN m ++ rest) = (m, rest, 0) := by
  have := uRd_enc m 0 0 rest (by omega) (by simpa using hm) (fun h => by omega)
  simpa using this

theorem pow_room {m K d J q : Nat} (h1 : K * q = 2 ^ 64) (h2 : m * K < 18446744073709551616) (h3 : d * J + J ≤ K) (h4 : 0 < J) : m * K + d * J < 18446744073709551616 := by
  have e : (2 : Nat) ^ 64 = 18446744073709551616 := by simp only [Nat.reducePow]
  rw [e] at h1
  have h5 : m < q := Nat.lt_of_mul_lt_mul_right (a := K) (by rw [Nat.mul_comm q K, h1]; exact h2)
  have h6 : (m + 1) * K ≤ q * K := Nat.mul_le_mul_right _ h5
  rw [Nat.mul_comm q K, h1, Nat.add_mul, Nat.one_mul] at h6
  omega
/-- What is read was written so. -/
theorem uRd_back (bs : List Int) : ∀ (i n v : Nat) (rest : List Int), (∀ x ∈ bs, 0 ≤ x ∧ x < 256) → i ≤ 9 → uRd i n bs = (v, rest, 0) → ∃ m : Nat, bs = encN m ++ rest ∧ v = n + m * 128 ^ i ∧ (0 < i → m ≠ 0) ∧ m * 128 ^ i < 18446744073709551616 := by
  induction bs with
  | nil => intro i n v rest _ _ h; simp [uRd] at h
  | cons c bs ih =>
    intro i n v rest hb hi h
    have hc := hb c (by simp)
    rw [uRd] at h
    split at h
    · simp at h
    · rename_i h9
      split at h
      · rename_i hlt
        simp only [Prod.mk.injEq] at h
        obtain ⟨rfl, rfl, _⟩ := h
        refine ⟨c.toNat, ?_, rfl, fun h0 e => ?_, ?_⟩
        · rw [encN_lt (by omega), List.singleton_append, show ((c.toNat : Nat) : Int) = c by omega]
        · exact h9 (.inr ⟨h0, by omega⟩)
        · by_cases e : i = 9
          · subst e
            have : ¬ 1 < c := fun h => h9 (.inl ⟨rfl, h⟩)
            simp only [Nat.reducePow]
            omega
          · have : 128 ^ i ≤ 128 ^ 8 := Nat.pow_le_pow_right (by omega) (by omega)
            simp only [Nat.reducePow] at this
            calc c.toNat * 128 ^ i ≤ 127 * 128 ^ i := Nat.mul_le_mul_right _ (by omega)
              _ < 18446744073709551616 := by omega
      · rename_i hge
        have hi9 : i ≠ 9 := fun e => h9 (.inl ⟨e, by omega⟩)
        obtain ⟨m, rfl, hv, hm0, hm⟩ := ih (i + 1) _ v rest (fun x hx => hb x (by simp [hx])) (by omega) h
        have e1 : (m * 128 + (c.toNat - 128)) * 128 ^ i = m * 128 ^ (i + 1) + (c.toNat - 128) * 128 ^ i := by
          rw [Nat.add_mul, Nat.pow_succ, Nat.mul_comm (128 ^ i) 128, ← Nat.mul_assoc]
        refine ⟨m * 128 + (c.toNat - 128), ?_, ?_, fun _ => by have := hm0 (by omega); omega, ?_⟩
        · rw [encN_ge (n := m * 128 + (c.toNat - 128)) (by have := hm0 (by omega); omega), show (m * 128 + (c.toNat - 128)) / 128 = m by omega, show (((m * 128 + (c.toNat - 128)) % 128 + 128 : Nat) : Int) = c by omega, List.cons_append]
        · rw [hv, e1]; omega
        · rw [e1]
          have hk : (c.toNat - 128) * 128 ^ i + 128 ^ i ≤ 128 ^ (i + 1) := by
            rw [Nat.pow_succ, Nat.mul_comm (128 ^ i) 128, ← Nat.succ_mul]
            exact Nat.mul_le_mul_right _ (by omega)
          have hp : 0 < 128 ^ i := Nat.pow_pos (by omega)
          exact pow_room (q := 2 ^ (57 - 7 * i)) (by rw [show (128 : Nat) = 2 ^ 7 from rfl, ← Nat.pow_mul, ← Nat.pow_add, show 7 * (i + 1) + (57 - 7 * i) = 64 by omega]) hm hk hp

theorem uRd_back0 {bs rest : List Int} {v : Nat} (hb : ∀ x ∈ bs, 0 ≤ x ∧ x < 256) (h : uRd 0 0 bs = (v, rest, 0)) : bs = encN v ++ rest ∧ v < 18446744073709551616 := by
  obtain ⟨m, h1, h2, _, h3⟩ := uRd_back bs 0 0 v rest hb (by omega) h
  simp at h2 h3
  subst h2
  exact ⟨h1, h3⟩
/-- A part of it is not enough. -/
theorem uRd_part (m : Nat) : ∀ (i n : Nat) (p q : List Int), i ≤ 9 → m * 128 ^ i < 18446744073709551616 → (0 < i → m ≠ 0) → encN m = p ++ q → q ≠ [] → uRd i n p = (0, [], 3) := by
  induction m using Nat.strongRecOn with
  | ind m ih =>
    intro i n p q hi hm h0 he hq
    rcases p with _ | ⟨c, p⟩
    · rfl
    · by_cases h : m < 128
      · rw [encN_lt h, List.cons_append] at he
        injection he with _ he
        exact absurd (List.append_eq_nil_iff.1 he.symm).2 hq
      · have hi9 : i ≠ 9 := by
          rintro rfl
          simp only [Nat.reducePow] at hm
          omega
        rw [encN_ge (by omega), List.cons_append] at he
        injection he with hc he
        subst hc
        rw [uRd, if_neg (by omega), if_neg (by omega)]
        have e1 : (m / 128) * 128 ^ (i + 1) + m % 128 * 128 ^ i = m * 128 ^ i := by
          rw [Nat.pow_succ, Nat.mul_comm (128 ^ i) 128, ← Nat.mul_assoc, ← Nat.add_mul]
          congr 1
          omega
        exact ih (m / 128) (by omega) (i + 1) _ p q (by omega) (by have := Nat.le_add_right ((m / 128) * 128 ^ (i + 1)) (m % 128 * 128 ^ i); omega) (fun _ => by omega) he hq
theorem uRd_err (bs : List Int) : ∀ i n : Nat, (uRd i n bs).2.2 = 0 ∨ ((uRd i n bs).2.2 = 2 ∨ (uRd i n bs).2.2 = 3) ∧ (uRd i n bs).1 = 0 := by
  induction bs with
  | nil => intro i n; simp [uRd]
  | cons c bs ih =>
    intro i n
    rw [uRd]
    split
    · simp
    · split
      · simp
      · exact ih _ _

/-! ### values -/
structure Val where
  kind : Int
  u : Int
  n : Int
  b : List Int
  l : List Int
def encInts : List Int → List Int
  | [] => []
  | x :: l => encN (zz x) ++ encInts l
def encV (v : Val) : List Int :=
  if v.kind = 0 then encN v.u.toNat else if v.kind = 1 then encN (zz v.n) else if v.kind = 2 then [if v.n = 1 then 1 else 0]
  else if v.kind = 3 ∨ v.kind = 4 then encN v.b.length ++ v.b else encN v.l.length ++ encInts v.l
def encVs : List Val → List Int
  | [] => []
  | v :: l => encV v ++ encVs l
theorem encVs_append : ∀ l m : List Val, encVs (l ++ m) = encVs l ++ encVs m
  | [], m => rfl
  | v :: l, m => by simp [encVs, encVs_append l m]
theorem encInts_append : ∀ l m : List Int, encInts (l ++ m) = encInts l ++ encInts m
  | [], m => rfl
  | v :: l, m => by simp [encInts, encInts_append l m]
theorem encInts_u8 : ∀ l : List Int, ∀ x ∈ encInts l, 0 ≤ x ∧ x < 256
  | [], x, h => by simp [encInts] at h
  | y :: l, x, h => by
    rcases List.mem_append.1 h with h | h
    · exact encN_u8 _ x h
    · exact encInts_u8 l x h
theorem encInts_len : ∀ l : List Int, l.length ≤ (encInts l).length
  | [] => by simp [encInts]
  | y :: l => by
    have := encInts_len l
    have := encN_pos (zz y)
    simp only [encInts, List.length_append, List.length_cons]
    omega

/-- Reading a list of signed numbers. -/
def iRd : Nat → List Int → List Int × List Int × Int
  | 0, bs => ([], bs, 0)
  | k + 1, bs => match uRd 0 0 bs with
    | (v, bs1, e) => if e = 0 then (match iRd k bs1 with | (l, bs2, e2) => if e2 = 0 then (unzz v :: l, bs2, 0) else ([], bs2, e2)) else ([], bs1, e)
/-- Reading a byte slice. -/
def rawRd (bs : List Int) : List Int × List Int × Int :=
  match uRd 0 0 bs with
  | (v, bs1, e) => if e = 0 then (if bs1.length < v then ([], bs1, 3) else (bs1.take v, bs1.drop v, 0)) else ([], bs1, e)
def intsRd (bs : List Int) : List Int × List Int × Int :=
  match uRd 0 0 bs with
  | (v, bs1, e) => if e = 0 then (if bs1.length < v then ([], bs1, 3) else iRd v bs1) else ([], bs1, e)
def boolRd : List Int → Bool × List Int × Int
  | [] => (false, [], 3)
  | c :: bs => if 1 < c then (false, bs, 2) else (decide (c = 1), bs, 0)
/-- Reading a value of a kind. -/
def vRd (kind : Int) (bs : List Int) : Val × List Int × Int :=
  if kind = 0 then (match uRd 0 0 bs with | (v, r, e) => (⟨kind, v, 0, [], []⟩, r, e))
  else if kind = 1 then (match uRd 0 0 bs with | (v, r, e) => (⟨kind, 0, unzz v, [], []⟩, r, e))
  else if kind = 2 then (match boolRd bs with | (v, r, e) => (⟨kind, 0, if v = true then 1 else 0, [], []⟩, r, e))
  else if kind = 3 ∨ kind = 4 then (match rawRd bs with | (v, r, e) => (⟨kind, 0, 0, v, []⟩, r, e))
  else (match intsRd bs with | (v, r, e) => (⟨kind, 0, 0, [], v⟩, r, e))
end Go.Proofs.Ytkkhpdbognaioaa

