/- Values of all kinds: what is written is read again, what is read was written so, and a part of it is not enough. -/
import Derived.Test.YtkkhpdbognaioaaWireMath
namespace Go.Proofs.Ytkkhpdbognaioaa
set_option linter.unusedVariables false
set_option linter.unusedSimpArgs false

def I64 (x : Int) : Prop := -9223372036854775808 ≤ x ∧ x ≤ 9223372036854775807
def U8s (l : List Int) : Prop := ∀ x ∈ l, 0 ≤ x ∧ x < 256
/-- A value that may be written and read again. -/
structure VOk (v : Val) : Prop where
  k0 : 0 ≤ v.kind
  k5 : v.kind ≤ 5
  u0 : 0 ≤ v.u
  u1 : v.u < 18446744073709551616
  n0 : I64 v.n
  b8 : U8s v.b
  bl : v.b.length ≤ 1099511627776
  l64 : ∀ x ∈ v.l, I64 x
  ll : v.l.length ≤ 1099511627776
  zu : v.kind ≠ 0 → v.u = 0
  zn : v.kind ≠ 1 → v.kind ≠ 2 → v.n = 0
  n2 : v.kind = 2 → v.n = 0 ∨ v.n = 1
  zb : v.kind ≠ 3 → v.kind ≠ 4 → v.b = []
  zl : v.kind ≠ 5 → v.l = []

theorem iRd_enc : ∀ (l rest : List Int), (∀ x ∈ l, I64 x) → iRd l.length (encInts l ++ rest) = (l, rest, 0)
  | [], rest, _ => rfl
  | x :: l, rest, h => by
    have hx := h x (by simp)
    simp only [List.length_cons, encInts, List.append_assoc, iRd]
    rw [uRd_full _ (zz_lt x hx.1 hx.2)]
    simp only [if_true, iRd_enc l rest (fun y hy => h y (by simp [hy])), unzz_zz]
theorem encV_u8 (v : Val) (h : U8s v.b) : U8s (encV v) := by
  unfold encV
  intro x hx
  split at hx
  · exact encN_u8 _ x hx
  split at hx
  · exact encN_u8 _ x hx
  split at hx
  · simp at hx; split at hx <;> omega
  split at hx
  · rcases List.mem_append.1 hx with hx | hx
    · exact encN_u8 _ x hx
    · exact h x hx
  · rcases List.mem_append.1 hx with hx | hx
    · exact encN_u8 _ x hx
    · exact encInts_u8 _ x hx
theorem vRd_enc {v : Val} (h : VOk v) (rest : List Int) : vRd v.kind (encV v ++ rest) = (v, rest, 0) := by
  obtain ⟨k, u, n, b, l⟩ := v
  obtain ⟨k0, k5, u0, u1, n0, b8, bl, l64, ll, zu, zn, n2, zb, zl⟩ := h
  dsimp only at *
  unfold vRd encV
  dsimp only
  by_cases e0 : k = 0
  · have := zn (by omega) (by omega); have := zb (by omega) (by omega); have := zl (by omega)
    subst_vars
    rw [if_pos rfl, if_pos rfl, uRd_full _ (by omega), show ((u.toNat : Nat) : Int) = u by omega]
  by_cases e1 : k = 1
  · have := zu (by omega); have := zb (by omega) (by omega); have := zl (by omega)
    subst_vars
    rw [if_neg (by decide), if_pos rfl, if_neg (by decide), if_pos rfl, uRd_full _ (zz_lt n n0.1 n0.2), unzz_zz]
  by_cases e2 : k = 2
  · have := zu (by omega); have := zb (by omega) (by omega); have := zl (by omega); have := n2 e2
    subst_vars
    rcases n2 rfl with rfl | rfl <;> rfl
  by_cases e3 : k = 3 ∨ k = 4
  · have := zu (by omega); have := zn (by omega) (by omega); have := zl (by omega)
    subst_vars
    rw [if_neg e0, if_neg e1, if_neg e2, if_pos e3, if_neg e0, if_neg e1, if_neg e2, if_pos e3, rawRd, List.append_assoc, uRd_full _ (by omega)]
    simp only [if_true]
    rw [if_neg (by simp), List.take_left, List.drop_left]
  · have := zu (by omega); have := zn (by omega) (by omega); have := zb (by omega) (by omega)
    subst_vars
    rw [if_neg e0, if_neg e1, if_neg e2, if_neg e3, if_neg e0, if_neg e1, if_neg e2, if_neg e3, intsRd, List.append_assoc, uRd_full _ (by omega)]
    simp only [if_true]
    rw [if_neg (by have := encInts_len l; simp; omega), iRd_enc l rest l64]

/-- Reading all values with the same kinds. -/
def vsRd : List Val → List Int → List Val × List Int × Int
  | [], bs => ([], bs, 0)
  | v :: vs, bs => match vRd v.kind bs with
    | (x, r, e) => if e = 0 then (match vsRd vs r with | (l, r2, e2) => (x :: l, r2, e2)) else ([], r, e)
theorem vsRd_enc : ∀ (vs : List Val) (rest : List Int), (∀ v ∈ vs, VOk v) → vsRd vs (encVs vs ++ rest) = (vs, rest, 0)
  | [], rest, _ => rfl
  | v :: vs, rest, h => by
    simp only [vsRd, encVs, List.append_assoc, vRd_enc (h v (by simp)), if_true, vsRd_enc vs rest (fun x hx => h x (by simp [hx]))]

/-! ### what is read was written so -/
theorem iRd_back : ∀ (k : Nat) (bs l rest : List Int), U8s bs → iRd k bs = (l, rest, 0) → bs = encInts l ++ rest ∧ l.length = k ∧ ∀ x ∈ l, I64 x
  | 0, bs, l, rest, _, h => by
    simp only [iRd, Prod.mk.injEq] at h
    obtain ⟨rfl, rfl, _⟩ := h
    simp [encInts]
  | k + 1, bs, l, rest, hb, h => by
    rw [iRd] at h
    obtain ⟨v, bs1, e, h1⟩ : ∃ v bs1 e, uRd 0 0 bs = (v, bs1, e) := ⟨_, _, _, rfl⟩
    rw [h1] at h
    dsimp only at h
    split at h
    · rename_i e0
      subst e0
      obtain ⟨h2, h3⟩ := uRd_back0 hb h1
      obtain ⟨l2, bs2, e2, h4⟩ : ∃ l2 bs2 e2, iRd k bs1 = (l2, bs2, e2) := ⟨_, _, _, rfl⟩
      rw [h4] at h
      dsimp only at h
      split at h
      · rename_i e0
        subst e0
        simp only [Prod.mk.injEq] at h
        obtain ⟨rfl, rfl, _⟩ := h
        obtain ⟨h5, h6, h7⟩ := iRd_back k bs1 l2 bs2 (fun x hx => hb x (by rw [h2]; simp [hx])) h4
        refine ⟨by rw [h2, h5, encInts, zz_unzz, List.append_assoc], by simp [h6], fun x hx => ?_⟩
        rcases List.mem_cons.1 hx with rfl | hx
        · exact unzz_range v h3
        · exact h7 x hx
      · simp only [Prod.mk.injEq] at h
        rename_i hne
        exact absurd h.2.2 hne
    · simp only [Prod.mk.injEq] at h
      rename_i hne
      exact absurd h.2.2 hne
theorem vRd_back {k : Int} (hk0 : 0 ≤ k) (hk5 : k ≤ 5) {bs rest : List Int} {v : Val} (hb : U8s bs) (hl : bs.length ≤ 1099511627776) (h : vRd k bs = (v, rest, 0)) : v.kind = k ∧ bs = encV v ++ rest ∧ VOk v := by
  have hi : I64 0 := by unfold I64; omega
  have h8 : U8s [] := fun x hx => by simp at hx
  unfold vRd at h
  by_cases e0 : k = 0
  · rw [if_pos e0] at h
    obtain ⟨u, r, e, h1⟩ : ∃ u r e, uRd 0 0 bs = (u, r, e) := ⟨_, _, _, rfl⟩
    rw [h1] at h
    simp only [Prod.mk.injEq] at h
    obtain ⟨rfl, rfl, rfl⟩ := h
    obtain ⟨h2, h3⟩ := uRd_back0 hb h1
    subst e0
    exact ⟨rfl, by simpa [encV] using h2, ⟨by simp, by simp, by simp, (by show (u : Int) < _; omega), hi, h8, by simp, by simp, by simp, by simp, by simp, by simp, by simp, by simp⟩⟩
  rw [if_neg e0] at h
  by_cases e1 : k = 1
  · rw [if_pos e1] at h
    obtain ⟨u, r, e, h1⟩ : ∃ u r e, uRd 0 0 bs = (u, r, e) := ⟨_, _, _, rfl⟩
    rw [h1] at h
    simp only [Prod.mk.injEq] at h
    obtain ⟨rfl, rfl, rfl⟩ := h
    obtain ⟨h2, h3⟩ := uRd_back0 hb h1
    subst e1
    exact ⟨rfl, by simpa [encV, zz_unzz] using h2, ⟨by simp, by simp, by simp, by simp, unzz_range u h3, h8, by simp, by simp, by simp, by simp, by simp, by simp, by simp, by simp⟩⟩
  rw [if_neg e1] at h
  by_cases e2 : k = 2
  · rw [if_pos e2] at h
    subst e2
    rcases bs with _ | ⟨c, bs⟩
    · simp [boolRd] at h
    · have hc := hb c (by simp)
      simp only [boolRd] at h
      split at h
      · simp at h
      · simp only [Prod.mk.injEq] at h
        obtain ⟨rfl, rfl, _⟩ := h
        rename_i hc1
        refine ⟨rfl, ?_, ⟨by simp, by simp, by simp, by simp, ?_, h8, by simp, by simp, by simp, by simp, by simp, fun _ => ?_, by simp, by simp⟩⟩
        · by_cases ec : c = 1
          · subst ec; simp [encV]
          · obtain rfl : c = 0 := by omega
            simp [encV]
        · simp only; split <;> (unfold I64; omega)
        · simp only; split <;> simp
  rw [if_neg e2] at h
  by_cases e3 : k = 3 ∨ k = 4
  · rw [if_pos e3, rawRd] at h
    obtain ⟨u, r, e, h1⟩ : ∃ u r e, uRd 0 0 bs = (u, r, e) := ⟨_, _, _, rfl⟩
    rw [h1] at h
    dsimp only at h
    by_cases ez : e = 0
    · subst ez
      rw [if_pos rfl] at h
      by_cases hlt : r.length < u
      · rw [if_pos hlt] at h; simp at h
      · rw [if_neg hlt] at h
        simp only [Prod.mk.injEq] at h
        obtain ⟨rfl, rfl, _⟩ := h
        obtain ⟨h2, h3⟩ := uRd_back0 hb h1
        have hrl : r.length ≤ bs.length := by rw [h2]; simp
        have htl : (r.take u).length = u := by rw [List.length_take]; omega
        have hb1 : U8s (r.take u) := fun x hx => hb x (by rw [h2]; exact List.mem_append_right _ (List.mem_of_mem_take hx))
        have he : bs = (encN u ++ r.take u) ++ r.drop u := by rw [List.append_assoc, List.take_append_drop]; exact h2
        refine ⟨rfl, ?_, ⟨hk0, hk5, by simp, by simp, hi, hb1, (by dsimp only; omega), by simp, by simp, by simp, by simp, fun e => by dsimp only at e; omega, fun e e' => by dsimp only at e e'; omega, by simp⟩⟩
        simp only [encV]
        rw [if_neg e0, if_neg e1, if_neg e2, if_pos e3, htl]
        exact he
    · rw [if_neg ez] at h
      simp only [Prod.mk.injEq] at h
      exact absurd h.2.2 ez
  · rw [if_neg e3, intsRd] at h
    obtain ⟨u, r, e, h1⟩ : ∃ u r e, uRd 0 0 bs = (u, r, e) := ⟨_, _, _, rfl⟩
    rw [h1] at h
    dsimp only at h
    by_cases ez : e = 0
    · subst ez
      rw [if_pos rfl] at h
      by_cases hlt : r.length < u
      · rw [if_pos hlt] at h; simp at h
      · rw [if_neg hlt] at h
        obtain ⟨l, r2, e2', h4⟩ : ∃ l r2 e2', iRd u r = (l, r2, e2') := ⟨_, _, _, rfl⟩
        rw [h4] at h
        simp only [Prod.mk.injEq] at h
        obtain ⟨rfl, rfl, rfl⟩ := h
        obtain ⟨h2, h3⟩ := uRd_back0 hb h1
        obtain ⟨h5, h6, h7⟩ := iRd_back u r l r2 (fun x hx => hb x (by rw [h2]; simp [hx])) h4
        have hrl : r.length ≤ bs.length := by rw [h2]; simp
        refine ⟨rfl, ?_, ⟨hk0, hk5, by simp, by simp, hi, h8, by simp, h7, (by dsimp only; omega), by simp, by simp, fun e => by dsimp only at e; omega, by simp, fun e => by dsimp only at e; omega⟩⟩
        simp only [encV]
        rw [if_neg e0, if_neg e1, if_neg e2, if_neg e3, h6, List.append_assoc, ← h5]
        exact h2
    · rw [if_neg ez] at h
      simp only [Prod.mk.injEq] at h
      exact absurd h.2.2 ez

/-! ### a part is not enough -/
theorem iRd_part : ∀ (l p q : List Int), (∀ x ∈ l, I64 x) → encInts l = p ++ q → q ≠ [] → (iRd l.length p).2.2 = 3 ∧ (iRd l.length p).1 = []
  | [], p, q, _, h, hq => by
    simp only [encInts] at h
    exact absurd (List.append_eq_nil_iff.1 h.symm).2 hq
  | x :: l, p, q, hx, h, hq => by
    have hx1 := hx x (by simp)
    simp only [encInts] at h
    simp only [List.length_cons, iRd]
    rcases List.append_eq_append_iff.1 h with ⟨m, rfl, h2⟩ | ⟨m, h1, h2⟩
    · rw [uRd_full _ (zz_lt x hx1.1 hx1.2)]
      have ih := iRd_part l m q (fun y hy => hx y (by simp [hy])) h2 hq
      simp only [if_true]
      rw [ih.1]
      simp
    · by_cases hm : m = []
      · subst hm
        rw [List.append_nil] at h1
        subst h1
        have := uRd_full (zz x) (zz_lt x hx1.1 hx1.2) []
        rw [List.append_nil] at this
        rw [this]
        rw [List.nil_append] at h2
        have ih := iRd_part l [] q (fun y hy => hx y (by simp [hy])) h2.symm hq
        simp only [if_true]
        rw [ih.1]
        simp
      · rw [uRd_part (zz x) 0 0 p m (by omega) (by have := zz_lt x hx1.1 hx1.2; omega) (fun h => by omega) h1 hm]
        simp
theorem vRd_part {v : Val} (h : VOk v) (p q : List Int) (he : encV v = p ++ q) (hq : q ≠ []) : (vRd v.kind p).2.2 = 3 := by
  obtain ⟨k, u, n, b, l⟩ := v
  obtain ⟨k0, k5, u0, u1, n0, b8, bl, l64, ll, zu, zn, n2, zb, zl⟩ := h
  dsimp only at *
  unfold encV at he
  unfold vRd
  dsimp only at he
  by_cases e0 : k = 0
  · rw [if_pos e0] at he
    rw [if_pos e0, uRd_part _ 0 0 p q (by omega) (by omega) (fun h => by omega) he hq]
  rw [if_neg e0] at he ⊢
  by_cases e1 : k = 1
  · rw [if_pos e1] at he
    rw [if_pos e1, uRd_part _ 0 0 p q (by omega) (by have := zz_lt n n0.1 n0.2; omega) (fun h => by omega) he hq]
  rw [if_neg e1] at he ⊢
  by_cases e2 : k = 2
  · rw [if_pos e2] at he
    rw [if_pos e2]
    rcases p with _ | ⟨c, p⟩
    · rfl
    · rw [List.cons_append] at he
      injection he with _ he
      exact absurd (List.append_eq_nil_iff.1 he.symm).2 hq
  rw [if_neg e2] at he ⊢
  by_cases e3 : k = 3 ∨ k = 4
  · rw [if_pos e3] at he
    rw [if_pos e3, rawRd]
    rcases List.append_eq_append_iff.1 he with ⟨m, rfl, h2⟩ | ⟨m, h1, h2⟩
    · rw [uRd_full _ (by omega)]
      have : m.length < b.length := by
        have := congrArg List.length h2
        have := List.length_pos_iff.2 hq
        rw [List.length_append] at *
        omega
      simp only [if_true]
      rw [if_pos this]
    · by_cases hm : m = []
      · subst hm
        rw [List.append_nil] at h1
        subst h1
        have := uRd_full b.length (by omega) []
        rw [List.append_nil] at this
        rw [this]
        have : 0 < b.length := by
          rw [List.nil_append] at h2
          rw [← h2]
          exact List.length_pos_iff.2 hq
        simp only [if_true, List.length_nil]
        rw [if_pos this]
      · rw [uRd_part b.length 0 0 p m (by omega) (by omega) (fun h => by omega) h1 hm]
        simp
  · rw [if_neg e3] at he ⊢
    rw [intsRd]
    rcases List.append_eq_append_iff.1 he with ⟨m, rfl, h2⟩ | ⟨m, h1, h2⟩
    · rw [uRd_full _ (by omega)]
      simp only [if_true]
      split
      · rfl
      · exact (iRd_part l m q l64 h2 hq).1
    · by_cases hm : m = []
      · subst hm
        rw [List.append_nil] at h1
        subst h1
        have := uRd_full l.length (by omega) []
        rw [List.append_nil] at this
        rw [this]
        simp only [if_true]
        split
        · rfl
        · rw [List.nil_append] at h2
          exact (iRd_part l [] q l64 h2.symm hq).1
      · rw [uRd_part l.length 0 0 p m (by omega) (by omega) (fun h => by omega) h1 hm]
        simp
/-- Reading all values of a part: ErrMore. -/
theorem vsRd_part : ∀ (vs : List Val) (p q : List Int), (∀ v ∈ vs, VOk v) → encVs vs = p ++ q → q ≠ [] → (vsRd vs p).2.2 = 3
  | [], p, q, _, h, hq => by
    simp only [encVs] at h
    exact absurd (List.append_eq_nil_iff.1 h.symm).2 hq
  | v :: vs, p, q, hv, h, hq => by
    have h1 := hv v (by simp)
    simp only [encVs] at h
    simp only [vsRd]
    rcases List.append_eq_append_iff.1 h with ⟨m, rfl, h2⟩ | ⟨m, h3, h2⟩
    · rw [vRd_enc h1]
      exact vsRd_part vs m q (fun x hx => hv x (by simp [hx])) h2 hq
    · by_cases hm : m = []
      · subst hm
        rw [List.append_nil] at h3
        subst h3
        have := vRd_enc h1 []
        rw [List.append_nil] at this
        rw [this]
        rw [List.nil_append] at h2
        exact vsRd_part vs [] q (fun x hx => hv x (by simp [hx])) h2.symm hq
      · have := vRd_part h1 p m h3 hm
        obtain ⟨a, b, c, e⟩ : ∃ a b c, vRd v.kind p = (a, b, c) := ⟨_, _, _, rfl⟩
        rw [e] at this ⊢
        dsimp only at this ⊢
        subst this
        rw [if_neg (by decide)]
end Go.Proofs.Ytkkhpdbognaioaa

