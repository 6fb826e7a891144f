/- Values as structs: a row of values; writing a value, writing all of a row. -/
import Derived.Test.YthkmfmcofkcjeaaWireLives
import Derived.Test.YthkmfmcofkcjeaaSep5
namespace Go.Proofs.Ythkmfmcofkcjeaa
set_option linter.unusedVariables false
set_option linter.unusedSimpArgs false
open Go.RowKit Go.Shelf Go.Proofs.YthkmfmcofkcjeaaW.PrintWords Go.Proofs.YthkmfmcofkcjeaaW.PrintLast Go.Proofs.YthkmfmcofkcjeaaW.PrintMore

/-- A value's five cells. -/
def valK : Kd Val := Kd.iso (Kd.pair (Kd.int .i64) (Kd.pair (Kd.int .u64) (Kd.pair (Kd.int .i64) (Kd.pair (Kd.slice 5 (Kd.int .u8)) (Kd.slice 3 (Kd.int .i64)))))) (fun v => (v.kind, v.u, v.n, v.b, v.l))
theorem valK_sz : valK.sz = 5 := rfl
theorem info_val : (Try.prog.info? 47).map (fun i => (i.zero, i.size, i.bytes)) = some (some (.agg #[.int .i64 0, .int .u64 0, .int .i64 0, .slice none 0 0, .slice none 0 0]), 5, 72) := by kernel_rfl
section
variable {w : World} {F : List Hp} {x : Val} {cs : List Value} {vb vl : Value} {k u n : Int} {b l : List Int}
/-- The cells of a value whose rows are vb, vl. -/
def valCells (k u n : Int) (vb vl : Value) : List Value := [.int .i64 k, .int .u64 u, .int .i64 n, vb, vl]
theorem Holds.eltVal (h : Holds w (rowH (Kd.int .u8) 5 vb b :: rowH (Kd.int .i64) 3 vl l :: F)) (k u n : Int) : Holds w (eltH valK ⟨k, u, n, b, l⟩ (valCells k u n vb vl) :: F) := by
  have h1 := (h.f2.eltRow.f2.eltRow).eltPair
  have h2 := ((h1.eltOne (enc := Value.int .i64) (h1 := fun _ => rfl) n)).eltPair
  have h3 := ((h2.eltOne (enc := Value.int .u64) (h1 := fun _ => rfl) u)).eltPair
  have h4 := ((h3.eltOne (enc := Value.int .i64) (h1 := fun _ => rfl) k)).eltPair
  exact h4.imp (fun S a _ => a)
theorem RdK.val (h : RdK valK F x cs) (hw : Holds w F) : ∃ A1 c1 A2 c2, cs = valCells x.kind x.u x.n (.slice A1 x.b.length c1) (.slice A2 x.l.length c2) ∧ x.b.length ≤ c1 ∧ x.l.length ≤ c2 ∧ Rd (Kd.int .u8) F A1 x.b.length x.b ∧ Rd (Kd.int .i64) F A2 x.l.length x.l := by
  have hl : cs.length = 5 := valK.K_len (h w hw)
  obtain ⟨c0, c1, c2, c3, c4, rfl⟩ : ∃ c0 c1 c2 c3 c4, cs = [c0, c1, c2, c3, c4] := by
    rcases cs with _ | ⟨c0, _ | ⟨c1, _ | ⟨c2, _ | ⟨c3, _ | ⟨c4, _ | ⟨c5, cs⟩⟩⟩⟩⟩⟩ <;> simp at hl
    exact ⟨c0, c1, c2, c3, c4, rfl⟩
  have h' : RdK (Kd.pair (Kd.int .i64) (Kd.pair (Kd.int .u64) (Kd.pair (Kd.int .i64) (Kd.pair (Kd.slice 5 (Kd.int .u8)) (Kd.slice 3 (Kd.int .i64)))))) F (x.kind, x.u, x.n, x.b, x.l) [c0, c1, c2, c3, c4] := fun w hw => h w hw
  have e0 := (RdK.fst h').one hw
  have h1 := RdK.snd h'
  have e1 := (RdK.fst h1).one hw
  have h2 := RdK.snd h1
  have e2 := (RdK.fst h2).one hw
  have h3 := RdK.snd h2
  obtain ⟨A1, k1, e3, hk1, hr1⟩ := (RdK.fst h3).slice_ (v := c3) hw
  obtain ⟨A2, k2, e4, hk2, hr2⟩ := (RdK.snd h3).slice_ (v := c4) hw
  refine ⟨A1, k1, A2, k2, ?_, hk1, hk2, hr1, hr2⟩
  cases e0
  cases e1
  cases e2
  subst e3 e4
  rfl
theorem RdK.valRd {A1 A2 : Option Addr} {n1 c1 n2 c2 : Nat} (h : RdK valK F x (valCells k u n (.slice A1 n1 c1) (.slice A2 n2 c2))) : Rd (Kd.int .u8) F A1 x.b.length x.b ∧ Rd (Kd.int .i64) F A2 x.l.length x.l := by
  have key : ∀ w, Holds w F → (Kd.int .u8).C w A1 x.b.length x.b ∧ (Kd.int .i64).C w A2 x.l.length x.l := by
    intro w hw
    obtain ⟨B1, k1, B2, k2, he, _, _, h3, h4⟩ := h.val hw
    unfold valCells at he
    injection he with _ he
    injection he with _ he
    injection he with _ he
    injection he with he1 he
    injection he with he2 _
    cases he1
    cases he2
    exact ⟨h3 w hw, h4 w hw⟩
  exact ⟨fun w hw => (key w hw).1, fun w hw => (key w hw).2⟩
end

set_option maxRecDepth 100000 in
set_option maxHeartbeats 2000000 in
theorem write_calls (p : Nat) (bs : List Int) (x : Val) (A1 : Option Addr) (c1 : Nat) (A2 : Option Addr) (c2 : Nat) (hx : VOk x) (hl : bs.length ≤ 100000000000000) (w : World) {F : List Hp} (H : Holds w (wrH p bs :: F)) (hR1 : Rd (Kd.int .u8) F A1 x.b.length x.b) (hR2 : Rd (Kd.int .i64) F A2 x.l.length x.l) :
    Calls Try.prog 34 #[.pointer (some ⟨p, 0, none⟩), .agg #[.int .i64 x.kind, .int .u64 x.u, .int .i64 x.n, .slice A1 x.b.length c1, .slice A2 x.l.length c2]] w fun e w' => e = .returned (.tuple #[]) ∧ Holds w' (wrH p (bs ++ encV x) :: F) ∧ Calm w w' := by
  obtain ⟨k, u, n, b, l⟩ := x
  obtain ⟨k0, k5, u0, u1, n0, b8, bl, l64, ll, -, -, -, -, -⟩ := hx
  dsimp only at *
  have H1 := H.alloc (.cells #[.int .i64 k, .int .u64 u, .int .i64 n, .slice A1 b.length c1, .slice A2 l.length c2] 47)
  have Q1 := (Calm.refl w).alloc (.cells #[.int .i64 k, .int .u64 u, .int .i64 n, .slice A1 b.length c1, .slice A2 l.length c2] 47)
  have N0 := Lib.hid n0
  have B8 := Lib.hid b8
  have L64 := Lib.hid l64
  clear n0 b8 l64
  have hk : k = 0 ∨ k = 1 ∨ k = 2 ∨ k = 3 ∨ k = 4 ∨ k = 5 := by omega
  rcases hk with rfl | rfl | rfl | rfl | rfl | rfl
  · have he : encV ⟨0, u, n, b, l⟩ = encN u.toNat := rfl
    rw [he]
    clear he
    obtain ⟨m, rfl⟩ := Int.eq_ofNat_of_zero_le u0
    rw [Int.toNat_natCast]
    go_enter Try.func34, Try.ntmps34
    go_wp2_with fail
    refine (wUint p bs m (by omega) (by omega) _ H1).mono ?_
    rintro e w2 ⟨rfl, H2, Q2⟩
    go_wp2
    go_end0
    exact ⟨rfl, H2, Q1.trans Q2⟩
  · have he : encV ⟨1, u, n, b, l⟩ = encN (zz n) := rfl
    rw [he]
    clear he
    go_enter Try.func34, Try.ntmps34
    go_wp2_with fail
    refine (wInt p bs n N0.out (by omega) _ H1).mono ?_
    rintro e w2 ⟨rfl, H2, Q2⟩
    go_wp2
    go_end0
    exact ⟨rfl, H2, Q1.trans Q2⟩
  · obtain ⟨E, hE⟩ : ∃ E : List Int, Hid ([if (n == 1) = true then 1 else 0] = E) := ⟨_, Lib.hid rfl⟩
    have he : encV ⟨2, u, n, b, l⟩ = E := by
      rw [← hE.out]
      show [if n = 1 then (1 : Int) else 0] = _
      simp
    rw [he]
    clear he
    go_enter Try.func34, Try.ntmps34
    go_wp2_with fail
    refine (wBool p bs (n == 1) (by omega) _ H1).mono ?_
    rintro e w2 ⟨rfl, H2, Q2⟩
    rw [hE.out] at H2
    go_wp2
    go_end0
    exact ⟨rfl, H2, Q1.trans Q2⟩
  · have he : encV ⟨3, u, n, b, l⟩ = encN b.length ++ b := rfl
    rw [he]
    clear he
    have hstr : ∀ W, Holds W (wrH p bs :: F) → (convert 24 9 (.slice A1 b.length c1)).run Try.prog W = .ok (.string (strOfNums b)) W := fun W hW => Kd.C_string Try.underlying24 Try.underlying5 Try.underlying9 (hR1 W hW.drop)
    have hs1 := hstr _ H1
    clear hstr
    have hsz : (strOfNums b).size = b.length := by
      have := congrArg List.length (strOfNums_data b)
      simpa [data_length] using this
    have hby := bytesOf_nums B8.out
    obtain ⟨S, hS⟩ : ∃ S, Hid (strOfNums b = S) := ⟨_, Lib.hid rfl⟩
    rw [hS.out] at hs1 hsz hby
    have hsl : S.size ≤ 1099511627776 := by omega
    have Hsz := Lib.hid hsz
    have Hby := Lib.hid hby
    clear hsz hby
    go_enter Try.func34, Try.ntmps34
    go_wp2_with fail
    refine (wText p bs S hsl (by omega) _ H1).mono ?_
    rintro e w2 ⟨rfl, H2, Q2⟩
    rw [Hsz.out, Hby.out] at H2
    go_wp2
    go_end0
    exact ⟨rfl, H2, Q1.trans Q2⟩
  · have he : encV ⟨4, u, n, b, l⟩ = encN b.length ++ b := rfl
    rw [he]
    clear he
    go_enter Try.func34, Try.ntmps34
    go_wp2_with fail
    refine (wRaw p bs A1 c1 b B8.out bl (by omega) _ H1 hR1).mono ?_
    rintro e w2 ⟨rfl, H2, Q2⟩
    go_wp2
    go_end0
    exact ⟨rfl, H2, Q1.trans Q2⟩
  · have he : encV ⟨5, u, n, b, l⟩ = encN l.length ++ encInts l := rfl
    rw [he]
    clear he
    go_enter Try.func34, Try.ntmps34
    go_wp2_with fail
    refine (wInts p bs A2 c2 l L64.out ll (by omega) _ H1 hR2).mono ?_
    rintro e w2 ⟨rfl, H2, Q2⟩
    go_wp2
    go_end0
    exact ⟨rfl, H2, Q1.trans Q2⟩

theorem drop_one (vs : List Val) (i : Nat) (h : i < vs.length) : Hid (vs.take (i + 1) = vs.take i ++ [vs[i]]) := List.take_succ_eq_append_getElem h
theorem encV_len {x : Val} (hx : VOk x) : (encV x).length ≤ 12 * 1099511627776 := by
  have hz : ∀ n : Nat, n < 18446744073709551616 → (encN n).length ≤ 10 := fun n h => encN_len 9 n (by simp only [Nat.reducePow, Nat.reduceAdd]; omega)
  have hi : ∀ l : List Int, (∀ y ∈ l, I64 y) → (encInts l).length ≤ 10 * l.length := by
    intro l
    induction l with
    | nil => intro _; simp [encInts]
    | cons y l ih =>
      intro h
      have h1 := ih (fun z hz => h z (by simp [hz]))
      have h2 := hz (zz y) (zz_lt y (h y (by simp)).1 (h y (by simp)).2)
      simp only [encInts, List.length_append, List.length_cons]
      omega
  obtain ⟨k0, k5, u0, u1, n0, b8, bl, l64, ll, -, -, -, -, -⟩ := hx
  unfold encV
  have h1 := hz x.u.toNat (by omega)
  have h2 := hz (zz x.n) (zz_lt _ n0.1 n0.2)
  have h3 := hz x.b.length (by omega)
  have h4 := hz x.l.length (by omega)
  have h5 := hi x.l l64
  split
  · omega
  split
  · omega
  split
  · simp
  split
  · simp only [List.length_append]; omega
  · simp only [List.length_append]; omega
/-- The cells of element i. -/
theorem Holds.valAt {w : World} {F : List Hp} {g N c : Nat} {e : TypeId} {vs : List Val} {inner : List Value} (h : Holds w (pinH valK e (.slice (some ⟨g, 0, none⟩) N c) vs inner :: F)) (i : Nat) (hi : i < vs.length) :
    ∃ A1 c1 A2 c2, (w.cell? ⟨g, i * 5, none⟩ = some (.int .i64 vs[i].kind) ∧ w.cell? ⟨g, i * 5 + 1, none⟩ = some (.int .u64 vs[i].u) ∧ w.cell? ⟨g, i * 5 + 2, none⟩ = some (.int .i64 vs[i].n) ∧ w.cell? ⟨g, i * 5 + 3, none⟩ = some (.slice A1 vs[i].b.length c1) ∧ w.cell? ⟨g, i * 5 + 4, none⟩ = some (.slice A2 vs[i].l.length c2)) ∧
      vs[i].b.length ≤ c1 ∧ vs[i].l.length ≤ c2 ∧ ∀ F', Rd (Kd.int .u8) (pinH valK e (.slice (some ⟨g, 0, none⟩) N c) vs inner :: F') A1 vs[i].b.length vs[i].b ∧ Rd (Kd.int .i64) (pinH valK e (.slice (some ⟨g, 0, none⟩) N c) vs inner :: F') A2 vs[i].l.length vs[i].l := by
  have hK : RdK valK (pinH valK e (.slice (some ⟨g, 0, none⟩) N c) vs inner :: F) vs[i] ((inner.drop (i * 5)).take 5) := RdK.pin (d := valK) (by simp [hi])
  obtain ⟨A1, c1, A2, c2, hc, h1, h2, h3, h4⟩ := hK.val h
  have hl := h.pinLen
  rw [valK_sz] at hl
  have hcell : ∀ j, j < 5 → w.cell? ⟨g, i * 5 + j, none⟩ = (valCells vs[i].kind vs[i].u vs[i].n (.slice A1 vs[i].b.length c1) (.slice A2 vs[i].l.length c2))[j]? := by
    intro j hj
    rw [h.pinCell (i * 5 + j) (by rw [valK_sz]; omega), ← hc, List.getElem?_take, if_pos hj, List.getElem?_drop]
  exact ⟨A1, c1, A2, c2, ⟨hcell 0 (by omega), hcell 1 (by omega), hcell 2 (by omega), hcell 3 (by omega), hcell 4 (by omega)⟩, h1, h2, fun F' => RdK.valRd (by rw [← hc]; exact RdK.pin (d := valK) (by simp [hi]))⟩

/-- A row of values that is read of G: the cells and the inner rows of each. -/
def ValsAt (G : List Hp) (A0 : Option Addr) (vs : List Val) : Prop := ∀ (i : Nat) (hi : i < vs.length), ∃ g A1 c1 A2 c2, A0 = some ⟨g, 0, none⟩ ∧
  (∀ W, Holds W G → W.cell? ⟨g, i * 5, none⟩ = some (.int .i64 vs[i].kind) ∧ W.cell? ⟨g, i * 5 + 1, none⟩ = some (.int .u64 vs[i].u) ∧ W.cell? ⟨g, i * 5 + 2, none⟩ = some (.int .i64 vs[i].n) ∧ W.cell? ⟨g, i * 5 + 3, none⟩ = some (.slice A1 vs[i].b.length c1) ∧ W.cell? ⟨g, i * 5 + 4, none⟩ = some (.slice A2 vs[i].l.length c2)) ∧
  vs[i].b.length ≤ c1 ∧ vs[i].l.length ≤ c2 ∧ Rd (Kd.int .u8) G A1 vs[i].b.length vs[i].b ∧ Rd (Kd.int .i64) G A2 vs[i].l.length vs[i].l
theorem Rd.sub {α : Type} {d : Kd α} {F G : List Hp} {A : Option Addr} {n : Nat} {xs : List α} (h : Rd d G A n xs) (hS : Sub F G) : Rd d F A n xs := fun w hw => h w (hS w hw)
theorem Holds.valsAt {w : World} {F : List Hp} {A0 : Option Addr} {N c : Nat} {e : TypeId} {vs : List Val} {inner : List Value} (h : Holds w (pinH valK e (.slice A0 N c) vs inner :: F)) : ValsAt [pinH valK e (.slice A0 N c) vs inner] A0 vs := by
  intro i hi
  obtain ⟨g, cap, he, _⟩ := h.pinForm (by omega)
  cases he
  obtain ⟨A1, c1, A2, c2, _, h1, h2, _⟩ := h.valAt i hi
  have hK : ∀ F', RdK valK (pinH valK e (.slice (some ⟨g, 0, none⟩) vs.length c) vs inner :: F') vs[i] ((inner.drop (i * 5)).take 5) := fun F' => RdK.pin (d := valK) (by simp [hi])
  obtain ⟨A1, c1, A2, c2, hc, h1, h2, _, _⟩ := (hK F).val h
  have hr := RdK.valRd (hc ▸ hK [])
  refine ⟨g, A1, c1, A2, c2, rfl, fun W hW => ?_, h1, h2, hr.1, hr.2⟩
  have hl := hW.pinLen
  rw [valK_sz] at hl
  have hcell : ∀ j, j < 5 → W.cell? ⟨g, i * 5 + j, none⟩ = (valCells vs[i].kind vs[i].u vs[i].n (.slice A1 vs[i].b.length c1) (.slice A2 vs[i].l.length c2))[j]? := by
    intro j hj
    rw [hW.pinCell (i * 5 + j) (by rw [valK_sz]; omega), ← hc, List.getElem?_take, if_pos hj, List.getElem?_drop]
  exact ⟨hcell 0 (by omega), hcell 1 (by omega), hcell 2 (by omega), hcell 3 (by omega), hcell 4 (by omega)⟩

def vsBytes (vs : List Val) : Nat := (encVs vs).length
set_option maxRecDepth 100000 in
set_option maxHeartbeats 2000000 in
/-- encode: all values of a row, or its first n. -/
theorem encode_G (A0 : Option Addr) (c' n : Nat) (vs : List Val) (hv : ∀ v ∈ vs, VOk v) (hn : n ≤ vs.length) (hnn : n ≤ 100000) (hl : ∀ m, (encVs (vs.take m)).length ≤ 50000000000000) (w : World) {G F : List Hp} (hV : ValsAt G A0 vs) (hS : Sub F G) (H : Holds w F) :
    Calls Try.prog 35 #[.slice A0 n c'] w fun e w' => ∃ A k, e = .returned (.slice A (encVs (vs.take n)).length k) ∧ Holds w' (rowH (Kd.int .u8) 5 (.slice A (encVs (vs.take n)).length k) (encVs (vs.take n)) :: F) ∧ (encVs (vs.take n)).length ≤ k ∧ Calm w w' := by
  have H0 := H.wrNew
  have Q0 := (Calm.refl w).alloc (.cells #[.slice none 0 0] 26)
  have hln := hl n
  have HV := Lib.hid hv
  have HL := Lib.hid hl
  have hVV := Lib.hid hV
  clear hv hl hV
  obtain ⟨E, hE⟩ : ∃ E : List Int, Hid (encVs (vs.take n) = E) := ⟨_, Lib.hid rfl⟩
  rw [hE.out] at hln
  rw [hE.out]
  go_enter Try.func35, Try.ntmps35
  go_wp2
  generalize w.heap.size = p at *
  go_loopw [4] (fun iv wr => ∃ (i : Nat) (B : List Int), i ≤ n ∧ iv = .int .i64 (i : Int) ∧ Hid (B = encVs (vs.take i)) ∧ Holds wr (wrH p B :: F) ∧ Calm w wr) (fun iv _ => n - (intOf iv).toNat)
  case atStart => exact ⟨0, [], Nat.zero_le _, rfl, rfl, H0, Q0⟩
  case round =>
    clear H0 Q0
    obtain ⟨i, B, hi, rfl, hB, H1, Q1⟩ := hrel
    have hBl : B.length ≤ 50000000000000 := by rw [hB.out]; exact HL.out i
    by_cases hlt : i < n
    · have hil : i < vs.length := by omega
      obtain ⟨g, A1, c1, A2, c2, rfl, hd, h1, h2, h3', h4'⟩ := hVV.out i hil
      obtain ⟨d0, d1, d2, d3, d4⟩ := hd wr (hS wr H1.drop)
      have h3 := h3'.sub hS
      have h4 := h4'.sub hS
      clear hd h3' h4'
      have hx := HV.out vs[i] (List.getElem_mem hil)
      have htk := drop_one vs i hil
      have hii : (i : Int) < (n : Int) := by omega
      generalize vs[i] = x at *
      go_wp2_with fail
      refine (write_calls p B x A1 c1 A2 c2 hx (by omega) wr H1 h3 h4).mono ?_
      rintro e w2 ⟨rfl, H2, Q2⟩
      go_wp2
      go_roundw
      case rel => exact ⟨i + 1, B ++ encV x, by omega, by go_num, by show _ = _; rw [htk.out, encVs_append, hB.out]; simp [encVs], H2, Q1.trans Q2⟩
      case measure => simp [intOf]; omega
    · obtain rfl : i = n := by omega
      have hB' := hB.out
      rw [hE.out] at hB'
      subst hB'
      go_wp2_with fail
      refine (wDone p B (by omega) wr H1).mono ?_
      rintro e w2 ⟨A, k, rfl, H2, hk, Q2⟩
      go_wp2
      go_ret
      exact ⟨A, k, rfl, H2.f2.drop, hk, Q1.trans Q2⟩
theorem encode_calls (A0 : Option Addr) (N c c' n : Nat) (vs : List Val) (inner : List Value) (hv : ∀ v ∈ vs, VOk v) (hn : n ≤ vs.length) (hnn : n ≤ 100000) (hl : ∀ m, (encVs (vs.take m)).length ≤ 50000000000000) (w : World) {F : List Hp} (H : Holds w (pinH valK 47 (.slice A0 N c) vs inner :: F)) :
    Calls Try.prog 35 #[.slice A0 n c'] w fun e w' => ∃ A k, e = .returned (.slice A (encVs (vs.take n)).length k) ∧ Holds w' (rowH (Kd.int .u8) 5 (.slice A (encVs (vs.take n)).length k) (encVs (vs.take n)) :: pinH valK 47 (.slice A0 N c) vs inner :: F) ∧ (encVs (vs.take n)).length ≤ k ∧ Calm w w' :=
  encode_G A0 c' n vs hv hn hnn hl w H.valsAt (Sub.head _ _) H
end Go.Proofs.Ythkmfmcofkcjeaa
