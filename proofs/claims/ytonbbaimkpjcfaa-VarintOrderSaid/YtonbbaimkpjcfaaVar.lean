/- Numbers in groups of seven bits: what is put is read back, and no two numbers' bytes begin alike. No conditions. -/
import Derived.Test.YtonbbaimkpjcfaaMx3
import Derived.Test.YtonbbaimkpjcfaaMx3
import Derived.Test.YtonbbaimkpjcfaaOct
namespace Go.Proofs.Ytonbbaimkpjcfaa.Var
open Go.RowKit Go.Proofs.Ytonbbaimkpjcfaa.M Go.Proofs.YtonbbaimkpjcfaaW.PrintWords Go.Proofs.YtonbbaimkpjcfaaW.PrintLast Go.Proofs.YtonbbaimkpjcfaaW.PrintMore Go.Proofs.Ytonbbaimkpjcfaa.Aid Go.Proofs.Ytonbbaimkpjcfaa.Oct

/-- A number's bytes. -/
def venc (v : Nat) : List Nat := if h : v < 128 then [v] else (v % 128 + 128) :: venc (v / 128)
termination_by v
decreasing_by omega
theorem venc_small {v : Nat} (h : v < 128) : venc v = [v] := by rw [venc, dif_pos h]
theorem venc_big {v : Nat} (h : ¬ v < 128) : venc v = (v % 128 + 128) :: venc (v / 128) := by rw [venc, dif_neg h]
theorem venc_length (v : Nat) : (venc v).length = vCnt v := by
  induction v using Nat.strongRecOn with
  | ind v ih =>
    by_cases h : v < 128
    · rw [venc_small h, vCnt_small h]; rfl
    · rw [venc_big h, vCnt_big h, List.length_cons, ih (v / 128) (by omega)]
theorem venc_lt (v : Nat) : ∀ c ∈ venc v, c < 256 := by
  induction v using Nat.strongRecOn with
  | ind v ih =>
    by_cases h : v < 128
    · rw [venc_small h]
      intro c hc
      simp only [List.mem_singleton] at hc
      omega
    · rw [venc_big h]
      intro c hc
      rcases List.mem_cons.1 hc with rfl | hc
      · omega
      · exact ih (v / 128) (by omega) c hc
theorem vBytes_venc (v : Nat) : vBytes v (vCnt v) = int (venc v) := by
  induction v using Nat.strongRecOn with
  | ind v ih =>
    by_cases h : v < 128
    · rw [vCnt_small h, venc_small h]
      simp [vBytes, vGrp, h, int]
    · rw [vCnt_big h, venc_big h]
      unfold vBytes
      rw [List.range_succ_eq_map, List.map_cons, List.map_map]
      show ((vGrp (v / 128 ^ 0) : Nat) : Int) :: _ = ((v % 128 + 128 : Nat) : Int) :: int (venc (v / 128))
      rw [Nat.pow_zero, Nat.div_one, ← ih (v / 128) (by omega)]
      congr 1
      · unfold vGrp
        rw [if_neg h]
      · apply List.map_congr_left
        intro j _
        show ((vGrp (v / 128 ^ (j + 1)) : Nat) : Int) = _
        rw [Nat.pow_succ', ← Nat.div_div_eq_div_mul]
theorem put_venc (l : List Int) (v : Nat) (hv : v < 18446744073709551616) (hl : l.length ≤ 140737488355000) : varint_Put.f l (v : Int) = some (l ++ int (venc v)) := by
  unfold varint_Put.f
  rw [if_pos (by omega), if_pos (by omega), if_pos (by omega), Int.toNat_natCast, vBytes_venc]
/-- Bytes read as a number, the i-th one next. -/
def vdec : List Nat → Nat → Nat → Option (Nat × Nat)
  | [], _, _ => none
  | c :: r, i, acc => if i = 9 ∧ c > 1 ∨ 0 < i ∧ c = 0 then none else if c < 128 then some (acc + c * 2 ^ (7 * i), i + 1) else vdec r (i + 1) (acc + (c - 128) * 2 ^ (7 * i))
theorem vdec_put (v : Nat) (rest : List Nat) : ∀ i acc, v * 2 ^ (7 * i) < 2 ^ 64 → (0 < i → 0 < v) → vdec (venc v ++ rest) i acc = some (acc + v * 2 ^ (7 * i), i + vCnt v) := by
  induction v using Nat.strongRecOn with
  | ind v ih =>
    intro i acc hv h0
    by_cases h : v < 128
    · rw [venc_small h, vCnt_small h, List.singleton_append, vdec, if_neg, if_pos h]
      rintro (⟨rfl, h9⟩ | ⟨h1, h2⟩)
      · omega
      · have := h0 h1
        omega
    · have e : 2 ^ (7 * (i + 1)) = 2 ^ (7 * i) * 128 := by rw [show 7 * (i + 1) = 7 * i + 7 by omega, Nat.pow_add]
      have hd : v / 128 * 2 ^ (7 * (i + 1)) + v % 128 * 2 ^ (7 * i) = v * 2 ^ (7 * i) := by
        rw [e, Nat.mul_comm (2 ^ (7 * i)) 128, ← Nat.mul_assoc, ← Nat.add_mul]
        congr 1
        omega
      rw [venc_big h, vCnt_big h, List.cons_append, vdec, if_neg, if_neg (by omega), ih (v / 128) (by omega) (i + 1) _ (by omega) (by omega), show v % 128 + 128 - 128 = v % 128 by omega]
      · simp only [Option.some.injEq, Prod.mk.injEq]
        omega
      · rintro (⟨rfl, _⟩ | ⟨_, h2⟩)
        · have : 128 * 2 ^ (7 * 9) ≤ v * 2 ^ (7 * 9) := Nat.mul_le_mul_right _ (by omega)
          omega
        · omega
theorem vdec_high (p : List Nat) (h : ∀ c ∈ p, 128 ≤ c) : ∀ i acc, vdec p i acc = none := by
  induction p with
  | nil => intro i acc; rfl
  | cons c p ih =>
    intro i acc
    have hc := h c List.mem_cons_self
    rw [vdec]
    split
    · rfl
    · rw [if_neg (by omega)]
      exact ih (fun x hx => h x (List.mem_cons_of_mem _ hx)) _ _
theorem venc_cut (v : Nat) : ∀ j, j < vCnt v → ∀ c ∈ (venc v).take j, 128 ≤ c := by
  induction v using Nat.strongRecOn with
  | ind v ih =>
    intro j hj c hc
    by_cases h : v < 128
    · rw [vCnt_small h] at hj
      obtain rfl : j = 0 := by omega
      simp at hc
    · rw [vCnt_big h] at hj
      rw [venc_big h] at hc
      cases j with
      | zero => simp at hc
      | succ j =>
        rw [List.take_succ_cons] at hc
        rcases List.mem_cons.1 hc with rfl | hc
        · omega
        · exact ih (v / 128) (by omega) j (by omega) c hc
theorem vCnt_mono {a b : Nat} (h : a ≤ b) : vCnt a ≤ vCnt b := by
  induction b using Nat.strongRecOn generalizing a with
  | ind b ih =>
    by_cases hb : b < 128
    · rw [vCnt_small hb, vCnt_small (by omega)]
      exact Nat.le_refl _
    · rw [vCnt_big hb]
      by_cases ha : a < 128
      · rw [vCnt_small ha]
        omega
      · rw [vCnt_big ha]
        have := ih (b / 128) (by omega) (a := a / 128) (Nat.div_le_div_right h)
        omega
theorem venc_prefix {a b : Nat} (ha : a < 2 ^ 64) (hb : b < 2 ^ 64) (h : venc a = (venc b).take (vCnt a)) : a = b := by
  have h1 := vdec_put a ((venc b).drop (vCnt a)) 0 0 (by simpa using ha) (fun h => absurd h (by decide))
  have h2 := vdec_put b [] 0 0 (by simpa using hb) (fun h => absurd h (by decide))
  rw [List.append_nil] at h2
  rw [h, List.take_append_drop, h2] at h1
  simp only [Option.some.injEq, Prod.mk.injEq] at h1
  omega
/-- What is read has one form alone. -/
theorem vdec_form (p : List Nat) (hp : ∀ c ∈ p, c < 256) : ∀ i acc n m, i ≤ 9 → vdec p i acc = some (n, m) →
    ∃ v, m = i + vCnt v ∧ n = acc + v * 2 ^ (7 * i) ∧ p.take (vCnt v) = venc v ∧ (0 < i → 0 < v) ∧ v * 2 ^ (7 * i) < 2 ^ 64 ∧ vCnt v ≤ p.length := by
  induction p with
  | nil => intro i acc n m _ h; cases h
  | cons c p ih =>
    intro i acc n m hi h
    have hc := hp c List.mem_cons_self
    rw [vdec] at h
    by_cases hbad : i = 9 ∧ c > 1 ∨ 0 < i ∧ c = 0
    · rw [if_pos hbad] at h
      cases h
    · rw [if_neg hbad] at h
      have hpw : ∀ j : Fin 10, 2 ^ (7 * j.val) ≤ 2 ^ 63 ∧ (j.val < 9 → 2 ^ (7 * j.val) ≤ 2 ^ 56) := by decide
      have hpi := hpw ⟨i, by omega⟩
      simp only at hpi
      by_cases hl : c < 128
      · rw [if_pos hl] at h
        obtain ⟨h1, h2⟩ := Prod.mk.inj (Option.some.inj h)
        refine ⟨c, by rw [vCnt_small hl]; exact h2.symm, h1.symm, by rw [vCnt_small hl, venc_small hl]; rfl, fun h0 => by omega, ?_, by rw [vCnt_small hl]; simp⟩
        by_cases h9 : i = 9
        · have : c * 2 ^ (7 * i) ≤ 1 * 2 ^ (7 * i) := Nat.mul_le_mul_right _ (by omega)
          omega
        · have : c * 2 ^ (7 * i) ≤ 127 * 2 ^ (7 * i) := Nat.mul_le_mul_right _ (by omega)
          have := hpi.2 (by omega)
          omega
      · rw [if_neg hl] at h
        have hi9 : i ≠ 9 := fun e => hbad (.inl ⟨e, by omega⟩)
        obtain ⟨v, h1, h2, h3, h4, h5, h6⟩ := ih (fun x hx => hp x (List.mem_cons_of_mem _ hx)) (i + 1) _ n m (by omega) h
        have hv := h4 (by omega)
        have e : 2 ^ (7 * (i + 1)) = 2 ^ (7 * i) * 128 := by rw [show 7 * (i + 1) = 7 * i + 7 by omega, Nat.pow_add]
        have hw : ¬ (v * 128 + (c - 128)) < 128 := by omega
        have hdiv : (v * 128 + (c - 128)) / 128 = v := by omega
        have hmod : (v * 128 + (c - 128)) % 128 + 128 = c := by omega
        have hmul : (v * 128 + (c - 128)) * 2 ^ (7 * i) = (c - 128) * 2 ^ (7 * i) + v * 2 ^ (7 * (i + 1)) := by
          rw [e, Nat.add_mul, Nat.mul_comm (2 ^ (7 * i)) 128, ← Nat.mul_assoc]
          omega
        refine ⟨v * 128 + (c - 128), by rw [vCnt_big hw, hdiv]; omega, by rw [hmul]; omega, ?_, fun _ => by omega, ?_, by rw [vCnt_big hw, hdiv, List.length_cons]; omega⟩
        · rw [vCnt_big hw, venc_big hw, hdiv, hmod, List.take_succ_cons, h3]
        · have hlt : (c - 128) * 2 ^ (7 * i) < 2 ^ (7 * (i + 1)) := by
            rw [e, Nat.mul_comm (2 ^ (7 * i)) 128]
            exact Nat.mul_lt_mul_of_pos_right (by omega) (Nat.pow_pos (by decide))
          have hdvd : ∃ q, 2 ^ 64 = q * 2 ^ (7 * (i + 1)) + (if i = 8 then 0 else 0) := by
            refine ⟨2 ^ (64 - 7 * (i + 1)), ?_⟩
            rw [← Nat.pow_add, show 64 - 7 * (i + 1) + 7 * (i + 1) = 64 by omega]
            simp
          obtain ⟨q, hq⟩ := hdvd
          have hq : 2 ^ 64 = q * 2 ^ (7 * (i + 1)) := by simpa using hq
          rw [hq] at h5
          have hvq : v < q := Nat.lt_of_mul_lt_mul_right h5
          have : (v + 1) * 2 ^ (7 * (i + 1)) ≤ q * 2 ^ (7 * (i + 1)) := Nat.mul_le_mul_right _ hvq
          rw [Nat.add_mul, Nat.one_mul] at this
          rw [hmul, hq]
          omega
/-- The program's loop is that reading. -/
theorem loop_dec (l : List Nat) (hl : ∀ c ∈ l, c < 256) (a d : Nat) : ∀ i acc : Nat, a + i + d ≤ l.length → vLoop (int l) a d i (acc : Int) = (vdec ((l.drop (a + i)).take d) i acc).map fun p => ((p.1 : Int), p.2) := by
  induction d with
  | zero => intro i acc _; simp [vLoop, vdec]
  | succ d ih =>
    intro i acc hle
    have h : a + i < l.length := by omega
    have hdrop : l.drop (a + i) = l[a + i] :: l.drop (a + i + 1) := List.drop_eq_getElem_cons h
    have hrd : rd (int l) ((a + i : Nat) : Int) = ((l[a + i] : Nat) : Int) := by
      rw [rd_eq (by rw [int_length]; exact h)]
      simp [int]
    have hc := hl _ (List.getElem_mem h)
    rw [hdrop, List.take_succ_cons, vLoop, vdec, hrd]
    by_cases hbad : i = 9 ∧ l[a + i] > 1 ∨ 0 < i ∧ l[a + i] = 0
    · rw [if_pos hbad, if_pos (by omega)]
      rfl
    · rw [if_neg hbad, if_neg (by omega)]
      by_cases hs : l[a + i] < 128
      · rw [if_pos hs, if_pos (by omega)]
        simp only [Option.map_some]
        congr 2
      · rw [if_neg hs, if_neg (by omega)]
        have e : (acc : Int) + (((l[a + i] : Nat) : Int) - 128) * 2 ^ (7 * i) = ((acc + (l[a + i] - 128) * 2 ^ (7 * i) : Nat) : Int) := by
          rw [Int.natCast_add, Int.natCast_mul, Int.natCast_pow, show ((l[a + i] - 128 : Nat) : Int) = ((l[a + i] : Nat) : Int) - 128 by omega]
          rfl
        rw [e, ih _ _ (by omega), show a + (i + 1) = a + i + 1 by omega]
end Go.Proofs.Ytonbbaimkpjcfaa.Var
