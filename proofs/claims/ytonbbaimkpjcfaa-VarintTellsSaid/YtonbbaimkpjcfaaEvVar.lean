/- Numbers in groups of seven bits, with and without a sign: what is put is read back, and has one form alone. No conditions. -/
import Derived.Test.YtonbbaimkpjcfaaEvPlain
import Derived.Lib.Zigzag
namespace Go.Proofs.Ytonbbaimkpjcfaa.Ev
open Go
set_option linter.unusedVariables false
set_option linter.unusedSimpArgs false
/-- How many groups of seven bits a number has, and each one's byte. -/
def vCnt (v : Nat) : Nat := if h : v < 128 then 1 else vCnt (v / 128) + 1
termination_by v
decreasing_by omega
def vGrp (x : Nat) : Nat := if x < 128 then x else x % 128 + 128
theorem vCnt_pos (v : Nat) : 0 < vCnt v := by
  rw [vCnt]
  split <;> omega
theorem vCnt_small {v : Nat} (h : v < 128) : vCnt v = 1 := by rw [vCnt, dif_pos h]
theorem vCnt_big {v : Nat} (h : ¬ v < 128) : vCnt v = vCnt (v / 128) + 1 := by rw [vCnt, dif_neg h]
theorem vCnt_at (k v : Nat) (h : k < vCnt v) : vCnt v = k + vCnt (v / 128 ^ k) := by
  induction k generalizing v with
  | zero => simp
  | succ k ih =>
    by_cases hv : v < 128
    · rw [vCnt_small hv] at h
      omega
    · rw [vCnt_big hv] at h ⊢
      rw [ih (v / 128) (by omega), Nat.div_div_eq_div_mul, ← Nat.pow_succ', Nat.succ_eq_add_one]
      omega
theorem vCnt_last (k v : Nat) (h : k < vCnt v) : k + 1 = vCnt v ↔ v / 128 ^ k < 128 := by
  have h1 := vCnt_at k v h
  constructor
  · intro e
    by_cases hv : v / 128 ^ k < 128
    · exact hv
    · rw [vCnt_big hv] at h1
      have := vCnt_pos (v / 128 ^ k / 128)
      omega
  · intro hv
    rw [vCnt_small hv] at h1
    omega
theorem vCnt_bd (k v : Nat) (h : v < 128 ^ (k + 1)) : vCnt v ≤ k + 1 := by
  induction k generalizing v with
  | zero => rw [vCnt_small (by simpa using h)]; omega
  | succ k ih =>
    by_cases hv : v < 128
    · rw [vCnt_small hv]; omega
    · rw [vCnt_big hv]
      have := ih (v / 128) (by rw [Nat.pow_succ] at h; omega)
      omega
theorem vCnt_le (v : Nat) (h : v < 18446744073709551616) : vCnt v ≤ 10 := vCnt_bd 9 v (Nat.lt_of_lt_of_le h (by decide))
theorem vGrp_lt (x : Nat) : vGrp x < 256 := by unfold vGrp; split <;> omega
theorem vGrp_byte (x : Nat) : ((UInt8.ofNat (vGrp x)).toNat : Int) = (vGrp x : Nat) := by
  rw [UInt8.toNat_ofNat', Nat.mod_eq_of_lt (vGrp_lt x)]
/-- The first k groups' bytes. -/
def vB (v k : Nat) : List UInt8 := (List.range k).map fun j => UInt8.ofNat (vGrp (v / 128 ^ j))
theorem vB_succ (v k : Nat) : vB v (k + 1) = vB v k ++ [UInt8.ofNat (vGrp (v / 128 ^ k))] := by simp [vB, List.range_succ]
theorem vB_length (v k : Nat) : (vB v k).length = k := by simp [vB]
/-- A number's bytes. -/
def vE (v : Nat) : List UInt8 := vB v (vCnt v)
theorem vE_length (v : Nat) : (vE v).length = vCnt v := vB_length v _
theorem vE_small {v : Nat} (h : v < 128) : vE v = [UInt8.ofNat v] := by
  unfold vE
  rw [vCnt_small h]
  simp [vB, vGrp, h]
theorem vE_big {v : Nat} (h : ¬ v < 128) : vE v = UInt8.ofNat (v % 128 + 128) :: vE (v / 128) := by
  unfold vE vB
  rw [vCnt_big h, List.range_succ_eq_map, List.map_cons, List.map_map]
  congr 1
  · rw [Nat.pow_zero, Nat.div_one]
    unfold vGrp
    rw [if_neg h]
  · apply List.map_congr_left
    intro j _
    show UInt8.ofNat (vGrp (v / 128 ^ (j + 1))) = _
    rw [Nat.pow_succ', ← Nat.div_div_eq_div_mul]
/-- A number's bytes, as numbers. -/
def venc (v : Nat) : List Nat := if h : v < 128 then [v] else (v % 128 + 128) :: venc (v / 128)
termination_by v
decreasing_by omega
theorem venc_small {v : Nat} (h : v < 128) : venc v = [v] := by rw [venc, dif_pos h]
theorem venc_big {v : Nat} (h : ¬ v < 128) : venc v = (v % 128 + 128) :: venc (v / 128) := by rw [venc, dif_neg h]
theorem venc_length (v : Nat) : (venc v).length = vCnt v := by
  induction v using Nat.strongRecOn with
  | ind v ih =>
    by_cases h : v < 128
    · rw [venc_small h, vCnt_small h]; rfl
    · rw [venc_big h, vCnt_big h, List.length_cons, ih (v / 128) (by omega)]
theorem venc_lt (v : Nat) : ∀ c ∈ venc v, c < 256 := by
  induction v using Nat.strongRecOn with
  | ind v ih =>
    by_cases h : v < 128
    · rw [venc_small h]
      intro c hc
      simp only [List.mem_singleton] at hc
      omega
    · rw [venc_big h]
      intro c hc
      rcases List.mem_cons.1 hc with rfl | hc
      · omega
      · exact ih (v / 128) (by omega) c hc
/-- Bytes read as a number, the i-th one next. -/
def vdec : List Nat → Nat → Nat → Option (Nat × Nat)
  | [], _, _ => none
  | c :: r, i, acc => if i = 9 ∧ c > 1 ∨ 0 < i ∧ c = 0 then none else if c < 128 then some (acc + c * 2 ^ (7 * i), i + 1) else vdec r (i + 1) (acc + (c - 128) * 2 ^ (7 * i))
theorem vdec_put (v : Nat) (rest : List Nat) : ∀ i acc, v * 2 ^ (7 * i) < 2 ^ 64 → (0 < i → 0 < v) → vdec (venc v ++ rest) i acc = some (acc + v * 2 ^ (7 * i), i + vCnt v) := by
  induction v using Nat.strongRecOn with
  | ind v ih =>
    intro i acc hv h0
    by_cases h : v < 128
    · rw [venc_small h, vCnt_small h, List.singleton_append, vdec, if_neg, if_pos h]
      rintro (⟨rfl, h9⟩ | ⟨h1, h2⟩)
      · omega
      · have := h0 h1
        omega
    · have e : 2 ^ (7 * (i + 1)) = 2 ^ (7 * i) * 128 := by rw [show 7 * (i + 1) = 7 * i + 7 by omega, Nat.pow_add]
      have hd : v / 128 * 2 ^ (7 * (i + 1)) + v % 128 * 2 ^ (7 * i) = v * 2 ^ (7 * i) := by
        rw [e, Nat.mul_comm (2 ^ (7 * i)) 128, ← Nat.mul_assoc, ← Nat.add_mul]
        congr 1
        omega
      rw [venc_big h, vCnt_big h, List.cons_append, vdec, if_neg, if_neg (by omega), ih (v / 128) (by omega) (i + 1) _ (by omega) (by omega), show v % 128 + 128 - 128 = v % 128 by omega]
      · simp only [Option.some.injEq, Prod.mk.injEq]
        omega
      · rintro (⟨rfl, _⟩ | ⟨_, h2⟩)
        · have : 128 * 2 ^ (7 * 9) ≤ v * 2 ^ (7 * 9) := Nat.mul_le_mul_right _ (by omega)
          omega
        · omega
theorem vdec_high (p : List Nat) (h : ∀ c ∈ p, 128 ≤ c) : ∀ i acc, vdec p i acc = none := by
  induction p with
  | nil => intro i acc; rfl
  | cons c p ih =>
    intro i acc
    have hc := h c List.mem_cons_self
    rw [vdec]
    split
    · rfl
    · rw [if_neg (by omega)]
      exact ih (fun x hx => h x (List.mem_cons_of_mem _ hx)) _ _
theorem venc_cut (v : Nat) : ∀ j, j < vCnt v → ∀ c ∈ (venc v).take j, 128 ≤ c := by
  induction v using Nat.strongRecOn with
  | ind v ih =>
    intro j hj c hc
    by_cases h : v < 128
    · rw [vCnt_small h] at hj
      obtain rfl : j = 0 := by omega
      simp at hc
    · rw [vCnt_big h] at hj
      rw [venc_big h] at hc
      cases j with
      | zero => simp at hc
      | succ j =>
        rw [List.take_succ_cons] at hc
        rcases List.mem_cons.1 hc with rfl | hc
        · omega
        · exact ih (v / 128) (by omega) j (by omega) c hc
theorem vCnt_mono {a b : Nat} (h : a ≤ b) : vCnt a ≤ vCnt b := by
  induction b using Nat.strongRecOn generalizing a with
  | ind b ih =>
    by_cases hb : b < 128
    · rw [vCnt_small hb, vCnt_small (by omega)]
      exact Nat.le_refl _
    · rw [vCnt_big hb]
      by_cases ha : a < 128
      · rw [vCnt_small ha]
        omega
      · rw [vCnt_big ha]
        have := ih (b / 128) (by omega) (a := a / 128) (Nat.div_le_div_right h)
        omega
theorem venc_prefix {a b : Nat} (ha : a < 2 ^ 64) (hb : b < 2 ^ 64) (h : venc a = (venc b).take (vCnt a)) : a = b := by
  have h1 := vdec_put a ((venc b).drop (vCnt a)) 0 0 (by simpa using ha) (fun h => absurd h (by decide))
  have h2 := vdec_put b [] 0 0 (by simpa using hb) (fun h => absurd h (by decide))
  rw [List.append_nil] at h2
  rw [h, List.take_append_drop, h2] at h1
  simp only [Option.some.injEq, Prod.mk.injEq] at h1
  omega
/-- What is read has one form alone. -/
theorem vdec_form (p : List Nat) (hp : ∀ c ∈ p, c < 256) : ∀ i acc n m, i ≤ 9 → vdec p i acc = some (n, m) →
    ∃ v, m = i + vCnt v ∧ n = acc + v * 2 ^ (7 * i) ∧ p.take (vCnt v) = venc v ∧ (0 < i → 0 < v) ∧ v * 2 ^ (7 * i) < 2 ^ 64 ∧ vCnt v ≤ p.length := by
  induction p with
  | nil => intro i acc n m _ h; cases h
  | cons c p ih =>
    intro i acc n m hi h
    have hc := hp c List.mem_cons_self
    rw [vdec] at h
    by_cases hbad : i = 9 ∧ c > 1 ∨ 0 < i ∧ c = 0
    · rw [if_pos hbad] at h
      cases h
    · rw [if_neg hbad] at h
      have hpw : ∀ j : _root_.Fin 10, 2 ^ (7 * j.val) ≤ 2 ^ 63 ∧ (j.val < 9 → 2 ^ (7 * j.val) ≤ 2 ^ 56) := by decide
      have hpi := hpw ⟨i, by omega⟩
      simp only at hpi
      by_cases hl : c < 128
      · rw [if_pos hl] at h
        obtain ⟨h1, h2⟩ := Prod.mk.inj (Option.some.inj h)
        refine ⟨c, by rw [vCnt_small hl]; exact h2.symm, h1.symm, by rw [vCnt_small hl, venc_small hl]; rfl, fun h0 => by omega, ?_, by rw [vCnt_small hl]; simp⟩
        by_cases h9 : i = 9
        · have : c * 2 ^ (7 * i) ≤ 1 * 2 ^ (7 * i) := Nat.mul_le_mul_right _ (by omega)
          omega
        · have : c * 2 ^ (7 * i) ≤ 127 * 2 ^ (7 * i) := Nat.mul_le_mul_right _ (by omega)
          have := hpi.2 (by omega)
          omega
      · rw [if_neg hl] at h
        have hi9 : i ≠ 9 := fun e => hbad (.inl ⟨e, by omega⟩)
        obtain ⟨v, h1, h2, h3, h4, h5, h6⟩ := ih (fun x hx => hp x (List.mem_cons_of_mem _ hx)) (i + 1) _ n m (by omega) h
        have hv := h4 (by omega)
        have e : 2 ^ (7 * (i + 1)) = 2 ^ (7 * i) * 128 := by rw [show 7 * (i + 1) = 7 * i + 7 by omega, Nat.pow_add]
        have hw : ¬ (v * 128 + (c - 128)) < 128 := by omega
        have hdiv : (v * 128 + (c - 128)) / 128 = v := by omega
        have hmod : (v * 128 + (c - 128)) % 128 + 128 = c := by omega
        have hmul : (v * 128 + (c - 128)) * 2 ^ (7 * i) = (c - 128) * 2 ^ (7 * i) + v * 2 ^ (7 * (i + 1)) := by
          rw [e, Nat.add_mul, Nat.mul_comm (2 ^ (7 * i)) 128, ← Nat.mul_assoc]
          omega
        refine ⟨v * 128 + (c - 128), by rw [vCnt_big hw, hdiv]; omega, by rw [hmul]; omega, ?_, fun _ => by omega, ?_, by rw [vCnt_big hw, hdiv, List.length_cons]; omega⟩
        · rw [vCnt_big hw, venc_big hw, hdiv, hmod, List.take_succ_cons, h3]
        · have hlt : (c - 128) * 2 ^ (7 * i) < 2 ^ (7 * (i + 1)) := by
            rw [e, Nat.mul_comm (2 ^ (7 * i)) 128]
            exact Nat.mul_lt_mul_of_pos_right (by omega) (Nat.pow_pos (by decide))
          have hdvd : ∃ q, 2 ^ 64 = q * 2 ^ (7 * (i + 1)) + (if i = 8 then 0 else 0) := by
            refine ⟨2 ^ (64 - 7 * (i + 1)), ?_⟩
            rw [← Nat.pow_add, show 64 - 7 * (i + 1) + 7 * (i + 1) = 64 by omega]
            simp
          obtain ⟨q, hq⟩ := hdvd
          have hq : 2 ^ 64 = q * 2 ^ (7 * (i + 1)) := by simpa using hq
          rw [hq] at h5
          have hvq : v < q := Nat.lt_of_mul_lt_mul_right h5
          have : (v + 1) * 2 ^ (7 * (i + 1)) ≤ q * 2 ^ (7 * (i + 1)) := Nat.mul_le_mul_right _ hvq
          rw [Nat.add_mul, Nat.one_mul] at this
          rw [hmul, hq]
          omega
/-- Bytes as numbers. -/
def nats (l : List UInt8) : List Nat := l.map UInt8.toNat
theorem nats_length (l : List UInt8) : (nats l).length = l.length := by simp [nats]
theorem nats_append (a b : List UInt8) : nats (a ++ b) = nats a ++ nats b := by simp [nats]
theorem nats_take (a : List UInt8) (n : Nat) : (nats a).take n = nats (a.take n) := by simp [nats, List.map_take]
theorem nats_drop (a : List UInt8) (n : Nat) : (nats a).drop n = nats (a.drop n) := by simp [nats, List.map_drop]
theorem nats_lt (l : List UInt8) : ∀ c ∈ nats l, c < 256 := by
  intro c hc
  obtain ⟨b, _, rfl⟩ := List.mem_map.1 hc
  exact u8_lt b
theorem nats_inj {a b : List UInt8} (h : nats a = nats b) : a = b := (List.map_inj_right fun x y e => UInt8.toNat_inj.1 e).1 h
theorem nats_vE (v : Nat) : nats (vE v) = venc v := by
  induction v using Nat.strongRecOn with
  | ind v ih =>
    by_cases h : v < 128
    · rw [vE_small h, venc_small h]
      show [(UInt8.ofNat v).toNat] = [v]
      rw [UInt8.toNat_ofNat', Nat.mod_eq_of_lt (by omega)]
    · rw [vE_big h, venc_big h]
      show (UInt8.ofNat (v % 128 + 128)).toNat :: nats (vE (v / 128)) = _
      rw [ih (v / 128) (by omega), UInt8.toNat_ofNat', Nat.mod_eq_of_lt (by omega)]
/-- A number at a place: the number, where it ends. -/
def vGet (l : List UInt8) (a : Int) : Int × Int × Bool := match decide (0 ≤ a ∧ a ≤ l.length), vdec (nats ((l.drop a.toNat).take 10)) 0 0 with
  | true, some (n, m) => ((n : Int), a + (m : Nat), true)
  | _, _ => (0, 0, false)
theorem vGet_no {l : List UInt8} {a : Int} (h : ¬ (0 ≤ a ∧ a ≤ l.length)) : vGet l a = (0, 0, false) := by
  unfold vGet; rw [decide_eq_false h]
theorem vGet_none {l : List UInt8} {a : Int} (h : vdec (nats ((l.drop a.toNat).take 10)) 0 0 = none) : vGet l a = (0, 0, false) := by
  unfold vGet; rw [h]; split
  · rename_i h1 h2; cases h2
  · rfl
theorem vGet_some {l : List UInt8} {a : Int} {n m : Nat} (h : 0 ≤ a ∧ a ≤ l.length) (h2 : vdec (nats ((l.drop a.toNat).take 10)) 0 0 = some (n, m)) : vGet l a = ((n : Int), a + (m : Nat), true) := by
  unfold vGet; rw [decide_eq_true h, h2]
/-- What is put is read back. -/
theorem vGet_put (pre post : List UInt8) {v : Nat} (hv : v < 18446744073709551616) : vGet (pre ++ vE v ++ post) (pre.length : Nat) = ((v : Int), ((pre.length + vCnt v : Nat) : Int), true) := by
  have h1 : (((pre ++ vE v ++ post).drop ((pre.length : Nat) : Int).toNat).take 10) = vE v ++ post.take (10 - vCnt v) := by
    rw [Int.toNat_natCast, List.append_assoc, List.drop_left, List.take_append, vE_length, List.take_of_length_le (by rw [vE_length]; exact vCnt_le v hv)]
  have h2 := vdec_put v (nats (post.take (10 - vCnt v))) 0 0 (by simpa using hv) (fun h => absurd h (by decide))
  rw [← nats_vE, ← nats_append, ← h1] at h2
  rw [vGet_some (by simp only [List.length_append]; omega) h2]
  simp
/-- What is read has one form alone. -/
theorem vGet_form (l : List UInt8) (a : Int) : vGet l a = (0, 0, false) ∨ ∃ v : Nat, v < 18446744073709551616 ∧ 0 ≤ a ∧ a + (vCnt v : Nat) ≤ l.length ∧ vGet l a = ((v : Int), a + (vCnt v : Nat), true) ∧ (l.drop a.toNat).take (vCnt v) = vE v := by
  by_cases h : 0 ≤ a ∧ a ≤ l.length
  · cases hd : vdec (nats ((l.drop a.toNat).take 10)) 0 0 with
    | none => exact .inl (vGet_none hd)
    | some p =>
      obtain ⟨n, m⟩ := p
      obtain ⟨v, h1, h2, h3, _, h5, h6⟩ := vdec_form _ (nats_lt _) 0 0 n m (by decide) hd
      have h2 : n = v := by simpa using h2
      have h1 : m = vCnt v := by simpa using h1
      subst h1
      subst h2
      have hv : n < 18446744073709551616 := by simpa using h5
      have h10 := vCnt_le n hv
      rw [nats_length, List.length_take, List.length_drop] at h6
      refine .inr ⟨n, hv, h.1, by omega, vGet_some h hd, ?_⟩
      rw [nats_take, List.take_take, Nat.min_eq_left h10] at h3
      exact nats_inj (h3.trans (nats_vE n).symm)
  · exact .inl (vGet_no h)
theorem vGet_lt (l : List UInt8) (a : Int) : 0 ≤ (vGet l a).1 ∧ (vGet l a).1 < 18446744073709551616 := by
  rcases vGet_form l a with h | ⟨v, hv, _, _, h, _⟩ <;> rw [h]
  · decide
  · simp only; omega
theorem vGet_end (l : List UInt8) (a : Int) : 0 ≤ (vGet l a).2.1 ∧ (vGet l a).2.1 ≤ l.length := by
  rcases vGet_form l a with h | ⟨v, hv, h1, h2, h, _⟩ <;> rw [h]
  · exact ⟨Int.le_refl 0, Int.natCast_nonneg _⟩
  · simp only; omega
/-- A number with a sign, out of one without. -/
def unzig (n : Int) : Int := if n % 2 = 0 then n / 2 else -(n / 2) - 1
abbrev zig (x : Int) : Nat := Lib.zigzag x
theorem unzig_zig (x : Int) (h0 : -9223372036854775808 ≤ x) (h1 : x ≤ 9223372036854775807) : unzig (zig x : Nat) = x := by
  unfold unzig zig Lib.zigzag
  split <;> split <;> omega
theorem zig_unzig (n : Nat) : zig (unzig (n : Nat)) = n := by
  unfold unzig zig Lib.zigzag
  split <;> split <;> omega
theorem unzig_bd {n : Int} (h0 : 0 ≤ n) (h1 : n < 18446744073709551616) : -9223372036854775808 ≤ unzig n ∧ unzig n ≤ 9223372036854775807 := by
  unfold unzig
  split <;> omega
theorem zig_lt {x : Int} (h0 : -9223372036854775808 ≤ x) (h1 : x ≤ 9223372036854775807) : zig x < 18446744073709551616 := Lib.zigzag_lt h0 h1
theorem vor (acc c : Int) (i : Nat) (hi : i ≤ 9) (h0 : 0 ≤ acc) (h1 : acc < 2 ^ (7 * i)) (c0 : 0 ≤ c) (c1 : c < 128) (c9 : i = 9 → c ≤ 1) :
    Go.bits .or .u64 acc (IntKind.u64.wrap (c * 2 ^ (7 * i))) = acc + c * 2 ^ (7 * i) ∧ 0 ≤ acc + c * 2 ^ (7 * i) ∧ (i < 9 → acc + c * 2 ^ (7 * i) < 2 ^ (7 * (i + 1))) := by
  have hp : (0 : Int) < 2 ^ (7 * i) := Int.pow_pos (by decide)
  have hm : c * 2 ^ (7 * i) < 18446744073709551616 ∧ (2 : Int) ^ (7 * i) ≤ 9223372036854775808 := by
    have key : ∀ j : _root_.Fin 10, (2 : Int) ^ (7 * j.val) ≤ 9223372036854775808 ∧ (j.val < 9 → (2 : Int) ^ (7 * j.val) ≤ 72057594037927936) := by decide
    have k1 := key ⟨i, by omega⟩
    refine ⟨?_, k1.1⟩
    rcases Nat.lt_or_ge i 9 with h | h
    · have h2 := k1.2 h
      have : c * 2 ^ (7 * i) ≤ 127 * 2 ^ (7 * i) := Int.mul_le_mul_of_nonneg_right (by omega) (by omega)
      simp only at h2
      omega
    · have h3 := c9 (by omega)
      have : c * 2 ^ (7 * i) ≤ 1 * 2 ^ (7 * i) := Int.mul_le_mul_of_nonneg_right (by omega) (by omega)
      have h4 := k1.1
      simp only at h4
      omega
  have hn : 0 ≤ c * 2 ^ (7 * i) := Int.mul_nonneg c0 (by omega)
  have hw : IntKind.u64.wrap (c * 2 ^ (7 * i)) = c * 2 ^ (7 * i) := by rw [IntKind.wrap_u64]; omega
  have hc : Go.bits .or .u64 acc (c * 2 ^ (7 * i)) = Go.bits .or .u64 (c * 2 ^ (7 * i)) acc := by simp only [Go.bits, BitVec.or_comm]
  refine ⟨?_, by omega, fun h9 => ?_⟩
  · rw [hw, hc, bits_join .u64 64 (by decide) (fun m m0 m1 => by rw [IntKind.wrap_u64]; rw [show (2 : Int) ^ 64 = 18446744073709551616 by decide] at m1; omega) (7 * i) _ _ hn (Int.mul_emod_left _ _) (by rw [show (2 : Int) ^ 64 = 18446744073709551616 by decide]; omega) h0 h1 (by rw [show (2 : Int) ^ 64 = 18446744073709551616 by decide]; omega)]
    omega
  · have : c * 2 ^ (7 * i) ≤ 127 * 2 ^ (7 * i) := Int.mul_le_mul_of_nonneg_right (by omega) (by omega)
    have e : (2 : Int) ^ (7 * (i + 1)) = 2 ^ (7 * i) * 128 := by rw [show 7 * (i + 1) = 7 * i + 7 by omega, Int.pow_add]; rfl
    rw [e]
    omega
theorem and127 (c : Int) (h0 : 0 ≤ c) (h1 : c < 256) : Go.bits .and .u8 c 127 = c % 128 := by
  have key : ∀ y : _root_.Fin 256, Go.bits .and .u8 ((y.val : Nat) : Int) 127 = ((y.val % 128 : Nat) : Int) := by decide +kernel
  have := key ⟨c.toNat, by omega⟩
  simp only at this
  rw [show ((c.toNat : Nat) : Int) = c by omega] at this
  rw [this]
  omega
theorem xor_comm64 (k : IntKind) (a b : Int) : Go.bits .xor k a b = Go.bits .xor k b a := by simp only [Go.bits, BitVec.xor_comm]
theorem xor_zero_u64 (x : Nat) (h : x < 18446744073709551616) : Go.bits .xor .u64 (x : Int) 0 = (x : Int) := by
  have e := bits_xor_u64_nat x 0 (by omega) (by decide)
  rw [Nat.xor_zero] at e
  exact e
theorem put_zig (x : Int) (h0 : -9223372036854775808 ≤ x) (h1 : x ≤ 9223372036854775807) :
    Go.bits .xor .u64 (IntKind.u64.wrap ((IntKind.u64.wrap x) * 2)) (IntKind.u64.wrap (x / 9223372036854775808)) = ((Lib.zigzag x : Nat) : Int) := by
  by_cases h : 0 ≤ x
  · have e : IntKind.u64.wrap (x / 9223372036854775808) = 0 := by rw [IntKind.wrap_u64]; omega
    have e2 : IntKind.u64.wrap ((IntKind.u64.wrap x) * 2) = ((Lib.zigzag x : Nat) : Int) := by rw [Lib.zigzag_nonneg h, IntKind.wrap_u64, IntKind.wrap_u64]; omega
    rw [e, e2, xor_zero_u64 _ (Lib.zigzag_lt h0 h1)]
  · have e : IntKind.u64.wrap (x / 9223372036854775808) = IntKind.u64.max := by
      rw [show IntKind.u64.max = 18446744073709551615 by decide, IntKind.wrap_u64]
      omega
    rw [e, xor_comm64, Lib.zigzag_neg h0 (by omega)]
theorem get_zig (x : Int) (h0 : -9223372036854775808 ≤ x) (h1 : x ≤ 9223372036854775807) :
    Go.bits .xor .i64 (IntKind.i64.wrap (((Lib.zigzag x : Nat) : Int) / 2)) (IntKind.i64.wrap (-(IntKind.i64.wrap (Go.bits .and .u64 ((Lib.zigzag x : Nat) : Int) 1)))) = x := by
  have hz := Lib.zigzag_lt h0 h1
  rw [Lib.u64_and1 _ (by omega) (by omega)]
  by_cases h : 0 ≤ x
  · have hn := Lib.zigzag_nonneg h
    rw [hn]
    have e1 : IntKind.i64.wrap (x * 2 / 2) = x := by simp only [IntKind.wrap_i64]; omega
    have e2 : IntKind.i64.wrap (-(IntKind.i64.wrap (x * 2 % 2))) = 0 := by simp only [IntKind.wrap_i64]; omega
    rw [e1, e2]
    obtain ⟨y, rfl⟩ : ∃ y : Nat, x = (y : Int) := ⟨x.toNat, by omega⟩
    show IntKind.i64.wrap ((BitVec.ofInt 64 (y : Int) ^^^ BitVec.ofInt 64 0).toNat : Int) = _
    have h2 : (BitVec.ofInt 64 (y : Int)).toNat = y := by
      rw [BitVec.ofInt_natCast, BitVec.toNat_ofNat]; exact Nat.mod_eq_of_lt (by omega)
    rw [BitVec.toNat_xor, h2, show (BitVec.ofInt 64 0).toNat = 0 from rfl, Nat.xor_zero, IntKind.wrap_i64]
    omega
  · have hn : ((Lib.zigzag x : Nat) : Int) = -2 * x - 1 := by unfold Lib.zigzag; rw [if_neg h]; omega
    rw [hn]
    have e1 : IntKind.i64.wrap ((-2 * x - 1) / 2) = (((-x - 1).toNat : Nat) : Int) := by simp only [IntKind.wrap_i64]; omega
    have e2 : IntKind.i64.wrap (-(IntKind.i64.wrap ((-2 * x - 1) % 2))) = -1 := by simp only [IntKind.wrap_i64]; omega
    rw [e1, e2, xor_comm64, Lib.i64_not _ (by omega)]
    omega
end Go.Proofs.Ytonbbaimkpjcfaa.Ev
