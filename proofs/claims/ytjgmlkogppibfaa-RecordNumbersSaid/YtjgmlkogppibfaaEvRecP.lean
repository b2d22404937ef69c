/- Batches as bytes: plain laws. No conditions. -/
import Derived.Test.YtjgmlkogppibfaaEvVar
import Derived.Test.YtjgmlkogppibfaaEvOctets
import Derived.Test.YtjgmlkogppibfaaEvSum
namespace Go.Proofs.Ytjgmlkogppibfaa.Ev
open Go
set_option linter.unusedVariables false
set_option linter.unusedSimpArgs false
/-! ### Numbers of a fixed size -/
theorem beB_snoc (n v : Nat) : beB (n + 1) v = beB n (v / 256) ++ [UInt8.ofNat v] := by
  induction n with
  | zero => simp [beB]
  | succ n ih =>
    rw [beB, ih, beB, List.cons_append, Nat.div_div_eq_div_mul, Nat.pow_succ, Nat.mul_comm 256]
theorem beB_numN (l : List UInt8) (a : Nat) : ∀ n, a + n ≤ l.length → beB n (numN l a n) = (l.drop a).take n
  | 0, _ => by simp [beB]
  | n + 1, h => by
    have hc := u8_lt (l.getD (a + n) 0)
    rw [beB_snoc, numN, show (numN l a n * 256 + (l.getD (a + n) 0).toNat) / 256 = numN l a n by omega, beB_numN l a n (by omega), List.take_add_one, List.getElem?_drop]
    congr 1
    have e : UInt8.ofNat (numN l a n * 256 + (l.getD (a + n) 0).toNat) = l.getD (a + n) 0 := by
      apply UInt8.toNat_inj.1
      rw [UInt8.toNat_ofNat']
      omega
    rw [e, List.getD_eq_getElem?_getD, List.getElem?_eq_getElem (by omega)]
    rfl
theorem numN_cut (l r : List UInt8) (a : Nat) : ∀ n, a + n ≤ l.length → numN (l ++ r) a n = numN l a n
  | 0, _ => rfl
  | n + 1, h => by
    rw [numN, numN, numN_cut l r a n (by omega), List.getD_eq_getElem?_getD, List.getD_eq_getElem?_getD, List.getElem?_append_left (by omega)]
theorem numN_shift (l r : List UInt8) (i : Nat) : ∀ n, numN (l ++ r) (l.length + i) n = numN r i n
  | 0 => rfl
  | n + 1 => by
    rw [numN, numN, numN_shift l r i n, List.getD_eq_getElem?_getD, List.getD_eq_getElem?_getD, List.getElem?_append_right (by omega)]
    congr 4
    omega
theorem numN_beB : ∀ (n v : Nat), v < 256 ^ n → numN (beB n v) 0 n = v
  | 0, v, h => by simp at h; subst h; rfl
  | n + 1, v, h => by
    rw [beB_snoc, numN, numN_cut _ _ 0 n (by rw [beB_length]; omega), numN_beB n (v / 256) (by rw [Nat.pow_succ] at h; omega), List.getD_eq_getElem?_getD, List.getElem?_append_right (by rw [beB_length]; omega), beB_length]
    simp
    omega
/-! ### Codes that end by themselves -/
theorem vE_sd {v w : Nat} {r s : List UInt8} (hv : v < 18446744073709551616) (hw : w < 18446744073709551616) (h : vE v ++ r = vE w ++ s) : v = w ∧ r = s := by
  have h1 := vGet_put [] r hv
  have h2 := vGet_put [] s hw
  rw [List.nil_append] at h1 h2
  rw [h, h2] at h1
  have e : v = w := by
    have := congrArg Prod.fst h1
    simp only at this
    omega
  subst e
  exact ⟨rfl, List.append_cancel_left h⟩
theorem vI_sd {x y : Int} {r s : List UInt8} (hx : -9223372036854775808 ≤ x ∧ x ≤ 9223372036854775807) (hy : -9223372036854775808 ≤ y ∧ y ≤ 9223372036854775807) (h : vE (zig x) ++ r = vE (zig y) ++ s) : x = y ∧ r = s := by
  obtain ⟨h1, h2⟩ := vE_sd (zig_lt hx.1 hx.2) (zig_lt hy.1 hy.2) h
  refine ⟨?_, h2⟩
  rw [← unzig_zig x hx.1 hx.2, ← unzig_zig y hy.1 hy.2, h1]
/-- A row of bytes, its length ahead. -/
def recB (r : List UInt8) : List UInt8 := vE r.length ++ r
def recsB (rs : List (List UInt8)) : List UInt8 := (rs.map recB).flatten
theorem recsB_nil : recsB [] = [] := rfl
theorem recsB_cons (r : List UInt8) (rs : List (List UInt8)) : recsB (r :: rs) = recB r ++ recsB rs := by simp [recsB]
theorem recsB_app (a b : List (List UInt8)) : recsB (a ++ b) = recsB a ++ recsB b := by simp [recsB]
theorem recsB_one (r : List UInt8) : recsB [r] = recB r := by simp [recsB]
theorem recB_sd {x y r s : List UInt8} (hx : x.length < 18446744073709551616) (hy : y.length < 18446744073709551616) (h : recB x ++ r = recB y ++ s) : x = y ∧ r = s := by
  unfold recB at h
  rw [List.append_assoc, List.append_assoc] at h
  obtain ⟨h1, h2⟩ := vE_sd hx hy h
  exact List.append_inj h2 h1
theorem recsB_sd : ∀ {xs ys : List (List UInt8)} {r s : List UInt8}, (∀ x ∈ xs, x.length < 18446744073709551616) → (∀ y ∈ ys, y.length < 18446744073709551616) → xs.length = ys.length → recsB xs ++ r = recsB ys ++ s → xs = ys ∧ r = s
  | [], [], r, s, _, _, _, h => ⟨rfl, h⟩
  | [], y :: ys, r, s, _, _, hl, _ => by cases hl
  | x :: xs, [], r, s, _, _, hl, _ => by cases hl
  | x :: xs, y :: ys, r, s, hx, hy, hl, h => by
    rw [recsB_cons, recsB_cons, List.append_assoc, List.append_assoc] at h
    obtain ⟨h1, h2⟩ := recB_sd (hx x List.mem_cons_self) (hy y List.mem_cons_self) h
    obtain ⟨h3, h4⟩ := recsB_sd (fun z hz => hx z (List.mem_cons_of_mem _ hz)) (fun z hz => hy z (List.mem_cons_of_mem _ hz)) (by simpa using hl) h2
    exact ⟨by rw [h1, h3], h4⟩
/-- Fewer were read, more stand there. -/
theorem recsB_next : ∀ {xs ys : List (List UInt8)} {s : List UInt8}, (∀ x ∈ xs, x.length < 18446744073709551616) → (∀ y ∈ ys, y.length < 18446744073709551616) → ys.length < xs.length → recsB xs = recsB ys ++ s → ∃ z ∈ xs, ∃ t, s = recB z ++ t
  | [], ys, s, _, _, hl, _ => by cases hl
  | x :: xs, [], s, _, _, _, h => ⟨x, List.mem_cons_self, recsB xs, by rw [← recsB_cons, h]; rfl⟩
  | x :: xs, y :: ys, s, hx, hy, hl, h => by
    rw [recsB_cons, recsB_cons, List.append_assoc] at h
    obtain ⟨h1, h2⟩ := recB_sd (hx x List.mem_cons_self) (hy y List.mem_cons_self) h
    obtain ⟨z, hz, t, ht⟩ := recsB_next (fun z hz => hx z (List.mem_cons_of_mem _ hz)) (fun z hz => hy z (List.mem_cons_of_mem _ hz)) (by simpa using hl) h2
    exact ⟨z, List.mem_cons_of_mem _ hz, t, ht⟩
/-! ### Batches -/
abbrev BT : Type := Int × Int × Int × List (List UInt8)
def hdB (p e f : Int) (n : Nat) : List UInt8 := vE (zig p) ++ (vE (zig e) ++ (vE (zig f) ++ vE n))
def inB (x : BT) : List UInt8 := hdB x.1 x.2.1 x.2.2.1 x.2.2.2.length ++ recsB x.2.2.2
def i64R (x : Int) : Prop := -9223372036854775808 ≤ x ∧ x ≤ 9223372036854775807
def rgt (x : BT) : Bool := decide (x.2.2.2.length ≤ 256) && x.2.2.2.all fun r => decide (r.length ≤ 1024)
theorem rgt_iff (x : BT) : rgt x = true ↔ x.2.2.2.length ≤ 256 ∧ ∀ r ∈ x.2.2.2, r.length ≤ 1024 := by simp [rgt]
def u64N (b : Int) : Nat := (b % 18446744073709551616).toNat
theorem u64N_lt (b : Int) : u64N b < 18446744073709551616 := by unfold u64N; omega
theorem u64N_inj {a b : Int} (ha : i64R a) (hb : i64R b) (h : u64N a = u64N b) : a = b := by unfold u64N at h; unfold i64R at *; omega
def enB (b : Int) (x : BT) : List UInt8 := beB 8 (u64N b) ++ (beB 4 (crV 0 (inB x)) ++ inB x)
/-- What may be written. -/
def okE (b : Int) (x : BT) : Prop := i64R b ∧ i64R x.1 ∧ i64R x.2.1 ∧ i64R x.2.2.1 ∧ rgt x = true ∧ 12 + (inB x).length ≤ 60000
theorem enB_length (b : Int) (x : BT) : (enB b x).length = 12 + (inB x).length := by unfold enB; simp only [List.length_append, beB_length]; omega
theorem hdB_sd {p e f p' e' f' : Int} {n n' : Nat} {r s : List UInt8} (h1 : i64R p) (h2 : i64R e) (h3 : i64R f) (h4 : n < 18446744073709551616) (k1 : i64R p') (k2 : i64R e') (k3 : i64R f') (k4 : n' < 18446744073709551616)
    (h : hdB p e f n ++ r = hdB p' e' f' n' ++ s) : p = p' ∧ e = e' ∧ f = f' ∧ n = n' ∧ r = s := by
  unfold hdB at h
  simp only [List.append_assoc] at h
  obtain ⟨a1, h⟩ := vI_sd h1 k1 h
  obtain ⟨a2, h⟩ := vI_sd h2 k2 h
  obtain ⟨a3, h⟩ := vI_sd h3 k3 h
  obtain ⟨a4, h⟩ := vE_sd h4 k4 h
  exact ⟨a1, a2, a3, a4, h⟩
theorem rgt_lt {x : BT} (h : rgt x = true) : ∀ r ∈ x.2.2.2, r.length < 18446744073709551616 := fun r hr => by
  have := ((rgt_iff x).1 h).2 r hr
  omega
theorem inB_sd {x y : BT} {r s : List UInt8} (hx : ∃ b, okE b x) (hy : ∃ b, okE b y) (h : inB x ++ r = inB y ++ s) : x = y ∧ r = s := by
  obtain ⟨b, _, x1, x2, x3, x4, _⟩ := hx
  obtain ⟨c, _, y1, y2, y3, y4, _⟩ := hy
  unfold inB at h
  rw [List.append_assoc, List.append_assoc] at h
  have hl := ((rgt_iff x).1 x4).1
  have hl' := ((rgt_iff y).1 y4).1
  obtain ⟨a1, a2, a3, a4, h⟩ := hdB_sd x1 x2 x3 (by omega) y1 y2 y3 (by omega) h
  obtain ⟨a5, h⟩ := recsB_sd (rgt_lt x4) (rgt_lt y4) a4 h
  exact ⟨Prod.ext a1 (Prod.ext a2 (Prod.ext a3 a5)), h⟩
theorem enB_sd {b c : Int} {x y : BT} {r s : List UInt8} (hx : okE b x) (hy : okE c y) (h : enB b x ++ r = enB c y ++ s) : b = c ∧ x = y ∧ r = s := by
  unfold enB at h
  simp only [List.append_assoc] at h
  obtain ⟨h1, h⟩ := List.append_inj h (by rw [beB_length, beB_length])
  obtain ⟨_, h⟩ := List.append_inj h (by rw [beB_length, beB_length])
  obtain ⟨h2, h3⟩ := inB_sd ⟨b, hx⟩ ⟨c, hy⟩ h
  have h4 := congrArg (fun l => numN l 0 8) h1
  simp only [numN_beB 8 _ (u64N_lt _)] at h4
  exact ⟨u64N_inj hx.1 hy.1 h4, h2, h3⟩
/-- Bytes that are none. -/
def badE (l : List UInt8) : Prop := ∀ b x, okE b x → enB b x ≠ l
theorem enB_in {b : Int} {x : BT} {l : List UInt8} (h : enB b x = l) : inB x = l.drop 12 := by
  rw [← h, enB, ← List.append_assoc, List.drop_left' (by simp [beB_length])]
theorem bad_len {l : List UInt8} (h : l.length < 12 ∨ 60000 < l.length) : badE l := by
  intro b x ho he
  have h1 := enB_length b x
  rw [he] at h1
  have := ho.2.2.2.2.2
  omega
/-- The way of a reader: what is read so far, what is left. -/
theorem bad_of {l : List UInt8} (h : ∀ b x, okE b x → inB x ≠ l.drop 12) : badE l := fun b x ho he => h b x ho (enB_in he)
theorem sum_of {b : Int} {x : BT} {l : List UInt8} (h : enB b x = l) : numN l 8 4 = crV 0 (l.drop 12) ∧ numN l 0 8 = u64N b := by
  have hi := enB_in h
  rw [← hi, ← h]
  have h8 := beB_length 8 (u64N b)
  constructor
  · unfold enB
    have := numN_shift (beB 8 (u64N b)) (beB 4 (crV 0 (inB x)) ++ inB x) 0 4
    rw [h8] at this
    rw [this, numN_cut _ _ 0 4 (by rw [beB_length]; omega), numN_beB 4 _ (by have := crV_lt 0 (inB x); omega)]
  · unfold enB
    rw [numN_cut _ _ 0 8 (by rw [h8]; omega), numN_beB 8 _ (u64N_lt b)]
/-- The bytes, out of what was read. -/
theorem enB_of {b : Int} {x : BT} {l : List UInt8} (h12 : 12 ≤ l.length) (h1 : inB x = l.drop 12) (h2 : numN l 8 4 = crV 0 (l.drop 12)) (h3 : numN l 0 8 = u64N b) : enB b x = l := by
  unfold enB
  rw [h1, ← h2, ← h3, beB_numN l 0 8 (by omega), beB_numN l 8 4 (by omega), List.drop_zero]
  have e : (l.drop 8).take 4 ++ l.drop 12 = l.drop 8 := by
    conv => rhs; rw [← List.take_append_drop 4 (l.drop 8), List.drop_drop]
  rw [e, List.take_append_drop]
end Go.Proofs.Ytjgmlkogppibfaa.Ev
