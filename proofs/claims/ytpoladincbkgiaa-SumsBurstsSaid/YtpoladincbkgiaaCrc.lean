/- The sums' register, as numbers alone: it is linear, it forgets nothing, and four bytes next to each other that are turned turn it. No conditions. -/
import Derived.Laws.BitsAllLaws
namespace Go.Proofs.Ytpoladincbkgiaa.Crc

def P : Nat := 2197175160
def T (r : Nat) : Nat := if r % 2 = 1 then (r / 2) ^^^ P else r / 2
def Ts : Nat → Nat → Nat
  | 0, r => r
  | k + 1, r => Ts k (T r)
theorem Ts_add (a b r : Nat) : Ts (a + b) r = Ts b (Ts a r) := by
  induction a generalizing r with
  | zero => simp [Ts]
  | succ a ih => rw [Nat.succ_add]; exact ih (T r)
theorem P_lt : P < 2 ^ 32 := by decide
theorem T_lt (r : Nat) (h : r < 2 ^ 32) : T r < 2 ^ 32 := by
  unfold T
  split
  · exact Nat.xor_lt_two_pow (by omega) P_lt
  · omega
theorem Ts_lt (k r : Nat) (h : r < 2 ^ 32) : Ts k r < 2 ^ 32 := by
  induction k generalizing r with
  | zero => exact h
  | succ k ih => exact ih _ (T_lt r h)
theorem xor_mod_two (a b : Nat) : (a ^^^ b) % 2 = (a % 2 + b % 2) % 2 := by
  have h := Nat.xor_mod_two_eq_one (a := a) (b := b)
  rcases Nat.mod_two_eq_zero_or_one (a ^^^ b) with e | e <;> rcases Nat.mod_two_eq_zero_or_one a with ha | ha <;> rcases Nat.mod_two_eq_zero_or_one b with hb | hb <;> simp [e, ha, hb] at h ⊢
theorem xor_four (a b c d : Nat) : (a ^^^ b) ^^^ (c ^^^ d) = (a ^^^ c) ^^^ (b ^^^ d) := by
  apply Nat.eq_of_testBit_eq
  intro i
  simp only [Nat.testBit_xor]
  cases a.testBit i <;> cases b.testBit i <;> cases c.testBit i <;> cases d.testBit i <;> rfl
theorem T_xor (a b : Nat) : T (a ^^^ b) = T a ^^^ T b := by
  have hd : (a ^^^ b) / 2 = (a / 2) ^^^ (b / 2) := Nat.xor_div_two
  have hm := xor_mod_two a b
  unfold T
  rcases Nat.mod_two_eq_zero_or_one a with ha | ha <;> rcases Nat.mod_two_eq_zero_or_one b with hb | hb
  · rw [if_neg (by omega), if_neg (by omega), if_neg (by omega), hd]
  · rw [if_pos (by omega), if_neg (by omega), if_pos (by omega), hd, Nat.xor_assoc]
  · rw [if_pos (by omega), if_pos (by omega), if_neg (by omega), hd, Nat.xor_assoc, Nat.xor_comm (b / 2), ← Nat.xor_assoc]
  · rw [if_neg (by omega), if_pos (by omega), if_pos (by omega), hd]
    rw [Nat.xor_assoc (a / 2) P, Nat.xor_comm P, Nat.xor_assoc (b / 2), Nat.xor_self, Nat.xor_zero]
theorem Ts_xor (k a b : Nat) : Ts k (a ^^^ b) = Ts k a ^^^ Ts k b := by
  induction k generalizing a b with
  | zero => rfl
  | succ k ih => show Ts k (T (a ^^^ b)) = _; rw [T_xor, ih]; rfl
theorem T_zero : T 0 = 0 := rfl
theorem Ts_zero (k : Nat) : Ts k 0 = 0 := by
  induction k with
  | zero => rfl
  | succ k ih => exact ih
theorem T_inj (a : Nat) (h : a < 2 ^ 32) (h0 : T a = 0) : a = 0 := by
  unfold T at h0
  split at h0
  · have e : a / 2 = P := by
      have : (a / 2 ^^^ P) ^^^ P = P := by rw [h0, Nat.zero_xor]
      rwa [Nat.xor_assoc, Nat.xor_self, Nat.xor_zero] at this
    have : P = 2197175160 := rfl
    omega
  · omega
theorem Ts_inj (k a : Nat) (h : a < 2 ^ 32) (h0 : Ts k a = 0) : a = 0 := by
  induction k generalizing a with
  | zero => exact h0
  | succ k ih => exact T_inj a h (ih _ (T_lt a h) h0)
theorem T_double (x : Nat) : T (2 * x) = x := by unfold T; rw [if_neg (by omega)]; omega
theorem Ts_shift (k x : Nat) : Ts k (2 ^ k * x) = x := by
  induction k with
  | zero => simp [Ts]
  | succ k ih =>
    show Ts k (T (2 ^ (k + 1) * x)) = x
    rw [show 2 ^ (k + 1) * x = 2 * (2 ^ k * x) by rw [Nat.pow_succ, Nat.mul_comm (2 ^ k) 2, Nat.mul_assoc], T_double, ih]

/-- The register behind a list of bytes. -/
def G (r : Nat) (l : List Nat) : Nat := l.foldl (fun r c => Ts 8 (r ^^^ c)) r
theorem G_nil (r : Nat) : G r [] = r := rfl
theorem G_cons (r c : Nat) (l : List Nat) : G r (c :: l) = G (Ts 8 (r ^^^ c)) l := rfl
theorem G_append (r : Nat) (a b : List Nat) : G r (a ++ b) = G (G r a) b := by unfold G; rw [List.foldl_append]
theorem G_lt (l : List Nat) : ∀ r, r < 2 ^ 32 → (∀ c ∈ l, c < 256) → G r l < 2 ^ 32 := by
  induction l with
  | nil => exact fun r h _ => h
  | cons c l ih => exact fun r h hc => ih _ (Ts_lt _ _ (Nat.xor_lt_two_pow h (Nat.lt_of_lt_of_le (hc c List.mem_cons_self) (by decide)))) (fun x hx => hc x (List.mem_cons_of_mem _ hx))
/-- Linear in the register and the bytes together. -/
theorem G_xor (x y : List Nat) (h : x.length = y.length) : ∀ a b, G (a ^^^ b) (List.zipWith (· ^^^ ·) x y) = G a x ^^^ G b y := by
  induction x generalizing y with
  | nil => cases y with
    | nil => exact fun a b => rfl
    | cons _ _ => simp at h
  | cons c x ih => cases y with
    | nil => simp at h
    | cons d y =>
      intro a b
      rw [List.zipWith_cons_cons, G_cons, G_cons, G_cons, ← ih y (by simpa using h), ← Ts_xor]
      rw [xor_four]
theorem G_zeros (n r : Nat) : G r (List.replicate n 0) = Ts (8 * n) r := by
  induction n generalizing r with
  | zero => rfl
  | succ n ih =>
    rw [List.replicate_succ, G_cons, ih, Nat.xor_zero, show 8 * (n + 1) = 8 + 8 * n by omega, Ts_add]
/-- Up to four bytes, the lowest one first, as one number. -/
def num4 : List Nat → Nat
  | [] => 0
  | c :: l => c + 256 * num4 l
theorem num4_lt (l : List Nat) (h : ∀ c ∈ l, c < 256) : num4 l < 256 ^ l.length := by
  induction l with
  | nil => simp [num4]
  | cons c l ih =>
    have h1 := h c List.mem_cons_self
    have h2 := ih (fun x hx => h x (List.mem_cons_of_mem _ hx))
    simp only [num4, List.length_cons, Nat.pow_succ]
    omega
theorem num4_zero (l : List Nat) (h : num4 l = 0) : ∀ c ∈ l, c = 0 := by
  induction l with
  | nil => simp
  | cons c l ih =>
    simp only [num4] at h
    intro x hx
    rcases List.mem_cons.1 hx with rfl | hx
    · omega
    · exact ih (by omega) x hx
theorem G_num (l : List Nat) (h : ∀ c ∈ l, c < 256) : ∀ r, G r l = Ts (8 * l.length) (r ^^^ num4 l) := by
  induction l with
  | nil => intro r; simp [G, Ts, num4]
  | cons c l ih =>
    intro r
    have h1 := h c List.mem_cons_self
    rw [G_cons, ih (fun x hx => h x (List.mem_cons_of_mem _ hx)), List.length_cons, show 8 * (l.length + 1) = 8 + 8 * l.length by omega, Ts_add]
    congr 1
    have e : c + 256 * num4 l = c ^^^ (2 ^ 8 * num4 l) := by
      have := Nat.two_pow_add_eq_or_of_lt (i := 8) (b := c) (by simpa using h1) (num4 l)
      have hx : c ^^^ (2 ^ 8 * num4 l) = c ||| (2 ^ 8 * num4 l) := by
        apply Nat.eq_of_testBit_eq
        intro i
        simp only [Nat.testBit_xor, Nat.testBit_or]
        rcases Nat.lt_or_ge i 8 with hi | hi
        · rw [Nat.testBit_two_pow_mul]
          simp [Nat.not_le.2 hi]
        · rw [Nat.testBit_lt_two_pow (Nat.lt_of_lt_of_le (show c < 2 ^ 8 by simpa using h1) (Nat.pow_le_pow_right (by decide) hi))]
          simp
      rw [hx, Nat.or_comm, ← this]
      omega
    show Ts 8 (r ^^^ c) ^^^ num4 l = Ts 8 (r ^^^ num4 (c :: l))
    simp only [num4]
    rw [e, ← Nat.xor_assoc, Ts_xor 8 (r ^^^ c), Ts_shift]
/-- A change within four bytes next to each other is seen. -/
theorem G_burst (n : Nat) (m : List Nat) (k : Nat) (hm : ∀ c ∈ m, c < 256) (hl : m.length ≤ 4) (h : G 0 (List.replicate n 0 ++ m ++ List.replicate k 0) = 0) : ∀ c ∈ m, c = 0 := by
  rw [G_append, G_append, G_zeros, G_zeros, Ts_zero] at h
  have hp : 256 ^ m.length ≤ 2 ^ 32 := by
    rw [show (2 : Nat) ^ 32 = 256 ^ 4 by decide]
    exact Nat.pow_le_pow_right (by decide) hl
  have h1 := Ts_inj _ _ (G_lt m 0 (by decide) hm) h
  rw [G_num m hm, Nat.zero_xor] at h1
  exact num4_zero m (Ts_inj _ _ (Nat.lt_of_lt_of_le (num4_lt m hm) hp) h1)
end Go.Proofs.Ytpoladincbkgiaa.Crc
