/- A region whose order is drawn: each order comes to what the text's order comes to. Plain facts. No conditions. -/
import Derived.Test.YtjgmlkogppibfaaEvFoot3
namespace Go.Proofs.Ytjgmlkogppibfaa.Ev
open Go
set_option linter.unusedVariables false
set_option linter.unusedSimpArgs false

/-- The slots after those operations of D, in the text's order. -/
def envN (f : Nat → Option Nat × Out) (D : Nat → Bool) (e : Env) : Nat → Env
  | 0 => e
  | n + 1 => match D n with
    | true => putF (envN f D e n) (f n).1 (f n).2.v
    | false => envN f D e n
def heapN (f : Nat → Option Nat × Out) (D : Nat → Bool) (H : Hp) : Nat → Hp
  | 0 => H
  | n + 1 => match D n with
    | true => upd (heapN f D H n) (f n).2.ups
    | false => heapN f D H n
def stN (f : Nat → Option Nat × Out) (s : St) : Nat → St
  | 0 => s
  | n + 1 => (stN f s n).next (f n).1 (some (f n).2.v) (f n).2.ups
theorem stN_shift (f : Nat → Option Nat × Out) (s : St) : ∀ n, stN f s (n + 1) = stN (fun i => f (i + 1)) (s.next (f 0).1 (some (f 0).2.v) (f 0).2.ups) n
  | 0 => rfl
  | n + 1 => by
    show (stN f s (n + 1)).next _ _ _ = (stN (fun i => f (i + 1)) _ n).next _ _ _
    rw [stN_shift f s n]
section
variable {f : Nat → Option Nat × Out} {D D' : Nat → Bool} {e : Env} {H : Hp} {s : St}
theorem stN_env (hD : ∀ i, D i = true) : ∀ n, look (stN f s n).env = envN f D (look s.env) n
  | 0 => rfl
  | n + 1 => by
    unfold stN envN
    rw [hD n]
    simp only
    rw [← stN_env hD n]
    exact look_putE _ _ _
theorem stN_heap (hD : ∀ i, D i = true) : ∀ n, look (stN f s n).heap = heapN f D (look s.heap) n
  | 0 => rfl
  | n + 1 => by
    unfold stN heapN
    rw [hD n]
    simp only
    rw [← stN_heap hD n]
    exact look_upd _ _
theorem stN_fresh (h : s.fresh) : ∀ n, (stN f s n).fresh
  | 0 => h
  | n + 1 => St.fresh_next (stN_fresh h n) _ _ _
theorem putF_ne {e : Env} {d : Option Nat} {v : AV} {t : Nat} (h : d ≠ some t) : putF e d v t = e t := by
  cases d with
  | none => rfl
  | some d =>
    have : d ≠ t := fun he => h (by rw [he])
    simp [putF, this]
theorem upd_ne {H : Hp} {ups : List (Nat × Ob)} {h : Nat} (hn : h ∉ ids ups) : upd H ups h = H h := by
  unfold upd
  cases hl : look ups h with
  | none => rfl
  | some o => exact absurd (mem_ids.2 ⟨o, look_mem hl⟩) hn
theorem envN_foot {t : Nat} : ∀ n, (∀ i, i < n → D i ≠ D' i → (f i).1 ≠ some t) → envN f D e n t = envN f D' e n t
  | 0, _ => rfl
  | n + 1, h => by
    have ih := envN_foot n fun i hi => h i (Nat.lt_succ_of_lt hi)
    unfold envN
    by_cases hd : D n = D' n
    · rw [hd]
      cases D' n with
      | false => exact ih
      | true =>
        simp only
        by_cases ht : (f n).1 = some t
        · simp [putF, ht]
        · rw [putF_ne ht, putF_ne ht, ih]
    · have hne := h n (Nat.lt_succ_self n) hd
      cases h1 : D n <;> cases h2 : D' n <;> simp only
      · exact ih
      · rw [putF_ne hne, ih]
      · rw [putF_ne hne, ih]
      · rw [h1, h2] at hd; exact absurd rfl hd
theorem heapN_foot {h : Nat} : ∀ n, (∀ i, i < n → D i ≠ D' i → h ∉ ids (f i).2.ups) → heapN f D H n h = heapN f D' H n h
  | 0, _ => rfl
  | n + 1, hh => by
    have ih := heapN_foot n fun i hi => hh i (Nat.lt_succ_of_lt hi)
    unfold heapN
    by_cases hd : D n = D' n
    · rw [hd]
      cases D' n with
      | false => exact ih
      | true =>
        simp only
        unfold upd
        cases look (f n).2.ups h with
        | none => exact ih
        | some o => rfl
    · have hne := hh n (Nat.lt_succ_self n) hd
      cases h1 : D n <;> cases h2 : D' n <;> simp only
      · exact ih
      · rw [upd_ne hne, ih]
      · rw [upd_ne hne, ih]
      · rw [h1, h2] at hd; exact absurd rfl hd
theorem putF_comm (e : Env) {a b : Option Nat} (u v : AV) (h : ∀ d, a = some d → b ≠ some d) : putF (putF e a u) b v = putF (putF e b v) a u := by
  funext t
  by_cases ha : a = some t
  · have hb := h t ha
    rw [putF_ne hb]
    subst ha
    simp [putF]
  · rw [putF_ne (e := putF e b v) ha]
    by_cases hb : b = some t
    · subst hb; simp [putF]
    · rw [putF_ne hb, putF_ne hb, putF_ne ha]
theorem upd_comm (H : Hp) {a b : List (Nat × Ob)} (h : ∀ i ∈ ids a, i ∉ ids b) : upd (upd H a) b = upd (upd H b) a := by
  funext i
  by_cases ha : i ∈ ids a
  · rw [upd_ne (h i ha)]
    unfold upd
    obtain ⟨o, ho⟩ := mem_ids.1 ha
    cases hl : look a i with
    | some o => rfl
    | none =>
      exfalso
      have key : ∀ (l : List (Nat × Ob)), look l i = none → i ∉ ids l := by
        intro l
        induction l with
        | nil => intro _ h; cases h
        | cons x r ih =>
          obtain ⟨j, q⟩ := x
          intro h1 h2
          rcases List.mem_cons.1 h2 with rfl | h3
          · rw [look_cons_same] at h1; cases h1
          · by_cases hj : j = i
            · subst hj; rw [look_cons_same] at h1; cases h1
            · rw [look_cons_ne _ _ hj] at h1; exact ih h1 h3
      exact key a hl ha
  · rw [upd_ne (H := upd H b) ha]
    unfold upd
    cases look b i with
    | some o => rfl
    | none =>
      cases hl : look a i with
      | none => rfl
      | some o => exact absurd (mem_ids.2 ⟨o, look_mem hl⟩) ha
theorem envN_congr {n : Nat} (h : ∀ i, i < n → D i = D' i) : envN f D e n = envN f D' e n := by
  funext t
  exact envN_foot n fun i hi hd => absurd (h i hi) hd
theorem heapN_congr {n : Nat} (h : ∀ i, i < n → D i = D' i) : heapN f D H n = heapN f D' H n := by
  funext t
  exact heapN_foot n fun i hi hd => absurd (h i hi) hd
theorem envN_add {j : Nat} (hD : D j = false) (hD' : ∀ i, D' i = (D i || Nat.beq i j)) : ∀ n, j < n → (∀ i, j < i → i < n → D i = true → ∀ d, (f j).1 = some d → (f i).1 ≠ some d) →
    envN f D' e n = putF (envN f D e n) (f j).1 (f j).2.v
  | 0, hj, _ => by omega
  | n + 1, hj, h => by
    unfold envN
    by_cases hjn : j = n
    · subst hjn
      rw [hD', hD]
      simp only [Nat.beq_refl, Bool.or_true, Bool.false_or]
      rw [envN_congr fun i hi => ?_]
      rw [hD']
      have : Nat.beq i j = false := by
        cases hb : Nat.beq i j with
        | false => rfl
        | true => have := Nat.eq_of_beq_eq_true hb; omega
      rw [this, Bool.or_false]
    · have hb : Nat.beq n j = false := by
        cases hb : Nat.beq n j with
        | false => rfl
        | true => exact absurd (Nat.eq_of_beq_eq_true hb).symm hjn
      have ih := envN_add hD hD' n (by omega) fun i h1 h2 => h i h1 (by omega)
      rw [hD', hb, Bool.or_false]
      cases hn : D n with
      | false => exact ih
      | true =>
        simp only
        rw [ih]
        exact putF_comm _ _ _ (h n (by omega) (by omega) hn)
theorem heapN_add {j : Nat} (hD : D j = false) (hD' : ∀ i, D' i = (D i || Nat.beq i j)) : ∀ n, j < n → (∀ i, j < i → i < n → D i = true → ∀ h ∈ ids (f j).2.ups, h ∉ ids (f i).2.ups) →
    heapN f D' H n = upd (heapN f D H n) (f j).2.ups
  | 0, hj, _ => by omega
  | n + 1, hj, h => by
    unfold heapN
    by_cases hjn : j = n
    · subst hjn
      rw [hD', hD]
      simp only [Nat.beq_refl, Bool.or_true, Bool.false_or]
      rw [heapN_congr fun i hi => ?_]
      rw [hD']
      have : Nat.beq i j = false := by
        cases hb : Nat.beq i j with
        | false => rfl
        | true => have := Nat.eq_of_beq_eq_true hb; omega
      rw [this, Bool.or_false]
    · have hb : Nat.beq n j = false := by
        cases hb : Nat.beq n j with
        | false => rfl
        | true => exact absurd (Nat.eq_of_beq_eq_true hb).symm hjn
      have ih := heapN_add hD hD' n (by omega) fun i h1 h2 => h i h1 (by omega)
      rw [hD', hb, Bool.or_false]
      cases hn : D n with
      | false => exact ih
      | true =>
        simp only
        rw [ih]
        exact upd_comm _ (h n (by omega) (by omega) hn)
/-- The first j of them. -/
def upTo (j i : Nat) : Bool := Nat.blt i j
theorem upTo_true {j i : Nat} : upTo j i = true ↔ i < j := by
  unfold upTo
  constructor
  · intro h; exact Nat.le_of_ble_eq_true h
  · intro h; exact Nat.ble_eq_true_of_le h
theorem upTo_false {j i : Nat} (h : j ≤ i) : upTo j i = false := by
  cases hb : upTo j i with
  | false => rfl
  | true => have := upTo_true.1 hb; omega
theorem envN_upTo {j : Nat} : ∀ n, j ≤ n → envN f (upTo j) e n = envN f (fun _ => true) e j
  | 0, h => by
    obtain rfl : j = 0 := by omega
    rfl
  | n + 1, h => by
    by_cases hj : j = n + 1
    · subst hj
      exact envN_congr fun i hi => upTo_true.2 hi
    · show (match upTo j n with | true => _ | false => _) = _
      rw [upTo_false (by omega)]
      exact envN_upTo n (by omega)
theorem heapN_upTo {j : Nat} : ∀ n, j ≤ n → heapN f (upTo j) H n = heapN f (fun _ => true) H j
  | 0, h => by
    obtain rfl : j = 0 := by omega
    rfl
  | n + 1, h => by
    by_cases hj : j = n + 1
    · subst hj
      exact heapN_congr fun i hi => upTo_true.2 hi
    · show (match upTo j n with | true => _ | false => _) = _
      rw [upTo_false (by omega)]
      exact heapN_upTo n (by omega)
end

/-- How many are not done. -/
def cnt (D : Nat → Bool) : Nat → Nat
  | 0 => 0
  | n + 1 => cnt D n + match D n with
    | true => 0
    | false => 1
theorem cnt_zero {D : Nat → Bool} : ∀ {n : Nat}, cnt D n = 0 → ∀ i, i < n → D i = true
  | 0, _, i, h => by omega
  | n + 1, hc, i, h => by
    unfold cnt at hc
    by_cases hi : i = n
    · subst hi
      cases hd : D i with
      | true => rfl
      | false => rw [hd] at hc; simp only at hc; omega
    · exact cnt_zero (by omega : cnt D n = 0) i (by omega)
theorem cnt_all {D : Nat → Bool} : ∀ {n : Nat}, (∀ i, i < n → D i = true) → cnt D n = 0
  | 0, _ => rfl
  | n + 1, h => by
    unfold cnt
    rw [h n (by omega), cnt_all fun i hi => h i (by omega)]
    rfl
theorem cnt_congr {D D' : Nat → Bool} : ∀ {n : Nat}, (∀ i, i < n → D i = D' i) → cnt D n = cnt D' n
  | 0, _ => rfl
  | n + 1, h => by
    unfold cnt
    rw [h n (by omega), cnt_congr fun i hi => h i (by omega)]
theorem cnt_add {D D' : Nat → Bool} {j : Nat} (hD : D j = false) (hD' : ∀ i, D' i = (D i || Nat.beq i j)) : ∀ {n : Nat}, j < n → cnt D n = cnt D' n + 1
  | 0, h => by omega
  | n + 1, h => by
    unfold cnt
    by_cases hj : j = n
    · subst hj
      rw [hD', hD]
      simp only [Nat.beq_refl, Bool.or_true, Bool.false_or]
      rw [cnt_congr (D' := D') fun i hi => ?_]
      rw [hD']
      have : Nat.beq i j = false := by
        cases hb : Nat.beq i j with
        | false => rfl
        | true => have := Nat.eq_of_beq_eq_true hb; omega
      rw [this, Bool.or_false]
    · have hb : Nat.beq n j = false := by
        cases hb : Nat.beq n j with
        | false => rfl
        | true => exact absurd (Nat.eq_of_beq_eq_true hb).symm hj
      rw [hD', hb, Bool.or_false, cnt_add hD hD' (by omega : j < n)]
      omega
theorem cnt_least {D : Nat → Bool} : ∀ {n : Nat}, cnt D n ≠ 0 → ∃ j, j < n ∧ D j = false ∧ ∀ i, i < j → D i = true
  | 0, h => absurd rfl h
  | n + 1, h => by
    by_cases hc : cnt D n = 0
    · refine ⟨n, by omega, ?_, cnt_zero hc⟩
      unfold cnt at h
      cases hd : D n with
      | false => rfl
      | true => rw [hd, hc] at h; exact absurd rfl h
    · obtain ⟨j, h1, h2, h3⟩ := cnt_least hc
      exact ⟨j, by omega, h2, h3⟩
end Go.Proofs.Ytjgmlkogppibfaa.Ev
