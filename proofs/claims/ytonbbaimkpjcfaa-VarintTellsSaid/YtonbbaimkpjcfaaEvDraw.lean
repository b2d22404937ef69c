/- A region whose order is drawn: each order comes to what the text's order comes to. Plain facts. No conditions. -/
import Derived.Test.YtonbbaimkpjcfaaEvEmb
import Derived.Scope
/-! ## A region whose order is drawn: each order comes to what the text's order comes to. Plain facts. No conditions. -/
namespace Go.Proofs.Ytonbbaimkpjcfaa.Ev
open Go
set_option linter.unusedVariables false
set_option linter.unusedSimpArgs false

/-- The slots after those operations of D, in the text's order. -/
def envN (f : Nat → Option Nat × Out) (D : Nat → Bool) (e : Env) : Nat → Env
  | 0 => e
  | n + 1 => match D n with
    | true => putF (envN f D e n) (f n).1 (f n).2.v
    | false => envN f D e n
def heapN (f : Nat → Option Nat × Out) (D : Nat → Bool) (H : Hp) : Nat → Hp
  | 0 => H
  | n + 1 => match D n with
    | true => upd (heapN f D H n) (f n).2.ups
    | false => heapN f D H n
def stN (f : Nat → Option Nat × Out) (s : St) : Nat → St
  | 0 => s
  | n + 1 => (stN f s n).next (f n).1 (some (f n).2.v) (f n).2.ups
theorem stN_shift (f : Nat → Option Nat × Out) (s : St) : ∀ n, stN f s (n + 1) = stN (fun i => f (i + 1)) (s.next (f 0).1 (some (f 0).2.v) (f 0).2.ups) n
  | 0 => rfl
  | n + 1 => by
    show (stN f s (n + 1)).next _ _ _ = (stN (fun i => f (i + 1)) _ n).next _ _ _
    rw [stN_shift f s n]
section
variable {f : Nat → Option Nat × Out} {D D' : Nat → Bool} {e : Env} {H : Hp} {s : St}
theorem stN_env (hD : ∀ i, D i = true) : ∀ n, look (stN f s n).env = envN f D (look s.env) n
  | 0 => rfl
  | n + 1 => by
    unfold stN envN
    rw [hD n]
    simp only
    rw [← stN_env hD n]
    exact look_putE _ _ _
theorem stN_heap (hD : ∀ i, D i = true) : ∀ n, look (stN f s n).heap = heapN f D (look s.heap) n
  | 0 => rfl
  | n + 1 => by
    unfold stN heapN
    rw [hD n]
    simp only
    rw [← stN_heap hD n]
    exact look_upd _ _
theorem stN_fresh (h : s.fresh) : ∀ n, (stN f s n).fresh
  | 0 => h
  | n + 1 => St.fresh_next (stN_fresh h n) _ _ _
theorem putF_ne {e : Env} {d : Option Nat} {v : AV} {t : Nat} (h : d ≠ some t) : putF e d v t = e t := by
  cases d with
  | none => rfl
  | some d =>
    have : d ≠ t := fun he => h (by rw [he])
    simp [putF, this]
theorem upd_ne {H : Hp} {ups : List (Nat × Ob)} {h : Nat} (hn : h ∉ ids ups) : upd H ups h = H h := by
  unfold upd
  cases hl : look ups h with
  | none => rfl
  | some o => exact absurd (mem_ids.2 ⟨o, look_mem hl⟩) hn
theorem envN_foot {t : Nat} : ∀ n, (∀ i, i < n → D i ≠ D' i → (f i).1 ≠ some t) → envN f D e n t = envN f D' e n t
  | 0, _ => rfl
  | n + 1, h => by
    have ih := envN_foot n fun i hi => h i (Nat.lt_succ_of_lt hi)
    unfold envN
    by_cases hd : D n = D' n
    · rw [hd]
      cases D' n with
      | false => exact ih
      | true =>
        simp only
        by_cases ht : (f n).1 = some t
        · simp [putF, ht]
        · rw [putF_ne ht, putF_ne ht, ih]
    · have hne := h n (Nat.lt_succ_self n) hd
      cases h1 : D n <;> cases h2 : D' n <;> simp only
      · exact ih
      · rw [putF_ne hne, ih]
      · rw [putF_ne hne, ih]
      · rw [h1, h2] at hd; exact absurd rfl hd
theorem heapN_foot {h : Nat} : ∀ n, (∀ i, i < n → D i ≠ D' i → h ∉ ids (f i).2.ups) → heapN f D H n h = heapN f D' H n h
  | 0, _ => rfl
  | n + 1, hh => by
    have ih := heapN_foot n fun i hi => hh i (Nat.lt_succ_of_lt hi)
    unfold heapN
    by_cases hd : D n = D' n
    · rw [hd]
      cases D' n with
      | false => exact ih
      | true =>
        simp only
        unfold upd
        cases look (f n).2.ups h with
        | none => exact ih
        | some o => rfl
    · have hne := hh n (Nat.lt_succ_self n) hd
      cases h1 : D n <;> cases h2 : D' n <;> simp only
      · exact ih
      · rw [upd_ne hne, ih]
      · rw [upd_ne hne, ih]
      · rw [h1, h2] at hd; exact absurd rfl hd
theorem putF_comm (e : Env) {a b : Option Nat} (u v : AV) (h : ∀ d, a = some d → b ≠ some d) : putF (putF e a u) b v = putF (putF e b v) a u := by
  funext t
  by_cases ha : a = some t
  · have hb := h t ha
    rw [putF_ne hb]
    subst ha
    simp [putF]
  · rw [putF_ne (e := putF e b v) ha]
    by_cases hb : b = some t
    · subst hb; simp [putF]
    · rw [putF_ne hb, putF_ne hb, putF_ne ha]
theorem upd_comm (H : Hp) {a b : List (Nat × Ob)} (h : ∀ i ∈ ids a, i ∉ ids b) : upd (upd H a) b = upd (upd H b) a := by
  funext i
  by_cases ha : i ∈ ids a
  · rw [upd_ne (h i ha)]
    unfold upd
    obtain ⟨o, ho⟩ := mem_ids.1 ha
    cases hl : look a i with
    | some o => rfl
    | none =>
      exfalso
      have key : ∀ (l : List (Nat × Ob)), look l i = none → i ∉ ids l := by
        intro l
        induction l with
        | nil => intro _ h; cases h
        | cons x r ih =>
          obtain ⟨j, q⟩ := x
          intro h1 h2
          rcases List.mem_cons.1 h2 with rfl | h3
          · rw [look_cons_same] at h1; cases h1
          · by_cases hj : j = i
            · subst hj; rw [look_cons_same] at h1; cases h1
            · rw [look_cons_ne _ _ hj] at h1; exact ih h1 h3
      exact key a hl ha
  · rw [upd_ne (H := upd H b) ha]
    unfold upd
    cases look b i with
    | some o => rfl
    | none =>
      cases hl : look a i with
      | none => rfl
      | some o => exact absurd (mem_ids.2 ⟨o, look_mem hl⟩) ha
theorem envN_congr {n : Nat} (h : ∀ i, i < n → D i = D' i) : envN f D e n = envN f D' e n := by
  funext t
  exact envN_foot n fun i hi hd => absurd (h i hi) hd
theorem heapN_congr {n : Nat} (h : ∀ i, i < n → D i = D' i) : heapN f D H n = heapN f D' H n := by
  funext t
  exact heapN_foot n fun i hi hd => absurd (h i hi) hd
theorem envN_add {j : Nat} (hD : D j = false) (hD' : ∀ i, D' i = (D i || Nat.beq i j)) : ∀ n, j < n → (∀ i, j < i → i < n → D i = true → ∀ d, (f j).1 = some d → (f i).1 ≠ some d) →
    envN f D' e n = putF (envN f D e n) (f j).1 (f j).2.v
  | 0, hj, _ => by omega
  | n + 1, hj, h => by
    unfold envN
    by_cases hjn : j = n
    · subst hjn
      rw [hD', hD]
      simp only [Nat.beq_refl, Bool.or_true, Bool.false_or]
      rw [envN_congr fun i hi => ?_]
      rw [hD']
      have : Nat.beq i j = false := by
        cases hb : Nat.beq i j with
        | false => rfl
        | true => have := Nat.eq_of_beq_eq_true hb; omega
      rw [this, Bool.or_false]
    · have hb : Nat.beq n j = false := by
        cases hb : Nat.beq n j with
        | false => rfl
        | true => exact absurd (Nat.eq_of_beq_eq_true hb).symm hjn
      have ih := envN_add hD hD' n (by omega) fun i h1 h2 => h i h1 (by omega)
      rw [hD', hb, Bool.or_false]
      cases hn : D n with
      | false => exact ih
      | true =>
        simp only
        rw [ih]
        exact putF_comm _ _ _ (h n (by omega) (by omega) hn)
theorem heapN_add {j : Nat} (hD : D j = false) (hD' : ∀ i, D' i = (D i || Nat.beq i j)) : ∀ n, j < n → (∀ i, j < i → i < n → D i = true → ∀ h ∈ ids (f j).2.ups, h ∉ ids (f i).2.ups) →
    heapN f D' H n = upd (heapN f D H n) (f j).2.ups
  | 0, hj, _ => by omega
  | n + 1, hj, h => by
    unfold heapN
    by_cases hjn : j = n
    · subst hjn
      rw [hD', hD]
      simp only [Nat.beq_refl, Bool.or_true, Bool.false_or]
      rw [heapN_congr fun i hi => ?_]
      rw [hD']
      have : Nat.beq i j = false := by
        cases hb : Nat.beq i j with
        | false => rfl
        | true => have := Nat.eq_of_beq_eq_true hb; omega
      rw [this, Bool.or_false]
    · have hb : Nat.beq n j = false := by
        cases hb : Nat.beq n j with
        | false => rfl
        | true => exact absurd (Nat.eq_of_beq_eq_true hb).symm hjn
      have ih := heapN_add hD hD' n (by omega) fun i h1 h2 => h i h1 (by omega)
      rw [hD', hb, Bool.or_false]
      cases hn : D n with
      | false => exact ih
      | true =>
        simp only
        rw [ih]
        exact upd_comm _ (h n (by omega) (by omega) hn)
/-- The first j of them. -/
def upTo (j i : Nat) : Bool := Nat.blt i j
theorem upTo_true {j i : Nat} : upTo j i = true ↔ i < j := by
  unfold upTo
  constructor
  · intro h; exact Nat.le_of_ble_eq_true h
  · intro h; exact Nat.ble_eq_true_of_le h
theorem upTo_false {j i : Nat} (h : j ≤ i) : upTo j i = false := by
  cases hb : upTo j i with
  | false => rfl
  | true => have := upTo_true.1 hb; omega
theorem envN_upTo {j : Nat} : ∀ n, j ≤ n → envN f (upTo j) e n = envN f (fun _ => true) e j
  | 0, h => by
    obtain rfl : j = 0 := by omega
    rfl
  | n + 1, h => by
    by_cases hj : j = n + 1
    · subst hj
      exact envN_congr fun i hi => upTo_true.2 hi
    · show (match upTo j n with | true => _ | false => _) = _
      rw [upTo_false (by omega)]
      exact envN_upTo n (by omega)
theorem heapN_upTo {j : Nat} : ∀ n, j ≤ n → heapN f (upTo j) H n = heapN f (fun _ => true) H j
  | 0, h => by
    obtain rfl : j = 0 := by omega
    rfl
  | n + 1, h => by
    by_cases hj : j = n + 1
    · subst hj
      exact heapN_congr fun i hi => upTo_true.2 hi
    · show (match upTo j n with | true => _ | false => _) = _
      rw [upTo_false (by omega)]
      exact heapN_upTo n (by omega)
end

/-- How many are not done. -/
def cnt (D : Nat → Bool) : Nat → Nat
  | 0 => 0
  | n + 1 => cnt D n + match D n with
    | true => 0
    | false => 1
theorem cnt_zero {D : Nat → Bool} : ∀ {n : Nat}, cnt D n = 0 → ∀ i, i < n → D i = true
  | 0, _, i, h => by omega
  | n + 1, hc, i, h => by
    unfold cnt at hc
    by_cases hi : i = n
    · subst hi
      cases hd : D i with
      | true => rfl
      | false => rw [hd] at hc; simp only at hc; omega
    · exact cnt_zero (by omega : cnt D n = 0) i (by omega)
theorem cnt_all {D : Nat → Bool} : ∀ {n : Nat}, (∀ i, i < n → D i = true) → cnt D n = 0
  | 0, _ => rfl
  | n + 1, h => by
    unfold cnt
    rw [h n (by omega), cnt_all fun i hi => h i (by omega)]
    rfl
theorem cnt_congr {D D' : Nat → Bool} : ∀ {n : Nat}, (∀ i, i < n → D i = D' i) → cnt D n = cnt D' n
  | 0, _ => rfl
  | n + 1, h => by
    unfold cnt
    rw [h n (by omega), cnt_congr fun i hi => h i (by omega)]
theorem cnt_add {D D' : Nat → Bool} {j : Nat} (hD : D j = false) (hD' : ∀ i, D' i = (D i || Nat.beq i j)) : ∀ {n : Nat}, j < n → cnt D n = cnt D' n + 1
  | 0, h => by omega
  | n + 1, h => by
    unfold cnt
    by_cases hj : j = n
    · subst hj
      rw [hD', hD]
      simp only [Nat.beq_refl, Bool.or_true, Bool.false_or]
      rw [cnt_congr (D' := D') fun i hi => ?_]
      rw [hD']
      have : Nat.beq i j = false := by
        cases hb : Nat.beq i j with
        | false => rfl
        | true => have := Nat.eq_of_beq_eq_true hb; omega
      rw [this, Bool.or_false]
    · have hb : Nat.beq n j = false := by
        cases hb : Nat.beq n j with
        | false => rfl
        | true => exact absurd (Nat.eq_of_beq_eq_true hb).symm hj
      rw [hD', hb, Bool.or_false, cnt_add hD hD' (by omega : j < n)]
      omega
theorem cnt_least {D : Nat → Bool} : ∀ {n : Nat}, cnt D n ≠ 0 → ∃ j, j < n ∧ D j = false ∧ ∀ i, i < j → D i = true
  | 0, h => absurd rfl h
  | n + 1, h => by
    by_cases hc : cnt D n = 0
    · refine ⟨n, by omega, ?_, cnt_zero hc⟩
      unfold cnt at h
      cases hd : D n with
      | false => rfl
      | true => rw [hd, hc] at h; exact absurd rfl h
    · obtain ⟨j, h1, h2, h3⟩ := cnt_least hc
      exact ⟨j, by omega, h2, h3⟩
end Go.Proofs.Ytonbbaimkpjcfaa.Ev
/-! ## A region whose order is drawn: each order comes to what the text's order comes to. No conditions. -/
namespace Go.Proofs.Ytonbbaimkpjcfaa.Ev
open Go
set_option linter.unusedVariables false
set_option linter.unusedSimpArgs false

theorem getD_get {α : Type} [Inhabited α] {l : List α} {i : Nat} (h : i < l.length) : l[i]? = some (l.getD i default) := by
  simp [List.getD_eq_getElem?_getD, h]
theorem testBit_edgeBits : ∀ {es : List Edge} {B : List Nat} {i : Nat}, Nat.testBit (edgeBits es B) i = true → ∃ e ∈ es, Region.binds .any e = true ∧ (i = e.on ∨ Nat.testBit (B.getD e.on 0) i = true)
  | [], B, i, h => by simp [edgeBits] at h
  | e :: r, B, i, h => by
    unfold edgeBits at h
    cases hb : Region.binds .any e with
    | false =>
      rw [hb] at h
      obtain ⟨e', h1, h2⟩ := testBit_edgeBits h
      exact ⟨e', by simp [h1], h2⟩
    | true =>
      rw [hb] at h
      simp only at h
      have h : Nat.testBit ((1 <<< e.on ||| B.getD e.on 0) ||| edgeBits r B) i = true := h
      rw [Nat.testBit_or, Nat.testBit_or, Bool.or_eq_true, Bool.or_eq_true] at h
      rcases h with (h | h) | h
      · refine ⟨e, by simp, hb, .inl ?_⟩
        rw [Nat.testBit_shiftLeft] at h
        simp only [Bool.and_eq_true, decide_eq_true_eq] at h
        have h2 := h.2
        have : i - e.on = 0 := by
          by_cases hz : i - e.on = 0
          · exact hz
          · rw [show (1 : Nat) = 2 ^ 0 from rfl, Nat.testBit_two_pow] at h2
            simp at h2
            omega
        omega
      · exact ⟨e, by simp, hb, .inr h⟩
      · obtain ⟨e', h1, h2⟩ := testBit_edgeBits h
        exact ⟨e', by simp [h1], h2⟩
theorem bitsOf_spec : ∀ (l : List Oper) (B : List Nat), (∀ i, i < B.length → (bitsOf l B)[i]? = B[i]?) ∧ ∀ j o, l[j]? = some o → (bitsOf l B)[B.length + j]? = some (edgeBits o.after.toList ((bitsOf l B).take (B.length + j)))
  | [], B => ⟨fun i _ => rfl, fun j o h => by simp at h⟩
  | o :: r, B => by
    obtain ⟨h1, h2⟩ := bitsOf_spec r (B ++ [edgeBits o.after.toList B])
    have hB : ∀ i, i < B.length → (bitsOf (o :: r) B)[i]? = B[i]? := by
      intro i hi
      show (bitsOf r (B ++ [edgeBits o.after.toList B]))[i]? = B[i]?
      rw [h1 i (by simp; omega), List.getElem?_append_left hi]
    refine ⟨hB, fun j p hj => ?_⟩
    cases j with
    | zero =>
      obtain rfl : o = p := by simpa using hj
      have ht : (bitsOf (o :: r) B).take B.length = B := by
        apply List.ext_getElem?
        intro i
        by_cases hi : i < B.length
        · rw [List.getElem?_take_of_lt hi, hB i hi]
        · rw [List.getElem?_eq_none (by simp; omega), List.getElem?_eq_none (by omega)]
      rw [Nat.add_zero, ht]
      show (bitsOf r (B ++ [edgeBits o.after.toList B]))[B.length]? = _
      rw [h1 B.length (by simp), List.getElem?_append_right (Nat.le_refl _)]
      simp
    | succ j =>
      have := h2 j p (by simpa using hj)
      rw [List.length_append, List.length_singleton] at this
      rw [show B.length + (j + 1) = B.length + 1 + j by omega]
      exact this
theorem testBit_bits {l : List Oper} {j i : Nat} {o : Oper} (ho : l[j]? = some o) (h : Nat.testBit ((bitsOf l []).getD j 0) i = true) :
    ∃ e ∈ o.after.toList, Region.binds .any e = true ∧ (i = e.on ∨ Nat.testBit ((bitsOf l []).getD e.on 0) i = true) := by
  have := (bitsOf_spec l []).2 j o ho
  rw [show ([] : List Nat).length + j = j by simp] at this
  rw [List.getD_eq_getElem?_getD, this] at h
  obtain ⟨e, h1, h2, h3⟩ := testBit_edgeBits h
  refine ⟨e, h1, h2, h3.imp id fun h4 => ?_⟩
  rw [List.getD_eq_getElem?_getD] at h4 ⊢
  by_cases hlt : e.on < j
  · rw [List.getElem?_take_of_lt hlt] at h4
    exact h4
  · rw [List.getElem?_eq_none (by simp; omega)] at h4
    simp at h4
theorem edgesBelow_ok : ∀ {l : List Oper} {n : Nat}, edgesBelow l n = true → ∀ j o, l[j]? = some o → ∀ e ∈ o.after.toList, Region.binds .any e = true → e.on < n + j
  | [], n, _, j, o, h => by simp at h
  | p :: r, n, hb, j, o, h => by
    simp only [edgesBelow, Bool.and_eq_true, List.all_eq_true] at hb
    cases j with
    | zero =>
      obtain rfl : p = o := by simpa using h
      intro e he hbd
      have := hb.1 e he
      rw [hbd] at this
      simp only [Bool.not_true, Bool.false_or] at this
      exact Nat.le_of_ble_eq_true this
    | succ j =>
      intro e he hbd
      have := edgesBelow_ok hb.2 j o (by simpa using h) e he hbd
      omega
theorem trOk_ok {all : List Oper} {B : List Nat} {tr : Tr} (h : trOk all B tr = true) {i j : Nat} (hj : j < all.length) (hi : i < j) : Nat.testBit (B.getD j 0) i = true ∨
    ((all.getD i default).apart all.toArray (all.getD j default) = true ∧ (∀ k ∈ (tr.getD i default).2, k ∉ (tr.getD j default).1 ∧ k ∉ (tr.getD j default).2) ∧ ∀ k ∈ (tr.getD j default).2, k ∉ (tr.getD i default).1) := by
  unfold trOk at h
  rw [List.all_eq_true] at h
  have := h j (List.mem_range.2 hj)
  rw [List.all_eq_true] at this
  have := this i (List.mem_range.2 hi)
  rw [Bool.or_eq_true, Bool.and_eq_true, Bool.and_eq_true] at this
  rcases this with h1 | ⟨⟨h1, h2⟩, h3⟩
  · exact .inl h1
  · refine .inr ⟨h1, fun k hk => ?_, disj_iff.1 h3⟩
    have := disj_iff.1 h2 k hk
    rw [List.mem_append] at this
    exact ⟨fun h => this (.inl h), fun h => this (.inr h)⟩

/-- One operation done, in the text's order. -/
def Done (Γ : List (FuncId × Ctr)) (T : Tab) (k0 : Nat) (all : List Oper) (o : Oper) (e : Env) (H : Hp) (nx : Nat) (out : Out) : Prop :=
  ∃ g, guardOf all o e = some g ∧ ((gdRun g = true ∧ OutOk Γ T k0 o e H nx out ∧ ∀ c rd, evalOp Γ T k0 o e H nx ≠ .dem c rd) ∨ (gdRun g = false ∧ out = ⟨.tuple [], [], []⟩))
def opsF (l : List Oper) (outs : List Out) (i : Nat) : Option Nat × Out := ((l.getD i default).dst, outs.getD i default)
section
variable {x : Cx} {P : Program} {Γ : List (FuncId × Ctr)} {T : Tab}
theorem awOps_outs {all : List Oper} {K : St → Tr → Prop} : ∀ (l : List Oper) (s : St) (tr : Tr), awOps Γ T x.k0 all true l s tr K → ∃ outs : List Out,
    (∀ i, i < l.length → Done Γ T x.k0 all (l.getD i default) (look (stN (opsF l outs) s i).env) (look (stN (opsF l outs) s i).heap) (stN (opsF l outs) s i).nx (opsF l outs i).2) ∧
    ∃ T' : Tr, K (stN (opsF l outs) s l.length) (T'.reverse ++ tr) ∧ T'.length = l.length ∧ ∀ i, i < l.length → T'.getD i default = ((stN (opsF l outs) s i).nx :: (opsF l outs i).2.rd, ids (opsF l outs i).2.ups)
  | [], s, tr, h => ⟨[], fun i hi => by simp at hi, [], h, rfl, fun i hi => by simp at hi⟩
  | o :: r, s, tr, h => by
    have hcons : ∀ out : Out, Done Γ T x.k0 all o (look s.env) (look s.heap) s.nx out → awOps Γ T x.k0 all true r (s.next o.dst (some out.v) out.ups) ((s.nx :: out.rd, ids out.ups) :: tr) K → ∃ outs : List Out,
        (∀ i, i < (o :: r).length → Done Γ T x.k0 all ((o :: r).getD i default) (look (stN (opsF (o :: r) outs) s i).env) (look (stN (opsF (o :: r) outs) s i).heap) (stN (opsF (o :: r) outs) s i).nx (opsF (o :: r) outs i).2) ∧
        ∃ T' : Tr, K (stN (opsF (o :: r) outs) s (o :: r).length) (T'.reverse ++ tr) ∧ T'.length = (o :: r).length ∧ ∀ i, i < (o :: r).length → T'.getD i default = ((stN (opsF (o :: r) outs) s i).nx :: (opsF (o :: r) outs i).2.rd, ids (opsF (o :: r) outs i).2.ups) := by
      intro out hdone hrest
      obtain ⟨outs, h1, T', h2, h3, h4⟩ := awOps_outs r _ _ hrest
      have hsh : ∀ n, stN (opsF (o :: r) (out :: outs)) s (n + 1) = stN (opsF r outs) (s.next o.dst (some out.v) out.ups) n := by
        intro n
        rw [stN_shift]
        rfl
      refine ⟨out :: outs, fun i hi => ?_, (s.nx :: out.rd, ids out.ups) :: T', ?_, by simp [h3], fun i hi => ?_⟩
      · cases i with
        | zero => exact hdone
        | succ i =>
          rw [hsh i]
          exact h1 i (by simpa using hi)
      · rw [List.length_cons, hsh, List.reverse_cons, List.append_assoc]
        exact h2
      · cases i with
        | zero => rfl
        | succ i =>
          rw [hsh i]
          exact h4 i (by simpa using hi)
    have hrun : awOp Γ T x.k0 true o s tr (fun s tr => awOps Γ T x.k0 all true r s tr K) → (∃ g, guardOf all o (look s.env) = some g ∧ gdRun g = true) → ∃ out, Done Γ T x.k0 all o (look s.env) (look s.heap) s.nx out ∧ awOps Γ T x.k0 all true r (s.next o.dst (some out.v) out.ups) ((s.nx :: out.rd, ids out.ups) :: tr) K := by
      rintro ha ⟨g, hg, hg2⟩
      have := awOp_outs ha
      cases hs : evalOp Γ T x.k0 o (look s.env) (look s.heap) s.nx with
      | dem c rd => rw [hs] at this; exact absurd this.1 (by simp)
      | bad => rw [hs] at this; obtain ⟨out, h1, h2⟩ := this; exact ⟨out, ⟨g, hg, .inl ⟨hg2, h1, fun c rd h => by rw [hs] at h; cases h⟩⟩, h2⟩
      | ok cs v rd ups => rw [hs] at this; obtain ⟨out, h1, h2⟩ := this; exact ⟨out, ⟨g, hg, .inl ⟨hg2, h1, fun c rd h => by rw [hs] at h; cases h⟩⟩, h2⟩
      | call Ix r => rw [hs] at this; obtain ⟨out, h1, h2⟩ := this; exact ⟨out, ⟨g, hg, .inl ⟨hg2, h1, fun c rd h => by rw [hs] at h; cases h⟩⟩, h2⟩
    have hskip : awSkip true o s tr (fun s tr => awOps Γ T x.k0 all true r s tr K) → (∃ g, guardOf all o (look s.env) = some g ∧ gdRun g = false) → ∃ out, Done Γ T x.k0 all o (look s.env) (look s.heap) s.nx out ∧ awOps Γ T x.k0 all true r (s.next o.dst (some out.v) out.ups) ((s.nx :: out.rd, ids out.ups) :: tr) K := by
      rintro ha ⟨g, hg, hg2⟩
      exact ⟨⟨.tuple [], [], []⟩, ⟨g, hg, .inr ⟨hg2, rfl⟩⟩, awSkip_eq ha⟩
    have hout : ∃ out, Done Γ T x.k0 all o (look s.env) (look s.heap) s.nx out ∧ awOps Γ T x.k0 all true r (s.next o.dst (some out.v) out.ups) ((s.nx :: out.rd, ids out.ups) :: tr) K := by
      unfold awOps at h
      cases hg : guardOf all o (look s.env) with
      | none => rw [hg] at h; exact h.elim
      | some g =>
        rw [hg] at h
        cases g with
        | run => exact hrun h ⟨_, hg, rfl⟩
        | skip => exact hskip h ⟨_, hg, rfl⟩
        | ask b want =>
          cases want <;> cases b
          · exact hrun h ⟨_, hg, rfl⟩
          · exact hskip h ⟨_, hg, rfl⟩
          · exact hskip h ⟨_, hg, rfl⟩
          · exact hrun h ⟨_, hg, rfl⟩
    obtain ⟨out, h1, h2⟩ := hout
    exact hcons out h1 h2
end
end Go.Proofs.Ytonbbaimkpjcfaa.Ev
/-! ## A region whose order is drawn: the proof. No conditions. -/
namespace Go.Proofs.Ytonbbaimkpjcfaa.Ev
open Go
set_option linter.unusedVariables false
set_option linter.unusedSimpArgs false

theorem beq_ne {i j : Nat} (h : i ≠ j) : Nat.beq i j = false := by
  cases hb : Nat.beq i j with
  | false => rfl
  | true => exact absurd (Nat.eq_of_beq_eq_true hb) h
theorem ready_iff {ops : Array Oper} {listed : Array Bool} {i : Nat} : i ∈ Region.ready .any ops listed ↔ i < ops.size ∧ listed.getD i true = false ∧ ∃ o, ops[i]? = some o ∧ ∀ e ∈ o.after.toList, Region.binds .any e = true → listed.getD e.on false = true := by
  unfold Region.ready
  rw [List.mem_filter, List.mem_range]
  constructor
  · rintro ⟨h1, h2⟩
    rw [Bool.and_eq_true] at h2
    obtain ⟨h2, h3⟩ := h2
    refine ⟨h1, by simpa using h2, ops[i], by simp [h1], fun e he hb => ?_⟩
    simp only [Array.getElem?_eq_getElem h1, Option.map_some, Option.getD_some] at h3
    rw [← Array.all_toList, List.all_eq_true] at h3
    have := h3 e he
    rw [hb] at this
    simpa using this
  · rintro ⟨h1, h2, o, h3, h4⟩
    refine ⟨h1, ?_⟩
    rw [h2, h3]
    simp only [Bool.not_false, Option.map_some, Option.getD_some, Bool.true_and]
    rw [← Array.all_toList, List.all_eq_true]
    intro e he
    cases hb : Region.binds .any e with
    | false => rfl
    | true => simpa using h4 e he hb
theorem rep_false (k n : Nat) : (Array.replicate k false).getD n false = false := by
  rw [Array.getD_eq_getD_getElem?, Array.getElem?_replicate]
  split <;> rfl
theorem dstOk_mem {nt : Nat} {o : Oper} : ∀ {l : List Oper}, dstOk nt l = true → o ∈ l → ∀ t, o.dst = some t → t < nt
  | [], _, h => by cases h
  | p :: r, hb, h => by
    simp only [dstOk, Bool.and_eq_true] at hb
    rcases List.mem_cons.1 h with rfl | h
    · intro t ht
      have := hb.1
      rw [ht] at this
      exact Nat.le_of_ble_eq_true this
    · exact dstOk_mem hb.2 h
section
variable {x : Cx} {P : Program} {Γ : List (FuncId × Ctr)} {T : Tab} {a : Act} {w : World}
theorem draw_sound (hm : P.follows .mixedOrders = true) (hT : tabOk P T = true) (hΓ : GamOk P Γ) {id : Nat} {ops : Array Oper} (hds : dstOk x.nt ops.toList = true) {s : St} (hfr : s.fresh) (hr : Rel x (look s.env) (look s.heap) a w) {K : St → Tr → Prop}
    (h : awOps Γ T x.k0 ops.toList true ops.toList s [] K) {Q : Exit → Act → World → Prop} (hK : ∀ s' tr a' w', K s' tr → (drawOk ops.toList tr.reverse = true → s'.fresh → Rel x (look s'.env) (look s'.heap) a' w' → Q .normal a' w'))
    (hdr : ∀ s' tr, K s' tr → drawOk ops.toList tr.reverse = true) : (Code.region id ops true).wp P Q a w := by
  obtain ⟨outs, hdone, T', hKK, hTl, hTe⟩ := awOps_outs _ _ _ h
  have hdraw := hdr _ _ hKK
  have hK := fun a' w' => hK _ _ a' w' hKK hdraw (stN_fresh hfr _)
  rw [List.append_nil, List.reverse_reverse] at hdraw
  unfold drawOk at hdraw
  rw [Bool.and_eq_true, Bool.and_eq_true] at hdraw
  obtain ⟨⟨hbelow, _⟩, htr⟩ := hdraw
  generalize hl : ops.toList = l at *
  have hsize : ops.size = l.length := by rw [← hl]; simp
  have hget : ∀ i : Nat, ops[i]? = l[i]? := fun i => by rw [← hl, Array.getElem?_toList]
  generalize hf : opsF l outs = f at *
  have hf1 : ∀ i, (f i).1 = (l.getD i default).dst := fun i => by rw [← hf]; rfl
  let pred (i j : Nat) : Prop := Nat.testBit ((bitsOf l []).getD j 0) i = true
  -- two that no edge parts
  have hun : ∀ i j, i < j → j < l.length → ¬ pred i j →
      (∀ t, (f i).1 = some t → t ∉ (l.getD j default).looksAt ops) ∧ (∀ t, (f i).1 = some t → (f j).1 ≠ some t) ∧ (∀ t, (f j).1 = some t → t ∉ (l.getD i default).looksAt ops) ∧
      (∀ k ∈ ids (f i).2.ups, k ∉ (stN f s j).nx :: (f j).2.rd ∧ k ∉ ids (f j).2.ups) ∧ ∀ k ∈ ids (f j).2.ups, k ∉ (stN f s i).nx :: (f i).2.rd := by
    intro i j hij hj hp
    rcases trOk_ok htr hj hij with h1 | ⟨h1, h2, h3⟩
    · exact absurd h1 hp
    · rw [hTe i (by omega), hTe j hj] at h2
      rw [hTe i (by omega), hTe j hj] at h3
      obtain ⟨h4, h5, h6⟩ := Oper.apart_spec h1
      have hops : l.toArray = ops := by rw [← hl]
      rw [hops] at h4 h6
      rw [hf1, hf1]
      exact ⟨h4, h5, h6, h2, h3⟩
  have hlt : ∀ i, i < l.length → l[i]? = some (l.getD i default) := fun i hi => getD_get hi
  refine wp_region_any hm ?_
  have key : ∀ (fuel : Nat) (listed : Array Bool) (a : Act) (w : World), listed.size = l.length → cnt (fun i => listed.getD i false) l.length = fuel →
      (∀ j, j < l.length → listed.getD j false = true → ∀ i, pred i j → listed.getD i false = true) →
      Rel x (envN f (fun i => listed.getD i false) (look s.env) l.length) (heapN f (fun i => listed.getD i false) (look s.heap) l.length) a w → wpAny P .any ops Q fuel listed a w := by
    intro fuel
    induction fuel with
    | zero =>
      intro listed a w hsz hc hcl hrel
      have hall := cnt_zero hc
      refine ⟨?_, hK a w ?_⟩
      · rw [List.eq_nil_iff_forall_not_mem]
        intro i hi
        obtain ⟨h1, h2, _⟩ := ready_iff.1 hi
        have := hall i (by omega)
        simp only [Array.getD_eq_getD_getElem?] at this h2
        rw [Array.getElem?_eq_getElem (by omega)] at this h2
        simp only [Option.getD_some] at this h2
        rw [this] at h2
        exact absurd h2 (by simp)
      · rw [stN_env (D := fun _ => true) (fun _ => rfl), stN_heap (D := fun _ => true) (fun _ => rfl)]
        rw [envN_congr (D' := fun _ => true) (fun i hi => hall i hi), heapN_congr (D' := fun _ => true) (fun i hi => hall i hi)] at hrel
        exact hrel
    | succ fuel ih =>
      intro listed a w hsz hc hcl hrel
      refine ⟨fun hnil => ?_, fun j hj => ?_⟩
      · obtain ⟨j, h1, h2, h3⟩ := cnt_least (D := fun i => listed.getD i false) (n := l.length) (by omega)
        exfalso
        have : j ∈ Region.ready .any ops listed := by
          refine ready_iff.2 ⟨by omega, ?_, l.getD j default, by rw [hget]; exact hlt j h1, fun e he hb => ?_⟩
          · simp only [Array.getD_eq_getD_getElem?] at h2 ⊢
            rw [Array.getElem?_eq_getElem (by omega)] at h2 ⊢
            exact h2
          · have := edgesBelow_ok hbelow j _ (hlt j h1) e he hb
            exact h3 e.on (by omega)
        rw [hnil] at this
        cases this
      · obtain ⟨hj1, hj2, o, ho, hed⟩ := ready_iff.1 hj
        rw [hsize] at hj1
        have hDj : listed.getD j false = false := by
          simp only [Array.getD_eq_getD_getElem?] at hj2 ⊢
          rw [Array.getElem?_eq_getElem (by omega)] at hj2 ⊢
          exact hj2
        have hoj : o = l.getD j default := by
          rw [hget, hlt j hj1] at ho
          exact (Option.some.inj ho).symm
        have hpre : ∀ i, pred i j → listed.getD i false = true := by
          intro i hp
          obtain ⟨e, he, hb, h1⟩ := testBit_bits (by rw [← hget]; exact ho) hp
          have h2 := hed e he hb
          rcases h1 with rfl | h1
          · exact h2
          · have : e.on < l.length := by
              by_cases hlt : e.on < l.length
              · exact hlt
              · rw [Array.getD_eq_getD_getElem?, Array.getElem?_eq_none (by omega)] at h2
                cases h2
            exact hcl e.on this h2 i h1
        -- those before it that are not listed, and those behind it that are
        have hA : ∀ i, i < j → listed.getD i false = false → ¬ pred i j := fun i _ h1 h2 => by rw [hpre i h2] at h1; cases h1
        have hB : ∀ i, j < i → i < l.length → listed.getD i false = true → ¬ pred j i := fun i _ h0 h1 h2 => by rw [hcl i h0 h1 j h2] at hDj; cases hDj
        have henv : ∀ t, t ∈ o.looksAt ops → envN f (fun i => listed.getD i false) (look s.env) l.length t = look (stN f s j).env t := by
          intro t ht
          rw [stN_env (D := fun _ => true) (fun _ => rfl), ← envN_upTo l.length (Nat.le_of_lt hj1)]
          refine envN_foot _ fun i hi hne => ?_
          rcases Nat.lt_trichotomy i j with h1 | h1 | h1
          · rw [upTo_true.2 h1] at hne
            have hDi : listed.getD i false = false := by
              cases hq : listed.getD i false with
              | false => rfl
              | true => exact absurd hq hne
            intro h2
            rw [hoj] at ht
            exact (hun i j h1 hj1 (hA i h1 hDi)).1 t h2 ht
          · subst h1
            rw [upTo_false (Nat.le_refl _)] at hne
            exact absurd hDj hne
          · rw [upTo_false (Nat.le_of_lt h1)] at hne
            have hDi : listed.getD i false = true := by
              cases hq : listed.getD i false with
              | true => rfl
              | false => exact absurd hq hne
            intro h2
            rw [hoj] at ht
            exact (hun j i h1 hi (hB i h1 hi hDi)).2.2.1 t h2 ht
        have hhp : ∀ k, (k ∈ (stN f s j).nx :: (f j).2.rd ∨ k ∈ ids (f j).2.ups) → heapN f (fun i => listed.getD i false) (look s.heap) l.length k = look (stN f s j).heap k := by
          intro k hk
          rw [stN_heap (D := fun _ => true) (fun _ => rfl), ← heapN_upTo l.length (Nat.le_of_lt hj1)]
          refine heapN_foot _ fun i hi hne => ?_
          rcases Nat.lt_trichotomy i j with h1 | h1 | h1
          · rw [upTo_true.2 h1] at hne
            have hDi : listed.getD i false = false := by
              cases hq : listed.getD i false with
              | false => rfl
              | true => exact absurd hq hne
            intro h2
            have := (hun i j h1 hj1 (hA i h1 hDi)).2.2.2.1 k h2
            exact hk.elim this.1 this.2
          · subst h1
            rw [upTo_false (Nat.le_refl _)] at hne
            exact absurd hDj hne
          · rw [upTo_false (Nat.le_of_lt h1)] at hne
            have hDi : listed.getD i false = true := by
              cases hq : listed.getD i false with
              | true => rfl
              | false => exact absurd hq hne
            intro h2
            have hu := hun j i h1 hi (hB i h1 hi hDi)
            rcases hk with hk | hk
            · exact hu.2.2.2.2 k h2 hk
            · exact (hu.2.2.2.1 k hk).2 h2
        have hjfr := stN_fresh (f := f) hfr j
        have hnx : heapN f (fun i => listed.getD i false) (look s.heap) l.length (stN f s j).nx = none := by
          rw [hhp _ (.inl (by simp))]
          exact hjfr _ (Nat.le_refl _)
        -- the operation, there
        have hdst : ∀ t, o.dst = some t → t < x.nt := dstOk_mem hds (List.mem_of_getElem? (by rw [← hget]; exact ho))
        obtain ⟨g, hg, hgo⟩ := hdone j hj1
        have hg' : guardOf l o (envN f (fun i => listed.getD i false) (look s.env) l.length) = some g := by
          rw [← hg, hoj]
          unfold guardOf
          cases hgu : (l.getD j default).guard with
          | none => rfl
          | some gw =>
            obtain ⟨q, want⟩ := gw
            simp only
            cases hq : (l[q]?).bind (·.dst) with
            | none => rfl
            | some d =>
              simp only
              rw [henv d (by
                rw [hoj]
                unfold Oper.looksAt
                refine List.mem_append_right _ ?_
                rw [hgu]
                simp only [hget, hq]
                simp)]
        have hwant : Region.wanted o (yielded ops a.tmps) = gdRun g := by
          obtain ⟨h1, h2, F1, F2, ρ, hc, he⟩ := hrel
          have := guard_run he h2 hds hg'
          rw [show l.toArray = ops by rw [← hl]] at this
          exact this
        -- on from there
        have hnext : ∀ a' w', Rel x (putF (envN f (fun i => listed.getD i false) (look s.env) l.length) o.dst (f j).2.v) (upd (heapN f (fun i => listed.getD i false) (look s.heap) l.length) (f j).2.ups) a' w' →
            wpAny P .any ops Q fuel (listed.setIfInBounds j true) a' w' := by
          intro a' w' hrel'
          have hD' : ∀ i, (listed.setIfInBounds j true).getD i false = (listed.getD i false || Nat.beq i j) := by
            intro i
            by_cases hij : i = j
            · subst hij
              simp [Array.getD_eq_getD_getElem?, Array.getElem?_setIfInBounds, show i < listed.size by omega]
            · rw [beq_ne hij, Bool.or_false]
              simp [Array.getD_eq_getD_getElem?, Array.getElem?_setIfInBounds, Ne.symm hij]
          have hcnt := cnt_add (D := fun i => listed.getD i false) (D' := fun i => (listed.setIfInBounds j true).getD i false) hDj hD' hj1
          refine ih _ a' w' (by simpa using hsz) (by omega) (fun q hq hDq i hp => ?_) ?_
          · rw [hD'] at hDq ⊢
            rw [Bool.or_eq_true] at hDq ⊢
            rcases hDq with h1 | h1
            · exact .inl (hcl q hq h1 i hp)
            · obtain rfl := Nat.eq_of_beq_eq_true h1
              exact .inl (hpre i hp)
          · rw [envN_add (D := fun i => listed.getD i false) hDj hD' l.length hj1 (fun i h1 h2 h3 => ?_), heapN_add (D := fun i => listed.getD i false) hDj hD' l.length hj1 (fun i h1 h2 h3 k hk => ?_), hf1, ← hoj]
            · exact hrel'
            · exact ((hun j i h1 h2 (hB i h1 h2 h3)).2.2.2.1 k hk).2
            · exact (hun j i h1 h2 (hB i h1 h2 h3)).2.1
        unfold wpOp
        rw [ho]
        simp only
        rw [hwant]
        rcases hgo with ⟨hg2, hok, hnd⟩ | ⟨hg2, hout⟩
        · rw [hg2, if_pos rfl]
          left
          rw [← hoj] at hok hnd
          have hfoot := OutOk.foot (e' := envN f (fun i => listed.getD i false) (look s.env) l.length) (H' := heapN f (fun i => listed.getD i false) (look s.heap) l.length) hok hnd (fun y hy => evalR_env fun t ht => ?_) (fun k hk => (hhp k (.inl (by simp [hk]))).symm)
          · refine out_wp hT hΓ hdst hrel (nx := (stN f s j).nx) (Os := fun out => out = (f j).2) ?_ hnx (fun out hout i hi hs => ?_) (fun out a' w' hout hr' => ?_)
            · cases hs : evalOp Γ T x.k0 o (envN f (fun i => listed.getD i false) (look s.env) l.length) (heapN f (fun i => listed.getD i false) (look s.heap) l.length) (stN f s j).nx with
              | dem c rd => exact absurd hs (hfoot.2 c rd)
              | _ => exact ⟨_, hfoot.1, rfl⟩
            · subst hout
              obtain ⟨ob, hob⟩ := Option.isSome_iff_exists.1 hs
              rw [hhp i (.inr (mem_ids.2 ⟨ob, look_mem hob⟩))]
              exact hjfr i hi
            · subst hout
              exact hnext a' w' hr'
          · subst ht
            refine (henv t ?_).symm
            exact List.mem_append_left _ (List.mem_filterMap.2 ⟨.tmp t, by simpa using hy, rfl⟩)
        · rw [hg2]
          rw [if_neg (by simp)]
          refine hnext _ _ ?_
          rw [hout]
          exact Rel.skip hrel hdst
  refine key ops.size (Array.replicate ops.size false) a _ (by simp [hsize]) ?_ (fun j hj h => ?_) ?_
  · rw [← hsize]
    have : ∀ n, n ≤ ops.size → cnt (fun i => (Array.replicate ops.size false).getD i false) n = n := by
      intro n
      induction n with
      | zero => intro _; rfl
      | succ n ih =>
        intro hn
        unfold cnt
        rw [ih (by omega), rep_false]
    exact this _ (Nat.le_refl _)
  · rw [rep_false] at h
    cases h
  · have hz : ∀ n, envN f (fun i => (Array.replicate ops.size false).getD i false) (look s.env) n = look s.env ∧ heapN f (fun i => (Array.replicate ops.size false).getD i false) (look s.heap) n = look s.heap := by
      intro n
      induction n with
      | zero => exact ⟨rfl, rfl⟩
      | succ n ih =>
        unfold envN heapN
        simp only [rep_false] at ih ⊢
        exact ih
    rw [(hz _).1, (hz _).2]
    exact hr.drew
end
end Go.Proofs.Ytonbbaimkpjcfaa.Ev
/-! ## A piece of the program's text comes to what the reckoner says. No conditions. -/
namespace Go.Proofs.Ytonbbaimkpjcfaa.Ev
open Go
set_option linter.unusedVariables false
set_option linter.unusedSimpArgs false
section
variable {x : Cx} {P : Program} {Γ : List (FuncId × Ctr)} {T : Tab}
theorem awOps_sound (hT : tabOk P T = true) (hΓ : GamOk P Γ) {ops : Array Oper} (hds : dstOk x.nt ops.toList = true) {dr : Bool} {Q : Exit → Act → World → Prop} :
    ∀ (l : List Oper), (∀ o ∈ l, o ∈ ops.toList) → ∀ (s : St) (tr : Tr) (K : St → Tr → Prop) (a : Act) (w : World), s.fresh → Rel x (look s.env) (look s.heap) a w → awOps Γ T x.k0 ops.toList dr l s tr K →
      (∀ s' tr a' w', K s' tr → s'.fresh → Rel x (look s'.env) (look s'.heap) a' w' → Q .normal a' w') → wpList P ops Q l a w
  | [], _, s, tr, K, a, w, hf, hr, h, hK => hK s tr a w h hf hr
  | o :: r, hsub, s, tr, K, a, w, hf, hr, h, hK => by
    have hd : ∀ t, o.dst = some t → t < x.nt := dstOk_mem hds (hsub o (by simp))
    have hrest := awOps_sound hT hΓ hds (dr := dr) (Q := Q) r fun p hp => hsub p (by simp [hp])
    have hwant : ∀ g, guardOf ops.toList o (look s.env) = some g → Region.wanted o (yielded ops a.tmps) = gdRun g := by
      intro g hg
      obtain ⟨h1, h2, F1, F2, ρ, hc, he⟩ := hr
      exact guard_run he h2 hds hg
    have hrun : awOp Γ T x.k0 dr o s tr (fun s tr => awOps Γ T x.k0 ops.toList dr r s tr K) → o.wp P a w (wpList P ops Q r) Q := fun h =>
      awOp_sound hT hΓ hf hd hr h fun s' tr' a' w' h1 h2 h3 => hrest s' tr' K a' w' h2 h3 h1 hK
    have hskip : awSkip dr o s tr (fun s tr => awOps Γ T x.k0 ops.toList dr r s tr K) → wpList P ops Q r (a.put o.dst undef) w := fun h => by
      refine hrest _ _ K _ _ (St.fresh_next hf _ _ _) ?_ (awSkip_eq h) hK
      rw [show (s.next o.dst none []).env = putE s.env o.dst (.tuple []) from rfl, show (s.next o.dst none []).heap = [] ++ s.heap from rfl, look_putE, look_upd]
      exact Rel.skip hr hd
    unfold awOps at h
    unfold wpList
    cases hg : guardOf ops.toList o (look s.env) with
    | none => rw [hg] at h; exact h.elim
    | some g =>
      rw [hg] at h
      rw [hwant g hg]
      cases g with
      | run => exact .inl (hrun h)
      | skip => exact hskip h
      | ask b want =>
        cases want <;> cases b
        · exact .inl (hrun h)
        · exact hskip h
        · exact hskip h
        · exact .inl (hrun h)

/-- The machine's answer to a way out. -/
theorem aw_sound (hm : P.follows .mixedOrders = true) (hT : tabOk P T = true) (hΓ : GamOk P Γ) (hx : CxOk x) : ∀ (c : Code) (K : Exit → St → Prop) (s : St), aw Γ T x.k0 x.nt c K s → ∀ (a : Act) (w : World) (Q : Exit → Act → World → Prop), s.fresh → Rel x (look s.env) (look s.heap) a w →
    (∀ e s' a' w', K e s' → s'.fresh → Rel x (look s'.env) (look s'.heap) a' w' → Q e a' w') → c.wp P Q a w := by
  intro c
  induction c with
  | skip => intro K s h a w Q hf hr hK; exact wp_skip (hK _ _ _ _ h hf hr)
  | label l => intro K s h a w Q hf hr hK; exact wp_label (hK _ _ _ _ h hf hr)
  | region id ops dr =>
    intro K s h a w Q hf hr hK
    unfold aw at h
    cases hds : dstOk x.nt ops.toList with
    | false => rw [hds] at h; exact h.elim
    | true =>
      rw [hds] at h
      cases dr with
      | false => exact wp_region_list (awOps_sound hT hΓ hds _ (fun _ h => h) s [] _ a w hf hr h fun s' tr a' w' h1 h2 h3 => hK _ _ _ _ h1 h2 h3)
      | true => exact draw_sound hm hT hΓ hds hf hr h (fun s' tr a' w' h1 _ h2 h3 => hK _ _ _ _ h1.2 h2 h3) fun s' tr h1 => h1.1
  | seq c d ihc ihd =>
    intro K s h a w Q hf hr hK
    refine wp_seq (ihc _ s h a w _ hf hr fun e s' a' w' h1 h2 h3 => ?_)
    cases e with
    | normal => exact ihd _ s' h1 a' w' Q h2 h3 hK
    | _ => exact hK _ _ _ _ h1 h2 h3
  | cond c y z ihy ihz =>
    intro K s h a w Q hf hr hK
    unfold aw at h
    cases hb : condB s c with
    | none => rw [hb] at h; exact h.elim
    | some b =>
      rw [hb] at h
      have hc : a.eval c = .bool b := by
        obtain ⟨h1, h2, F1, F2, ρ, hc, he⟩ := hr
        unfold condB at hb
        cases hv : evalR (look s.env) c with
        | none => rw [hv] at hb; cases hb
        | some v =>
          rw [hv] at hb
          have := evalR_ok he hv
          split at hb
          · rename_i heq
            obtain rfl := Option.some.inj heq
            obtain rfl := Option.some.inj hb
            generalize a.eval c = q at this
            cases this with | p _ _ _ this => cases this; rfl
          · cases hb
      refine wp_cond hc ?_
      cases b with
      | true => exact ihy K s h a w Q hf hr hK
      | false => exact ihz K s h a w Q hf hr hK
  | block id c ih =>
    intro K s h a w Q hf hr hK
    refine wp_block (ih _ s h a w _ hf hr fun e s' a' w' h1 h2 h3 => ?_)
    cases e with
    | exit i =>
      show if i = id then Q .normal a' w' else Q (.exit i) a' w'
      simp only at h1
      by_cases hi : i = id
      · subst hi
        rw [if_pos rfl]
        rw [Nat.beq_refl] at h1
        exact hK _ _ _ _ h1 h2 h3
      · rw [if_neg hi]
        rw [beq_ne hi] at h1
        exact hK _ _ _ _ h1 h2 h3
    | _ => exact hK _ _ _ _ h1 h2 h3
  | loop c ih =>
    intro K s h a w Q hf hr hK
    obtain ⟨Ix, S, μ, ⟨i0, h0⟩, hround⟩ := h
    let I (a : Act) (w : World) : Prop := ∃ i, (S i).fresh ∧ Rel x (look (S i).env) (look (S i).heap) a w
    let M (a : Act) (w : World) (n : Nat) : Prop := ∃ i, μ i = n ∧ (S i).fresh ∧ Rel x (look (S i).env) (look (S i).heap) a w
    have hI0 : I a w := by
      obtain ⟨h1, h2⟩ := emb_sound hx h0 hr
      exact ⟨i0, h2, h1⟩
    have hmin : ∀ a w, I a w → ∃ n, M a w n ∧ ∀ m, M a w m → n ≤ m := by
      rintro a w ⟨i, h1, h2⟩
      have : ∀ k, M a w k → ∃ n, M a w n ∧ ∀ m, M a w m → n ≤ m := by
        intro k
        induction k using Nat.strongRecOn with
        | _ k ihk =>
          intro hk
          by_cases hlt : ∃ m, m < k ∧ M a w m
          · obtain ⟨m, h3, h4⟩ := hlt
            exact ihk m h3 h4
          · exact ⟨k, hk, fun m hm => Nat.le_of_not_lt fun h => hlt ⟨m, h, hm⟩⟩
      exact this (μ i) ⟨i, rfl, h1, h2⟩
    classical
    let mu (a : Act) (w : World) : Nat := if h : I a w then (hmin a w h).choose else 0
    have hmu : ∀ a w, I a w → M a w (mu a w) ∧ ∀ m, M a w m → mu a w ≤ m := by
      intro a w h
      have : mu a w = (hmin a w h).choose := dif_pos h
      rw [this]
      exact (hmin a w h).choose_spec
    refine wp_loop I mu hI0 fun a w hI => ?_
    obtain ⟨⟨i, h1, h2, h3⟩, _⟩ := hmu a w hI
    refine ih _ (S i) (hround i) a w _ h2 h3 fun e s' a' w' h4 h5 h6 => ?_
    cases e with
    | normal =>
      obtain ⟨j, h7, h8⟩ := h4
      obtain ⟨h9, h10⟩ := emb_sound hx h8 h6
      have hI' : I a' w' := ⟨j, h10, h9⟩
      refine ⟨hI', ?_⟩
      have := (hmu a' w' hI').2 (μ j) ⟨j, rfl, h10, h9⟩
      omega
    | _ => exact hK _ _ _ _ h4 h5 h6
  | exit id => intro K s h a w Q hf hr hK; exact wp_exit (hK _ _ _ _ h hf hr)
  | ret => intro K s h a w Q hf hr hK; exact wp_ret (hK _ _ _ _ h hf hr)
  | scope c ih =>
    intro K s h a w Q hf hr hK
    refine wp_scope_straight (ih _ s h a w _ hf hr fun e s' a' w' h1 h2 h3 => ?_)
    cases e with
    | goto l => exact h1.elim
    | _ => exact hK _ _ _ _ h1 h2 h3
  | _ => intro K s h; exact h.elim
end
end Go.Proofs.Ytonbbaimkpjcfaa.Ev
