/- A call by its contract: what the caller's memory is afterwards. No conditions. -/
import Derived.Test.YtjgmlkogppibfaaEvCall
namespace Go.Proofs.Ytjgmlkogppibfaa.Ev
open Go
set_option linter.unusedVariables false
set_option linter.unusedSimpArgs false
section
variable {w w' : World} {F1 F2 F1' F2' F1'' : Nat → Prop} {ρ ρ' : Nat → Option (Nat × Nat)} {H : Hp} {k0 k nx : Nat} {σ : Sg} {FL FL' : List (Nat × Ob)} {fz : List Nat}

theorem look_none : ∀ {l : List (Nat × Ob)} {i : Nat}, look l i = none → i ∉ ids l
  | [], i, _, h => by cases h
  | (j, q) :: r, i, h1, h2 => by
    rcases List.mem_cons.1 h2 with rfl | h3
    · rw [look_cons_same] at h1; cases h1
    · by_cases hj : j = i
      · subst hj; rw [look_cons_same] at h1; cases h1
      · rw [look_cons_ne _ _ hj] at h1; exact look_none h1 h3
theorem renH_mem : ∀ {l : List (Nat × Ob)} {h : Nat} {o : Ob}, (h, o) ∈ renH σ k nx l ↔ ∃ i o0, (i, o0) ∈ l ∧ h = trId σ k nx i ∧ o = renO (trId σ k nx) o0
  | [], h, o => by simp [renH]
  | (j, q) :: r, h, o => by
    unfold renH
    rw [List.mem_cons, renH_mem]
    constructor
    · rintro (he | ⟨i, o0, h1, h2, h3⟩)
      · obtain ⟨rfl, rfl⟩ := Prod.mk.inj he
        exact ⟨j, q, by simp, rfl, rfl⟩
      · exact ⟨i, o0, by simp [h1], h2, h3⟩
    · rintro ⟨i, o0, h1, h2, h3⟩
      rcases List.mem_cons.1 h1 with he | he
      · obtain ⟨rfl, rfl⟩ := Prod.mk.inj he
        exact .inl (by rw [h2, h3])
      · exact .inr ⟨i, o0, he, h2, h3⟩
theorem goneOf_mem (hfull : ∀ i t, (i, t) ∈ σ → ∃ q, t = .full q) {back : List Nat} {h : Nat} {o : Ob} : (h, o) ∈ goneOf σ back ↔ o = .gone ∧ ∃ i, (i, Tgt.full h) ∈ σ ∧ i ∉ back := by
  induction σ with
  | nil => simp [goneOf]
  | cons x r ih =>
    obtain ⟨i, t⟩ := x
    obtain ⟨q, rfl⟩ := hfull i t (by simp)
    have ih := ih fun i t h => hfull i t (by simp [h])
    unfold goneOf
    simp only
    cases hb : memN back i with
    | true =>
      simp only
      rw [ih]
      constructor
      · rintro ⟨h1, j, h2, h3⟩
        exact ⟨h1, j, by simp [h2], h3⟩
      · rintro ⟨h1, j, h2, h3⟩
        refine ⟨h1, j, ?_, h3⟩
        rcases List.mem_cons.1 h2 with he | he
        · obtain ⟨rfl, _⟩ := Prod.mk.inj he
          exact absurd (memN_iff.1 hb) h3
        · exact he
    | false =>
      simp only
      rw [List.mem_cons, ih]
      have hni : i ∉ back := fun hm => by rw [memN_iff.2 hm] at hb; cases hb
      constructor
      · rintro (he | ⟨h1, j, h2, h3⟩)
        · obtain ⟨rfl, rfl⟩ := Prod.mk.inj he
          exact ⟨rfl, i, by simp, hni⟩
        · exact ⟨h1, j, by simp [h2], h3⟩
      · rintro ⟨h1, j, h2, h3⟩
        rcases List.mem_cons.1 h2 with he | he
        · obtain ⟨rfl, he⟩ := Prod.mk.inj he
          cases he
          exact .inl (by rw [h1])
        · exact .inr ⟨h1, j, he, h3⟩
theorem renO_live {g : Nat → Nat} {o : Ob} : (renO g o).live ↔ o.live := by cases o <;> exact Iff.rfl

/-- What is known of a call's names. -/
structure Names (k0 k nx : Nat) (H : Hp) (σ : Sg) (FL FL' : List (Nat × Ob)) (fz : List Nat) : Prop where
  full : ∀ i t, (i, t) ∈ σ → ∃ q, t = .full q
  low : ∀ i o, look FL i = some o → i < k ∧ ∃ q, tgt σ i = some (.full q)
  live : ∀ i q, tgt σ i = some (.full q) → ∃ o, look FL i = some o ∧ ∃ oq, H q = some oq ∧ oq.live ∧ (∀ ds, o = .box ds → ∃ es, oq = .box es) ∧ ∀ e sz fr fz els, o = .row e sz fr fz els → ∃ fr', oq = .row e sz fr' false els
  nd : nodup (sgIds σ) = true
  dj : ∀ h ∈ sgIds σ, h ∉ fz
  ndF : nodup (ids FL') = true
  back : ∀ i o, (i, o) ∈ FL' → (∀ e sz fr fz els, o = .row e sz fr fz els → fz = false) ∧ match look FL i with
      | none => k ≤ i
      | some o0 => match o with
        | .row e sz fr fz els => ∃ fr' fz' els', o0 = .row e sz fr' fz' els' ∧ els.length = els'.length
        | .box _ => ∃ ds, o0 = .box ds
        | .gone => True
  fresh : ∀ i, nx ≤ i → (look (renH σ k nx FL' ++ goneOf σ (ids FL') ++ freeze H fz) i).isSome = true → H i = none
  rows : ∀ h ∈ fz, ∃ e sz fr f els, H h = some (.row e sz fr f els)
theorem tgt_of_mem (hn : nodup (ids σ) = true) {i : Nat} {t : Tgt} (h : (i, t) ∈ σ) : tgt σ i = some t := look_of_mem hn h
theorem Names.lo (N : Names k0 k nx H σ FL FL' fz) {i : Nat} (h : i < k) {q : Nat} (ht : tgt σ i = some (.full q)) : trId σ k nx i = q := by
  unfold trId
  rw [show Nat.blt i k = true from Nat.ble_eq_true_of_le h]
  simp only [ht]
theorem Names.hi {i : Nat} (h : k ≤ i) : trId σ k nx i = nx + (i - k) := by
  unfold trId
  have : Nat.blt i k = false := by
    cases hb : Nat.blt i k with
    | false => rfl
    | true => have : i < k := Nat.le_of_ble_eq_true hb; omega
  rw [this]
/-- What is handed back: one's own, or new. -/
theorem Names.kind (N : Names k0 k nx H σ FL FL' fz) {i : Nat} {o : Ob} (hm : (i, o) ∈ FL') : (∃ o0 q, i < k ∧ look FL i = some o0 ∧ tgt σ i = some (.full q) ∧ trId σ k nx i = q) ∨ (k ≤ i ∧ trId σ k nx i = nx + (i - k) ∧ H (trId σ k nx i) = none) := by
  have hb := (N.back i o hm).2
  cases hl : look FL i with
  | none =>
    rw [hl] at hb
    refine .inr ⟨hb, Names.hi hb, N.fresh _ (by rw [Names.hi hb]; omega) ?_⟩
    cases hq : look (renH σ k nx FL' ++ goneOf σ (ids FL') ++ freeze H fz) (trId σ k nx i) with
    | some o => rfl
    | none =>
      exact absurd (mem_ids.2 ⟨_, List.mem_append.2 (.inl (List.mem_append.2 (.inl (renH_mem.2 ⟨i, o, hm, rfl, rfl⟩))))⟩) (look_none hq)
  | some o0 =>
    obtain ⟨h1, q, h2⟩ := N.low i o0 hl
    exact .inl ⟨o0, q, h1, rfl, h2, N.lo h1 h2⟩
theorem Names.inj (N : Names k0 k nx H σ FL FL' fz) {i i' : Nat} {o o' : Ob} (hm : (i, o) ∈ FL') (hm' : (i', o') ∈ FL') (he : trId σ k nx i = trId σ k nx i') : i = i' := by
  rcases N.kind hm with ⟨o0, q, h1, h2, h3, h4⟩ | ⟨h1, h2, h3⟩ <;> rcases N.kind hm' with ⟨o0', q', h1', h2', h3', h4'⟩ | ⟨h1', h2', h3'⟩
  · rw [h4, h4'] at he
    subst he
    exact (Prod.mk.inj (sg_inj N.nd (tgt_mem h3) (tgt_mem h3') rfl rfl)).1
  · obtain ⟨_, _, oq, hq, _⟩ := N.live i q h3
    rw [← he, h4, hq] at h3'
    cases h3'
  · obtain ⟨_, _, oq, hq, _⟩ := N.live i' q' h3'
    rw [he, h4', hq] at h3
    cases h3
  · omega
theorem Names.cls (N : Names k0 k nx H σ FL FL' fz) (hs : nodup (ids σ) = true) (h : Nat) :
    (∃ i o, (i, o) ∈ FL' ∧ h = trId σ k nx i ∧ upd H (renH σ k nx FL' ++ goneOf σ (ids FL') ++ freeze H fz) h = some (renO (trId σ k nx) o)) ∨
    (h ∈ sgIds σ ∧ upd H (renH σ k nx FL' ++ goneOf σ (ids FL') ++ freeze H fz) h = some .gone) ∨
    (h ∈ fz ∧ h ∉ sgIds σ ∧ ∃ e sz fr f els, H h = some (.row e sz fr f els) ∧ upd H (renH σ k nx FL' ++ goneOf σ (ids FL') ++ freeze H fz) h = some (.row e sz fr true els)) ∨
    (h ∉ sgIds σ ∧ h ∉ fz ∧ upd H (renH σ k nx FL' ++ goneOf σ (ids FL') ++ freeze H fz) h = H h) := by
  unfold upd
  rw [look_append, look_append]
  cases hR : look (renH σ k nx FL') h with
  | some o =>
    obtain ⟨i, o0, h1, h2, h3⟩ := renH_mem.1 (look_mem hR)
    exact .inl ⟨i, o0, h1, h2, by simp only [h3]⟩
  | none =>
    have hnR := look_none hR
    cases hG : look (goneOf σ (ids FL')) h with
    | some o =>
      obtain ⟨rfl, i, h1, h2⟩ := (goneOf_mem N.full).1 (look_mem hG)
      exact .inr (.inl ⟨sgIds_mem h1 rfl, rfl⟩)
    | none =>
      have hnG := look_none hG
      have hns : h ∉ sgIds σ := by
        intro hm
        obtain ⟨⟨i, t⟩, h1, h2⟩ := sgIds_iff.1 hm
        obtain ⟨q, rfl⟩ := N.full i t h1
        obtain rfl := Option.some.inj h2
        by_cases hi : i ∈ ids FL'
        · obtain ⟨o, ho⟩ := mem_ids.1 hi
          obtain ⟨o0, ho0, _⟩ := N.live i q (tgt_of_mem hs h1)
          have := N.lo (N.low i o0 ho0).1 (tgt_of_mem hs h1)
          exact hnR (mem_ids.2 ⟨_, renH_mem.2 ⟨i, o, ho, this.symm, rfl⟩⟩)
        · exact hnG (mem_ids.2 ⟨_, (goneOf_mem N.full).2 ⟨rfl, i, h1, hi⟩⟩)
      simp only
      rw [look_freeze]
      by_cases hf : h ∈ fz
      · obtain ⟨e, sz, fr, f, els, hH⟩ := N.rows h hf
        refine .inr (.inr (.inl ⟨hf, hns, e, sz, fr, f, els, hH, ?_⟩))
        rw [hH]
        simp only [if_pos hf]
      · refine .inr (.inr (.inr ⟨hns, hf, ?_⟩))
        cases hH : H h with
        | none => rfl
        | some o => cases o <;> simp only [if_neg hf]
theorem Names.renamed (N : Names k0 k nx H σ FL FL' fz) (hs : nodup (ids σ) = true) {i : Nat} {o : Ob} (hm : (i, o) ∈ FL') : upd H (renH σ k nx FL' ++ goneOf σ (ids FL') ++ freeze H fz) (trId σ k nx i) = some (renO (trId σ k nx) o) := by
  unfold upd
  rw [look_append, look_append]
  cases hR : look (renH σ k nx FL') (trId σ k nx i) with
  | some o' =>
    obtain ⟨i', o0, h1, h2, h3⟩ := renH_mem.1 (look_mem hR)
    obtain rfl := N.inj hm h1 h2
    have h4 := look_of_mem N.ndF hm
    rw [look_of_mem N.ndF h1] at h4
    obtain rfl := Option.some.inj h4
    simp only [h3]
  | none => exact absurd (mem_ids.2 ⟨_, renH_mem.2 ⟨i, o, hm, rfl, rfl⟩⟩) (look_none hR)
end
end Go.Proofs.Ytjgmlkogppibfaa.Ev
