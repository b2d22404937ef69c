/- A piece of the program's text comes to what the reckoner says: branches and loops. No conditions. -/
import Derived.Test.YtjgmlkogppibfaaEvEmb2
import Derived.Scope
namespace Go.Proofs.Ytjgmlkogppibfaa.Ev
open Go
set_option linter.unusedVariables false
set_option linter.unusedSimpArgs false
section
variable {x : Cx} {P : Program} {Γ : List (FuncId × Ctr)} {T : Tab} {H : Hp} {a : Act} {w : World}

/-- What is needed of where a call began. -/
structure CxOk (x : Cx) : Prop where
  dom : ∀ h o, x.H0 h = some o → h < x.k0

theorem allBelow_ok {k : Nat} : ∀ {l : List Nat}, allBelow k l = true → ∀ i ∈ l, i < k
  | [], _, i, h => by cases h
  | j :: r, hb, i, h => by
    simp only [allBelow, Bool.and_eq_true] at hb
    rcases List.mem_cons.1 h with rfl | h1
    · exact Nat.le_of_ble_eq_true hb.1
    · exact allBelow_ok hb.2 i h1
theorem allIds_ok {l : List Nat} : ∀ {k : Nat}, allIds l k = true → ∀ i, i < k → i ∈ l
  | 0, _, i, h => by omega
  | k + 1, hb, i, h => by
    simp only [allIds, Bool.and_eq_true] at hb
    rcases Nat.lt_or_ge i k with h1 | h1
    · exact allIds_ok hb.2 i h1
    · obtain rfl : i = k := by omega
      exact memN_iff.1 hb.1
theorem lentSame_ok {k : Nat} : ∀ {σ : Sg}, lentSame k σ = true → ∀ i t, (i, t) ∈ σ → (i < k → t = .full i) ∧ (k ≤ i → ∀ h, t.id = some h → k ≤ h)
  | [], _, i, t, h => by cases h
  | (j, u) :: r, hb, i, t, h => by
    simp only [lentSame, Bool.and_eq_true] at hb
    rcases List.mem_cons.1 h with he | he
    · obtain ⟨rfl, rfl⟩ := Prod.mk.inj he
      have h1 := hb.1
      cases t with
      | full q =>
        simp only [Bool.or_eq_true, Bool.and_eq_true] at h1
        rcases h1 with ⟨h2, h3⟩ | ⟨h2, h3⟩
        · have h2 : i < k := Nat.le_of_ble_eq_true h2
          obtain rfl := Nat.eq_of_beq_eq_true h3
          exact ⟨fun _ => rfl, fun h => absurd h2 (by omega)⟩
        · have h2 := Nat.le_of_ble_eq_true h2
          have h3 := Nat.le_of_ble_eq_true h3
          exact ⟨fun h => absurd h (by omega), fun _ h hh => by obtain rfl := Option.some.inj hh; exact h3⟩
      | trunc q n =>
        simp only [Bool.and_eq_true] at h1
        have h2 := Nat.le_of_ble_eq_true h1.1
        have h3 := Nat.le_of_ble_eq_true h1.2
        exact ⟨fun h => absurd h (by omega), fun _ h hh => by obtain rfl := Option.some.inj hh; exact h3⟩
      | nil =>
        have h2 := Nat.le_of_ble_eq_true h1
        exact ⟨fun h => absurd h (by omega), fun _ h hh => by cases hh⟩
    · exact lentSame_ok hb.2 i t he
theorem embMtE_ok {s : St} {σ : Sg} {k0 : Nat} : ∀ {E : List (Nat × AV)} {ps : List Prop} {fz bo : List Nat}, embMtE σ s k0 E = some (ps, fz, bo) → allP ps → ∀ t f, (t, f) ∈ E → ∃ v ps' fz' bo', look s.env t = some v ∧ mtV σ (look s.heap) k0 false 5 f v = some (ps', fz', bo') ∧ allP ps' ∧ (∀ h ∈ fz', h ∈ fz) ∧ (∀ h ∈ bo', h ∈ bo)
  | [], ps, fz, bo, _, _, t, f, hm => by cases hm
  | (j, q) :: r, ps, fz, bo, h, hp, t, f, hm => by
    unfold embMtE at h
    cases ht : look s.env j with
    | none => rw [ht] at h; cases h
    | some v =>
      rw [ht] at h
      obtain ⟨p1, f1, b1, p2, f2, b2, e1, e2, rfl, rfl, rfl⟩ := Mt.and_some h
      obtain ⟨hp1, hp2⟩ := allP_append hp
      rcases List.mem_cons.1 hm with he | he
      · obtain ⟨rfl, rfl⟩ := Prod.mk.inj he
        exact ⟨v, p1, f1, b1, ht, e1, hp1, fun h hm => by simp [hm], fun h hm => by simp [hm]⟩
      · obtain ⟨v', ps', fz', bo', q1, q2, q3, q4, q5⟩ := embMtE_ok e2 hp2 t f he
        exact ⟨v', ps', fz', bo', q1, q2, q3, fun h hm => by simp [q4 h hm], fun h hm => by simp [q5 h hm]⟩
/-- Nothing is lent where no loan is allowed. -/
theorem mtV_noBo {σ : Sg} {H : Hp} {k0 : Nat} : ∀ (n : Nat) (f a : AV) {ps : List Prop} {fz bo : List Nat}, mtV σ H k0 false n f a = some (ps, fz, bo) → bo = [] := by
  intro n
  induction n with
  | zero => intro f a ps fz bo h; cases h
  | succ n ih =>
    have hlist : ∀ (xs ys : List AV) {ps : List Prop} {fz bo : List Nat}, zipMt (mtV σ H k0 false n) xs ys = some (ps, fz, bo) → bo = [] := by
      intro xs
      induction xs with
      | nil => intro ys ps fz bo h; cases ys with
        | nil => cases h; rfl
        | cons => cases h
      | cons x r ihl => intro ys ps fz bo h; cases ys with
        | nil => cases h
        | cons y s =>
          obtain ⟨p1, f1, b1, p2, f2, b2, e1, e2, rfl, rfl, rfl⟩ := Mt.and_some h
          rw [ih x y e1, ihl s e2]
          rfl
    intro f a ps fz bo h
    unfold mtV at h
    cases f with
    | p fr v =>
      simp only at h
      split at h
      · split at h
        · rename_i heq _; cases heq
        · cases h; rfl
        · cases h; rfl
      · cases h
    | ptr => simp only at h; split at h <;> (try cases h); split at h <;> (try cases h); split at h <;> (try cases h); rfl
    | rowf =>
      simp only at h
      split at h
      · split at h
        · split at h <;> cases h; rfl
        · cases h
      · split at h
        · split at h <;> cases h; rfl
        · cases h
      · split at h <;> cases h; rfl
      · cases h
    | row => simp only at h; split at h <;> (try cases h); split at h <;> (try cases h); split at h <;> (try cases h); rfl
    | func g x y =>
      simp only at h
      split at h
      · split at h
        · obtain ⟨p1, f1, b1, p2, f2, b2, e1, e2, rfl, rfl, rfl⟩ := Mt.and_some h
          rw [hlist _ _ e1, hlist _ _ e2]
          rfl
        · cases h
      · cases h
    | agg x => simp only at h; split at h <;> first | exact hlist _ _ h | cases h
    | tuple x => simp only at h; split at h <;> first | exact hlist _ _ h | cases h
    | eptr => cases h
    | rptr => cases h
end
end Go.Proofs.Ytjgmlkogppibfaa.Ev
