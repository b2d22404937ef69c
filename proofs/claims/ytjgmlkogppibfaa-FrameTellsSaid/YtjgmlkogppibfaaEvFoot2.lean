/- What an operation looks at: appends, calls. No conditions. -/
import Derived.Test.YtjgmlkogppibfaaEvFoot
namespace Go.Proofs.Ytjgmlkogppibfaa.Ev
open Go
set_option linter.unusedVariables false
set_option linter.unusedSimpArgs false

section
variable {H H' : Hp} {k0 : Nat} {T : Tab}
theorem srcRow_foot {x : AV} {es : Option (TypeId × Nat)} {fr : Bool} {els : List PV} {c : List Prop} {ups : List (Nat × Ob)} {rd : List Nat} (h : srcRow H x = some (es, fr, els, c, ups, rd)) (hag : ∀ i ∈ rd, H i = H' i) : srcRow H' x = some (es, fr, els, c, ups, rd) := by
  unfold srcRow at h ⊢
  split at h
  · exact h
  · split at h
    · rename_i heq
      cases h
      rw [hag _ (by simp)] at heq
      simp only [heq]
    · cases h
  · split at h
    · rename_i heq
      cases h
      rw [hag _ (by simp)] at heq
      simp only [heq]
    · cases h
  · cases h
theorem addedEls_foot {sz : Nat} {x : AV} {r : Bool × List PV × List Nat} (h : addedEls H k0 sz x = some r) (hag : ∀ i ∈ r.2.2, H i = H' i) : addedEls H' k0 sz x = some r := by
  unfold addedEls at h ⊢
  split at h
  · rename_i heq
    split at h
    · rename_i hb
      cases h
      rw [viewPV_foot heq hag]
      simp only [hb]
    · cases h
  · rename_i heq
    cases h
    rw [viewPV_foot heq hag]
  · cases h
theorem evalAppend_foot {nx : Nat} {t t2 : TypeId} {x y : AV} : Foot H H' (evalAppend T H k0 nx t t2 x y) (evalAppend T H' k0 nx t t2 x y) := by
  intro cs v rd ups h hag
  unfold evalAppend at h ⊢
  cases ht : look T t with
  | none => rw [ht] at h; cases h
  | some d =>
  cases ht2 : look T t2 with
  | none => rw [ht, ht2] at h; cases h
  | some d2 =>
  rw [ht, ht2] at h
  simp only at h ⊢
  cases hk : d.k <;> rw [hk] at h <;> try (cases h; done)
  rename_i e
  simp only at h ⊢
  cases he : look T e with
  | none => rw [he] at h; cases h
  | some de =>
  cases hs : srcRow H x with
  | none => rw [he, hs] at h; cases h
  | some q =>
  obtain ⟨es, fr, els, c, us, r⟩ := q
  rw [he, hs] at h
  simp only at h
  have hsub : ∀ i ∈ r, i ∈ rd := by
    split at h
    · split at h
      · cases h; exact fun i hi => hi
      · cases h
      · split at h
        · cases h; exact fun i hi => hi
        · cases h
      · split at h
        · cases h; exact fun i hi => List.mem_append.2 (.inl hi)
        · cases h
      · cases h
    · cases h
  rw [srcRow_foot hs fun i hi => hag i (hsub i hi)]
  simp only
  split at h
  · rename_i hb
    split at h
    · exact h
    · cases h
    · exact h
    · split at h
      · rename_i heq
        have : ∀ i, i ∈ rd → H i = H' i := hag
        cases h
        rw [addedEls_foot heq fun i hi => hag i (List.mem_append.2 (.inr hi))]
      · cases h
    · cases h
  · cases h
theorem evalCopy_foot {t t2 : TypeId} {x y : AV} : Foot H H' (evalCopy T H k0 t t2 x y) (evalCopy T H' k0 t t2 x y) := by
  intro cs v rd ups h hag
  unfold evalCopy at h ⊢
  split at h
  · split at h
    · split at h
      · rename_i hz1 hz2 heq
        split at h
        · rename_i hh n f2 els2 rd2 e' fr els hH
          cases h
          rw [hag hh (by simp)] at hH
          rw [hz2, viewPV_foot heq fun i hi => hag i (by simp at hi ⊢; exact .inr hi)]
          simp only [hH]
        · cases h
      · cases h
    · cases h
  · cases h
theorem evalBuiltin_foot {nx : Nat} {b : Builtin} {ts : List TypeId} {args : List AV} : Foot H H' (evalBuiltin T H k0 nx b ts args) (evalBuiltin T H' k0 nx b ts args) := by
  intro cs v rd ups h hag
  unfold evalBuiltin at h ⊢
  split at h
  · split at h
    · split at h
      · rename_i d n r hd hl
        have hrd : rd = r := by
          split at h
          · cases h; rfl
          · cases h
          · cases h; rfl
          · cases h
        rw [hd, lenOf_foot hl (by rw [← hrd]; exact hag)]
        exact h
      · cases h
    · cases h
  · exact h
  · split at h
    · exact evalAppend_foot _ _ _ _ h hag
    · cases h
  · split at h
    · exact evalCopy_foot _ _ _ _ h hag
    · cases h
  · exact h
  · exact h
  · cases h
end
end Go.Proofs.Ytjgmlkogppibfaa.Ev
