/- What an operation looks at: the slots it names and the things that the reckoner lists, nothing else. No conditions. -/
import Derived.Test.YtjgmlkogppibfaaEvEmb3
namespace Go.Proofs.Ytjgmlkogppibfaa.Ev
open Go
set_option linter.unusedVariables false
set_option linter.unusedSimpArgs false

theorem evalR_env {e e' : Env} {x : Operand} (h : ∀ t, x = .tmp t → e t = e' t) : evalR e x = evalR e' x := by
  cases x <;> first | exact h _ rfl | rfl
theorem evalRs_env {e e' : Env} : ∀ {l : List Operand}, (∀ x ∈ l, evalR e x = evalR e' x) → evalRs e l = evalRs e' l
  | [], _ => rfl
  | x :: r, h => by
    unfold evalRs
    rw [h x (by simp), evalRs_env (l := r) fun y hy => h y (by simp [hy])]
theorem evalParts_env {e e' : Env} : ∀ {l : List (Nat × Operand)}, (∀ p ∈ l, evalR e p.2 = evalR e' p.2) → evalParts e l = evalParts e' l
  | [], _ => rfl
  | (i, x) :: r, h => by
    unfold evalParts
    rw [h (i, x) (by simp), evalParts_env (l := r) fun y hy => h y (by simp [hy])]
theorem evalOp_env {Γ : List (FuncId × Ctr)} {T : Tab} {k0 : Nat} {o : Oper} {e e' : Env} {H : Hp} {nx : Nat} (h : ∀ x ∈ o.op.operands, evalR e x = evalR e' x) : evalOp Γ T k0 o e H nx = evalOp Γ T k0 o e' H nx := by
  obtain ⟨dst, op, type, pos, after, guard⟩ := o
  unfold evalOp
  cases op <;> simp only [Op.operands] at h <;> simp only
  case build t ps => rw [evalParts_env (l := ps.toList) fun p hp => h p.2 (by simpa using ⟨p.1, by simpa using hp⟩)]
  case buildSlice t n ps => rw [evalParts_env (l := ps.toList) fun p hp => h p.2 (by simpa using ⟨p.1, by simpa using hp⟩)]
  case makeFunc fn first captured =>
    cases fn <;> simp only
    rw [evalRs_env (l := first.toList) fun x hx => h x (by simp at hx ⊢; exact .inl hx), evalRs_env (l := captured.toList) fun x hx => h x (by simp at hx ⊢; exact .inr hx)]
  case call c =>
    cases hc : c.callee with
    | value f =>
      simp only [Call.operands, hc] at h ⊢
      rw [evalRs_env (l := c.args.toList) fun x hx => h x (by simp at hx ⊢; exact .inr hx), h f (by simp)]
    | builtin b =>
      simp only [Call.operands, hc] at h ⊢
      rw [evalRs_env (l := c.args.toList) fun x hx => h x (by simpa using hx)]
    | invoke r m => simp only
  case slice t x lo hi mx => cases lo <;> cases hi <;> cases mx <;> simp_all
  all_goals (first | rfl | (simp_all; done))

section
variable {H H' : Hp} {k0 : Nat} {T : Tab}
theorem viewPV_foot {a : AV} {r : Bool × PV × List Nat} (h : viewPV H k0 a = some r) (hag : ∀ i ∈ r.2.2, H i = H' i) : viewPV H' k0 a = some r := by
  unfold viewPV at h ⊢
  split at h
  · exact h
  · split at h
    · rename_i heq
      cases h
      rw [hag _ (by simp)] at heq
      simp only [heq]
    · cases h
  · split at h
    · rename_i heq
      cases h
      rw [hag _ (by simp)] at heq
      simp only [heq]
    · cases h
  · cases h
theorem viewPVs_foot : ∀ {l : List AV} {r : Bool × List PV × List Nat}, viewPVs H k0 l = some r → (∀ i ∈ r.2.2, H i = H' i) → viewPVs H' k0 l = some r
  | [], r, h, _ => h
  | x :: s, r, h, hag => by
    unfold viewPVs at h ⊢
    cases h1 : viewPV H k0 x with
    | none => rw [h1] at h; cases h
    | some a =>
      cases h2 : viewPVs H k0 s with
      | none => rw [h1, h2] at h; cases h
      | some b =>
        rw [h1, h2] at h
        obtain ⟨f, v, l⟩ := a
        obtain ⟨g, vs, m⟩ := b
        cases h
        rw [viewPV_foot h1 fun i hi => hag i (by simp at hi ⊢; exact .inl hi), viewPVs_foot h2 fun i hi => hag i (by simp at hi ⊢; exact .inr hi)]
theorem viewEl_foot {a : AV} {r : Bool × PV × List Nat} (h : viewEl H k0 a = some r) (hag : ∀ i ∈ r.2.2, H i = H' i) : viewEl H' k0 a = some r := by
  unfold viewEl at h ⊢
  split at h
  · split at h
    · rename_i heq
      cases h
      rw [viewPVs_foot heq hag]
    · cases h
  · exact viewPV_foot h hag
theorem viewEls_foot : ∀ {l : List AV} {r : Bool × List PV × List Nat}, viewEls H k0 l = some r → (∀ i ∈ r.2.2, H i = H' i) → viewEls H' k0 l = some r
  | [], r, h, _ => h
  | x :: s, r, h, hag => by
    unfold viewEls at h ⊢
    cases h1 : viewEl H k0 x with
    | none => rw [h1] at h; cases h
    | some a =>
      cases h2 : viewEls H k0 s with
      | none => rw [h1, h2] at h; cases h
      | some b =>
        rw [h1, h2] at h
        obtain ⟨f, v, l⟩ := a
        obtain ⟨g, vs, m⟩ := b
        cases h
        rw [viewEl_foot h1 fun i hi => hag i (by simp at hi ⊢; exact .inl hi), viewEls_foot h2 fun i hi => hag i (by simp at hi ⊢; exact .inr hi)]
theorem freeze_foot : ∀ {l : List Nat}, (∀ i ∈ l, H i = H' i) → freeze H' l = freeze H l
  | [], _ => rfl
  | i :: r, h => by
    unfold freeze
    rw [← h i (by simp), freeze_foot (l := r) fun j hj => h j (by simp [hj])]
/-- The same comes of it where the listed things are the same. -/
def Foot (H H' : Hp) (s s' : Step) : Prop := ∀ cs v rd ups, s = .ok cs v rd ups → (∀ i ∈ rd, H i = H' i) → s' = .ok cs v rd ups
theorem Foot.refl (s : Step) : Foot H H' s s := fun _ _ _ _ h _ => h
theorem lenOf_foot {a : AV} {r : Nat × List Nat} (h : lenOf H a = some r) (hag : ∀ i ∈ r.2, H i = H' i) : lenOf H' a = some r := by
  unfold lenOf at h ⊢
  split at h
  · exact h
  · exact h
  · exact h
  · split at h
    · rename_i heq
      cases h
      rw [hag _ (by simp)] at heq
      simp only [heq]
    · cases h
  · split at h
    · rename_i heq
      cases h
      rw [hag _ (by simp)] at heq
      simp only [heq]
    · cases h
  · cases h
theorem evalConv_foot {d s : TypeId} {x : AV} : Foot H H' (evalConv T H k0 d s x) (evalConv T H' k0 d s x) := by
  intro cs v rd ups h hag
  unfold evalConv at h ⊢
  split at h
  · rename_i dd ds h1 h2
    split at h
    · exact h
    · exact h
    · exact h
    · split at h
      · rename_i hte heq
        split at h
        · rename_i hk
          cases h
          rw [hte, viewPV_foot heq hag]
          simp only [hk]
        · cases h
      · rename_i hte heq
        split at h
        · rename_i hk
          cases h
          rw [hte, viewPV_foot heq hag]
          simp only [hk]
        · cases h
      · cases h
    · rename_i h0 _ _
      split at h
      · rename_i hte heq
        split at h
        · rename_i hk hb
          cases h
          rw [hag _ (by simp)] at heq
          rw [hte, heq]
          simp only [hk, hb]
        · cases h
      · cases h
    · cases h
  · cases h
theorem loadCells_foot {fr : Bool} {t : TypeId} {c : List PV} {r : List Nat} {cs : List Prop} {v : Option AV} {rd : List Nat} {ups : List (Nat × Ob)} (h : loadCells T fr t c r = .ok cs v rd ups) : rd = r := by
  unfold loadCells at h
  split at h
  · split at h
    · cases h; rfl
    · split at h
      · cases h; rfl
      · cases h
  · cases h
theorem loadEl_foot {fr : Bool} {t : TypeId} {sz off : Nat} {x : PV} {r : List Nat} {cs : List Prop} {v : Option AV} {rd : List Nat} {ups : List (Nat × Ob)} (h : loadEl T fr t sz off x r = .ok cs v rd ups) : rd = r := by
  unfold loadEl at h
  split at h
  · split at h
    · split at h
      · cases h; rfl
      · exact loadCells_foot h
    · cases h
  · exact loadCells_foot h
theorem evalLoad_foot {t : TypeId} {x : AV} : Foot H H' (evalLoad T H t x) (evalLoad T H' t x) := by
  intro cs v rd ups h hag
  unfold evalLoad at h ⊢
  split at h
  · rename_i hh off
    split at h
    · rename_i c d h1 h2
      have hrd : rd = [hh] := by
        split at h
        · cases h; rfl
        · split at h
          · cases h; rfl
          · cases h
      rw [← hag hh (by simp [hrd]), h1, h2]
      exact h
    · cases h
  · exact h
  · rename_i hh i off
    split at h
    · rename_i h1
      have h' := h
      rw [withDfl_eq] at h'
      rw [← hag hh (by simp [loadEl_foot h']), h1]
      exact h
    · cases h
  · cases h
theorem evalStore_foot {t : TypeId} {x y : AV} : Foot H H' (evalStore T H t x y) (evalStore T H' t x y) := by
  intro cs v rd ups h hag
  unfold evalStore at h ⊢
  split at h
  · rename_i hh off
    split at h
    · rename_i c d h1 h2
      have hrd : rd = [hh] := by
        split at h
        · cases h; rfl
        · cases h
      rw [← hag hh (by simp [hrd]), h1, h2]
      exact h
    · cases h
  · rename_i hh i
    split at h
    · rename_i h1 h2
      have hrd : rd = [hh] := by
        split at h
        · cases h; rfl
        · cases h
      rw [← hag hh (by simp [hrd]), h1, h2]
      exact h
    · cases h
  · cases h
theorem evalFieldAddr_foot {s : TypeId} {f : Nat} {x : AV} : Foot H H' (evalFieldAddr T H s f x) (evalFieldAddr T H' s f x) := by
  intro cs v rd ups h hag
  unfold evalFieldAddr at h ⊢
  split at h
  · split at h
    · split at h
      · split at h
        · cases h
        · split at h
          · exact h
          · exact h
          · rename_i hh i off
            split at h
            · rename_i h1
              cases h
              rw [hag hh (by simp)] at h1
              simp only [h1]
            · cases h
          · cases h
      · cases h
    · cases h
  · cases h
theorem evalIndexAddr_foot {t : TypeId} {x y : AV} : Foot H H' (evalIndexAddr T H t x y) (evalIndexAddr T H' t x y) := by
  intro cs v rd ups h hag
  unfold evalIndexAddr at h ⊢
  split at h
  · split at h
    · exact h
    · rename_i e hh hk
      split at h
      · rename_i h1
        have hrd : rd = [hh] := by
          split at h
          · cases h; rfl
          · cases h
        rw [← hag hh (by simp [hrd]), h1]
        exact h
      · cases h
    · rename_i e hh off n hk
      split at h
      · rename_i h1
        have hrd : rd = [hh] := by
          split at h
          · cases h; rfl
          · cases h
        rw [← hag hh (by simp [hrd]), h1]
        exact h
      · cases h
    · cases h
  · cases h
theorem evalSlice_foot {t : TypeId} {x : AV} {lo hi : Option AV} : Foot H H' (evalSlice T H t x lo hi) (evalSlice T H' t x lo hi) := by
  intro cs v rd ups h hag
  unfold evalSlice at h ⊢
  split at h
  · split at h
    · exact h
    · exact h
    · exact h
    · rename_i e hh hk
      split at h
      · rename_i h1
        have hrd : rd = [hh] := by
          split at h
          · cases h; rfl
          · cases h
        rw [← hag hh (by simp [hrd]), h1]
        exact h
      · cases h
    · rename_i e hh off n hk
      split at h
      · rename_i h1
        have hrd : rd = [hh] := by
          split at h
          · cases h; rfl
          · cases h
        rw [← hag hh (by simp [hrd]), h1]
        exact h
      · cases h
    · cases h
  · cases h
theorem evalBuildSlice_foot {nx : Nat} {t : TypeId} {len : Nat} {parts : List (Nat × AV)} : Foot H H' (evalBuildSlice T H k0 nx t len parts) (evalBuildSlice T H' k0 nx t len parts) := by
  intro cs v rd ups h hag
  unfold evalBuildSlice at h ⊢
  split at h
  · rename_i d hd
    split at h
    · rename_i e hk
      split at h
      · rename_i de vs h1 h2
        split at h
        · rename_i fr els r h3 h4
          split at h
          · rename_i h5
            cases h
            rw [h3, viewEls_foot h4 hag]
            simp only [h5]
            rw [freeze_foot hag]
          · cases h
        · cases h
      · cases h
    · cases h
  · cases h
end
end Go.Proofs.Ytjgmlkogppibfaa.Ev
