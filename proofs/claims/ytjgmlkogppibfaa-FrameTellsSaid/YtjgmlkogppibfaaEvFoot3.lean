/- What an operation looks at: calls; all operations. No conditions. -/
import Derived.Test.YtjgmlkogppibfaaEvFoot2
namespace Go.Proofs.Ytjgmlkogppibfaa.Ev
open Go
set_option linter.unusedVariables false
set_option linter.unusedSimpArgs false

section
variable {H H' : Hp} {k0 : Nat} {T : Tab} {σ : Sg}
theorem zipMt_foot {f g : AV → AV → Mt} (hfg : ∀ a b ps fz bo, f a b = some (ps, fz, bo) → (∀ i ∈ fz ++ bo, H i = H' i) → g a b = some (ps, fz, bo)) :
    ∀ (xs ys : List AV) (ps : List Prop) (fz bo : List Nat), zipMt f xs ys = some (ps, fz, bo) → (∀ i ∈ fz ++ bo, H i = H' i) → zipMt g xs ys = some (ps, fz, bo) := by
  intro xs
  induction xs with
  | nil => intro ys ps fz bo h hag; cases ys with
    | nil => exact h
    | cons => cases h
  | cons x r ih => intro ys ps fz bo h hag; cases ys with
    | nil => cases h
    | cons y s =>
      obtain ⟨p1, f1, b1, p2, f2, b2, e1, e2, rfl, rfl, rfl⟩ := Mt.and_some h
      unfold zipMt
      rw [hfg x y p1 f1 b1 e1 fun i hi => hag i (by simp at hi ⊢; rcases hi with h | h <;> simp [h]), ih s p2 f2 b2 e2 fun i hi => hag i (by simp at hi ⊢; rcases hi with h | h <;> simp [h])]
      rfl
theorem Mt.and_foot {a b a' b' : Mt} {ps : List Prop} {fz bo : List Nat} (h : Mt.and a b = some (ps, fz, bo)) (hag : ∀ i ∈ fz ++ bo, H i = H' i)
    (ha : ∀ ps fz bo, a = some (ps, fz, bo) → (∀ i ∈ fz ++ bo, H i = H' i) → a' = some (ps, fz, bo)) (hb : ∀ ps fz bo, b = some (ps, fz, bo) → (∀ i ∈ fz ++ bo, H i = H' i) → b' = some (ps, fz, bo)) : Mt.and a' b' = some (ps, fz, bo) := by
  obtain ⟨p1, f1, b1, p2, f2, b2, e1, e2, rfl, rfl, rfl⟩ := Mt.and_some h
  rw [ha _ _ _ e1 fun i hi => hag i (by simp at hi ⊢; rcases hi with h | h <;> simp [h]), hb _ _ _ e2 fun i hi => hag i (by simp at hi ⊢; rcases hi with h | h <;> simp [h])]
  rfl
theorem mtV_foot {bor : Bool} : ∀ (n : Nat) (f a : AV) (ps : List Prop) (fz bo : List Nat), mtV σ H k0 bor n f a = some (ps, fz, bo) → (∀ i ∈ fz ++ bo, H i = H' i) → mtV σ H' k0 bor n f a = some (ps, fz, bo) := by
  intro n
  induction n with
  | zero => intro f a ps fz bo h; cases h
  | succ n ih =>
    intro f a ps fz bo h hag
    unfold mtV at h ⊢
    cases f with
    | p fr v =>
      simp only at h ⊢
      cases hv : viewPV H k0 a with
      | none => rw [hv] at h; cases h
      | some q =>
        obtain ⟨g, u, l⟩ := q
        rw [hv] at h
        have hl : ∀ i ∈ l, i ∈ fz ++ bo := by
          simp only at h
          split at h
          · cases h; exact fun i hi => by simpa using hi
          · cases h; exact fun i hi => by simpa using hi
          · cases h; exact fun i hi => by simpa using hi
        rw [viewPV_foot hv fun i hi => hag i (hl i hi)]
        exact h
    | func g x y =>
      simp only at h ⊢
      split at h
      · split at h
        · exact Mt.and_foot h hag (fun ps fz bo => zipMt_foot ih _ _ ps fz bo) (fun ps fz bo => zipMt_foot ih _ _ ps fz bo)
        · cases h
      · cases h
    | agg x =>
      simp only at h ⊢
      split at h
      · exact zipMt_foot ih _ _ _ _ _ h hag
      · cases h
    | tuple x =>
      simp only at h ⊢
      split at h
      · exact zipMt_foot ih _ _ _ _ _ h hag
      · cases h
    | _ => exact h
theorem tgt_sgIds {i h : Nat} {t : Tgt} (ht : tgt σ i = some t) (hh : t.id = some h) : h ∈ sgIds σ := sgIds_mem (tgt_mem ht) hh
theorem mtOb_foot {o : Ob} {t : Tgt} {ps : List Prop} {fz bo : List Nat} (h : mtOb σ H k0 o t = some (ps, fz, bo)) (ht : ∀ i, t.id = some i → H i = H' i) (hag : ∀ i ∈ fz ++ bo, H i = H' i) : mtOb σ H' k0 o t = some (ps, fz, bo) := by
  unfold mtOb at h ⊢
  split at h
  · rename_i cs q
    rw [← ht q rfl]
    split at h
    · exact zipMt_foot (mtV_foot 5) _ _ _ _ _ h hag
    · cases h
  · rename_i q
    rw [← ht q rfl]
    exact h
  · rename_i q n
    rw [← ht q rfl]
    exact h
  · exact h
  · rename_i q
    rw [← ht q rfl]
    exact h
  · cases h
theorem mtH_foot (hσ : ∀ i ∈ sgIds σ, H i = H' i) : ∀ {FL : List (Nat × Ob)} {ps : List Prop} {fz bo : List Nat}, mtH σ H k0 FL = some (ps, fz, bo) → (∀ i ∈ fz ++ bo, H i = H' i) → mtH σ H' k0 FL = some (ps, fz, bo)
  | [], _, _, _, h, _ => h
  | (j, o) :: r, ps, fz, bo, h, hag => by
    unfold mtH at h ⊢
    cases ht : tgt σ j with
    | none => rw [ht] at h; cases h
    | some t =>
      rw [ht] at h
      exact Mt.and_foot h hag (fun ps fz bo h1 h2 => mtOb_foot h1 (fun i hi => hσ i (tgt_sgIds ht hi)) h2) (fun ps fz bo h1 h2 => mtH_foot hσ h1 h2)
theorem chase_sub {fH : List (Nat × Ob)} : ∀ (n : Nat) (done new : Sg) (x : Nat × Tgt), x ∈ done → x ∈ chase n fH H done new
  | 0, done, new, x, h => h
  | n + 1, done, new, x, h => by
    unfold chase
    rw [fSg_eq]
    exact chase_sub n _ _ x (List.mem_append.2 (.inl h))
theorem fm_congr {α β : Type} {f g : α → List β} : ∀ (l : List α), (∀ x ∈ l, f x = g x) → l.flatMap f = l.flatMap g
  | [], _ => rfl
  | x :: r, h => by rw [List.flatMap_cons, List.flatMap_cons, h x (by simp), fm_congr r fun y hy => h y (by simp [hy])]
theorem chase_foot {fH : List (Nat × Ob)} : ∀ (n : Nat) (done new : Sg), (∀ i ∈ sgIds (chase n fH H done new), H i = H' i) → chase n fH H' done new = chase n fH H done new
  | 0, done, new, h => rfl
  | n + 1, done, new, h => by
    unfold chase at h ⊢
    rw [fSg_eq] at h ⊢
    rw [fSg_eq]
    have hnew : ∀ x ∈ new, ∀ q, x.2 = .full q → H q = H' q := by
      rintro ⟨i, t⟩ hx q rfl
      exact h q (sgIds_mem (chase_sub n _ _ _ (List.mem_append.2 (.inr hx))) rfl)
    refine (congrArg (chase n fH H' (done ++ new)) (fm_congr new fun x hx => ?_)).trans (chase_foot n _ _ h)
    obtain ⟨i, t⟩ := x
    cases t with
    | full q => simp only [hnew (i, .full q) hx q rfl]
    | trunc q m => rfl
    | nil => rfl
theorem sgUniq_sub : ∀ {l : Sg} {seen : List Nat} {x : Nat × Tgt}, x ∈ sgUniq l seen → x ∈ l
  | [], _, _, h => by cases h
  | (i, t) :: r, seen, x, h => by
    unfold sgUniq at h
    split at h
    · exact List.mem_cons_of_mem _ (sgUniq_sub h)
    · rcases List.mem_cons.1 h with h | h
      · rw [h]; exact List.mem_cons_self
      · exact List.mem_cons_of_mem _ (sgUniq_sub h)
theorem sgIds_iff {l : Sg} {h : Nat} : h ∈ sgIds l ↔ ∃ x ∈ l, x.2.id = some h := by
  constructor
  · intro hm
    unfold sgIds at hm
    obtain ⟨x, h1, h2⟩ := List.mem_flatMap.1 hm
    refine ⟨x, h1, ?_⟩
    obtain ⟨i, t⟩ := x
    cases t with
    | full q => obtain rfl := List.mem_singleton.1 h2; rfl
    | trunc q m => obtain rfl := List.mem_singleton.1 h2; rfl
    | nil => cases h2
  · rintro ⟨⟨i, t⟩, h1, h2⟩
    exact sgIds_mem h1 h2
theorem rowsOk_foot : ∀ {l : List Nat}, (∀ i ∈ l, H i = H' i) → rowsOk H' l = rowsOk H l
  | [], _ => rfl
  | i :: r, h => by
    unfold rowsOk
    rw [← h i (by simp), rowsOk_foot (l := r) fun j hj => h j (by simp [hj])]
theorem callAll_eq (c : Ctr) (H : Hp) (k0 nx : Nat) (args : List AV) (x : c.Ix) : callAll c H k0 nx args x = match callMt c x H k0 args (sgUniq (callRaw c x H args) []) with
    | some (ps, fz, bo) => callGo c x H k0 nx (callRaw c x H args) (sgUniq (callRaw c x H args) []) ps fz bo
    | none => none := by
  unfold callAll
  simp only [fSg_eq, fPs_eq, fNs_eq]
  rfl
theorem callAll_foot {c : Ctr} {nx : Nat} {args : List AV} {x : c.Ix} {ps : List Prop} {v : AV} {rd : List Nat} {ups : List (Nat × Ob)} (h : callAll c H k0 nx args x = some (ps, v, rd, ups)) (hag : ∀ i ∈ rd, H i = H' i) : callAll c H' k0 nx args x = some (ps, v, rd, ups) := by
  rw [callAll_eq] at h ⊢
  split at h
  · rename_i qs fz bo heq
    have hrd : rd = sgIds (callRaw c x H args) ++ (fz ++ bo) := by
      unfold callGo at h
      split at h <;> cases h
      rfl
    rw [hrd] at hag
    have h1 : callRaw c x H' args = callRaw c x H args := chase_foot _ _ _ fun i hi => hag i (List.mem_append.2 (.inl hi))
    have h2 : ∀ i ∈ sgIds (sgUniq (callRaw c x H args) []), H i = H' i := by
      intro i hi
      obtain ⟨y, h3, h4⟩ := sgIds_iff.1 hi
      exact hag i (List.mem_append.2 (.inl (sgIds_iff.2 ⟨y, sgUniq_sub h3, h4⟩)))
    rw [h1]
    have h3 : callMt c x H' k0 args (sgUniq (callRaw c x H args) []) = some (qs, fz, bo) :=
      Mt.and_foot heq (fun i hi => hag i (List.mem_append.2 (.inr hi))) (fun ps fz bo h1 h2 => zipMt_foot (mtV_foot 5) _ _ _ _ _ h1 h2) (fun ps fz bo h1 h4 => mtH_foot h2 h1 h4)
    rw [h3]
    simp only
    unfold callGo at h ⊢
    rw [rowsOk_foot fun i hi => hag i (List.mem_append.2 (.inr hi)), freeze_foot fun i hi => hag i (by simp [hi])]
    exact h
  · cases h

def Step.nc (s : Step) : Prop := ∀ Ix r, s ≠ .call Ix r
theorem loadCells_nc {fr : Bool} {t : TypeId} {c : List PV} {r : List Nat} : (loadCells T fr t c r).nc := by
  intro Ix f h; unfold loadCells at h; (repeat' (split at h)) <;> cases h
theorem loadEl_nc {fr : Bool} {t : TypeId} {sz off : Nat} {x : PV} {r : List Nat} : (loadEl T fr t sz off x r).nc := by
  intro Ix f h; unfold loadEl at h; (repeat' (split at h)) <;> first | cases h; done | exact loadCells_nc _ _ h
theorem evalConv_nc {d s : TypeId} {x : AV} : (evalConv T H k0 d s x).nc := by
  intro Ix f h; unfold evalConv ok1 at h; (repeat' (split at h)) <;> cases h
theorem evalLoad_nc {t : TypeId} {x : AV} : (evalLoad T H t x).nc := by
  intro Ix f h; unfold evalLoad at h; (repeat' (split at h)) <;> first | cases h; done | (rw [withDfl_eq] at h; exact loadEl_nc _ _ h) | exact loadCells_nc _ _ h
theorem evalStore_nc {t : TypeId} {x y : AV} : (evalStore T H t x y).nc := by
  intro Ix f h; unfold evalStore at h; (repeat' (split at h)) <;> cases h
theorem evalFieldAddr_nc {s : TypeId} {f : Nat} {x : AV} : (evalFieldAddr T H s f x).nc := by
  intro Ix f h; unfold evalFieldAddr ok1 at h; (repeat' (split at h)) <;> cases h
theorem evalIndexAddr_nc {t : TypeId} {x y : AV} : (evalIndexAddr T H t x y).nc := by
  intro Ix f h; unfold evalIndexAddr at h; (repeat' (split at h)) <;> first | cases h; done | (rw [withDfl_eq] at h; cases h)
theorem evalSlice_nc {t : TypeId} {x : AV} {lo hi : Option AV} : (evalSlice T H t x lo hi).nc := by
  intro Ix f h; unfold evalSlice at h; (repeat' (split at h)) <;> cases h
theorem evalBuildSlice_nc {nx : Nat} {t : TypeId} {len : Nat} {parts : List (Nat × AV)} : (evalBuildSlice T H k0 nx t len parts).nc := by
  intro Ix f h; unfold evalBuildSlice at h; (repeat' (split at h)) <;> cases h
theorem evalAppend_nc {nx : Nat} {t t2 : TypeId} {x y : AV} : (evalAppend T H k0 nx t t2 x y).nc := by
  intro Ix f h; unfold evalAppend at h; (repeat' (split at h)) <;> cases h
theorem evalCopy_nc {t t2 : TypeId} {x y : AV} : (evalCopy T H k0 t t2 x y).nc := by
  intro Ix f h; unfold evalCopy at h; (repeat' (split at h)) <;> cases h
theorem evalBuiltin_nc {nx : Nat} {b : Builtin} {ts : List TypeId} {args : List AV} : (evalBuiltin T H k0 nx b ts args).nc := by
  intro Ix f h; unfold evalBuiltin ok1 at h; (repeat' (split at h)) <;> first | cases h; done | exact evalAppend_nc _ _ h | exact evalCopy_nc _ _ h

/-- The same comes of it, or a call does. -/
def Foot2 (H H' : Hp) (s s' : Step) : Prop := (∀ cs v rd ups, s = .ok cs v rd ups → (∀ i ∈ rd, H i = H' i) → s' = .ok cs v rd ups) ∧
  ∀ Ix r, s = .call Ix r → ∃ r', s' = .call Ix r' ∧ ∀ ix ps v rd ups, r ix = some (ps, v, rd, ups) → (∀ i ∈ rd, H i = H' i) → r' ix = some (ps, v, rd, ups)
theorem Foot2.of {s s' : Step} (h : Foot H H' s s') (hn : s.nc) : Foot2 H H' s s' := ⟨h, fun Ix r hs => absurd hs (hn Ix r)⟩
theorem Foot2.refl (s : Step) : Foot2 H H' s s := ⟨fun _ _ _ _ h _ => h, fun Ix r hs => ⟨r, hs, fun _ _ _ _ _ h _ => h⟩⟩
theorem evalCall_foot {Γ : List (FuncId × Ctr)} {nx : Nat} {f : FuncId} {args : List AV} : Foot2 H H' (evalCall Γ H k0 nx f args) (evalCall Γ H' k0 nx f args) := by
  unfold evalCall
  split
  · refine ⟨fun cs v rd ups h => (by cases h), fun Ix r h => ?_⟩
    cases h
    exact ⟨_, rfl, fun ix ps v rd ups h hag => callAll_foot h hag⟩
  · exact Foot2.refl _
theorem evalOp_foot {Γ : List (FuncId × Ctr)} {o : Oper} {e : Env} {nx : Nat} (hd : ∀ c rd, evalOp Γ T k0 o e H nx ≠ .dem c rd) : Foot2 H H' (evalOp Γ T k0 o e H nx) (evalOp Γ T k0 o e H' nx) := by
  have hbin : ∀ {op : BinOp} {t : TypeId} {a : AV}, (∀ c rd, evalNil T H op t a ≠ .dem c rd) → Foot2 H H' (evalNil T H op t a) (evalNil T H' op t a) := by
    intro op t a hn
    cases hq : evalNil T H op t a with
    | bad => exact ⟨fun cs v rd ups h => by (cases h), fun Ix r h => by (cases h)⟩
    | dem c rd => exact absurd hq (hn c rd)
    | ok cs v rd ups => unfold evalNil at hq; (repeat' (split at hq)) <;> cases hq
    | call Ix r => unfold evalNil at hq; (repeat' (split at hq)) <;> cases hq
  obtain ⟨dst, op, type, pos, after, guard⟩ := o
  unfold evalOp at hd ⊢
  cases op <;> simp only at hd ⊢ <;> try exact Foot2.refl _
  case makeFunc f a b => cases f <;> exact Foot2.refl _
  case buildSlice t n ps => split <;> first | exact Foot2.of evalBuildSlice_foot evalBuildSlice_nc | exact Foot2.refl _
  case load t a => split <;> first | exact Foot2.of evalLoad_foot evalLoad_nc | exact Foot2.refl _
  case store t a x => split <;> first | exact Foot2.of evalStore_foot evalStore_nc | exact Foot2.refl _
  case binOp op t x y p =>
    split
    · rename_i hc
      rw [hc] at hd
      split
      · rename_i h1
        simp only [h1] at hd
        exact hbin hd
      · exact Foot2.refl _
    · exact Foot2.refl _
  case convert s d x => split <;> first | exact Foot2.of evalConv_foot evalConv_nc | exact Foot2.refl _
  case slice t x lo hi mx =>
    cases mx <;> simp only <;> try exact Foot2.refl _
    split
    · cases lo <;> cases hi <;> simp only
      · exact Foot2.of evalSlice_foot evalSlice_nc
      · split <;> first | exact Foot2.of evalSlice_foot evalSlice_nc | exact Foot2.refl _
      · split <;> first | exact Foot2.of evalSlice_foot evalSlice_nc | exact Foot2.refl _
      · split <;> first | exact Foot2.of evalSlice_foot evalSlice_nc | exact Foot2.refl _
    · exact Foot2.refl _
  case fieldAddr s x f => split <;> first | exact Foot2.of evalFieldAddr_foot evalFieldAddr_nc | exact Foot2.refl _
  case indexAddr t x ix => split <;> first | exact Foot2.of evalIndexAddr_foot evalIndexAddr_nc | exact Foot2.refl _
  case call c =>
    split
    · split <;> first | exact Foot2.of evalBuiltin_foot evalBuiltin_nc | exact Foot2.refl _
    · split <;> first | exact evalCall_foot | exact Foot2.refl _
    · exact Foot2.refl _

theorem OutOk.foot {Γ : List (FuncId × Ctr)} {o : Oper} {e e' : Env} {nx : Nat} {out : Out} (h : OutOk Γ T k0 o e H nx out) (hd : ∀ c rd, evalOp Γ T k0 o e H nx ≠ .dem c rd) (he : ∀ x ∈ o.op.operands, evalR e x = evalR e' x) (hag : ∀ i ∈ out.rd, H i = H' i) :
    OutOk Γ T k0 o e' H' nx out ∧ ∀ c rd, evalOp Γ T k0 o e' H' nx ≠ .dem c rd := by
  have hf := evalOp_foot (H' := H') hd
  unfold OutOk at h ⊢
  rw [← evalOp_env he]
  cases hs : evalOp Γ T k0 o e H nx with
  | bad => rw [hs] at h; exact h.elim
  | ok cs v rd ups =>
    rw [hs] at h hf
    obtain ⟨h1, rfl⟩ := h
    rw [hf.1 _ _ _ _ rfl hag]
    exact ⟨⟨h1, rfl⟩, fun c rd h => by cases h⟩
  | dem c rd => exact absurd hs (hd c rd)
  | call Ix r =>
    rw [hs] at h hf
    obtain ⟨ix, ps, h1, h2⟩ := h
    obtain ⟨r', h3, h4⟩ := hf.2 _ _ rfl
    rw [h3]
    exact ⟨⟨ix, ps, h4 _ _ _ _ _ h1 hag, h2⟩, fun c rd h => by cases h⟩
end
end Go.Proofs.Ytjgmlkogppibfaa.Ev
