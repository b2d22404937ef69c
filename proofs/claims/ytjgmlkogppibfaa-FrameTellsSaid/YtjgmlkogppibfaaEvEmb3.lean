/- One state stands within another: what holds of the one holds of the other. No conditions. -/
import Derived.Test.YtjgmlkogppibfaaEvAw
namespace Go.Proofs.Ytjgmlkogppibfaa.Ev
open Go
set_option linter.unusedVariables false
set_option linter.unusedSimpArgs false
section
variable {x : Cx} {P : Program} {Γ : List (FuncId × Ctr)} {T : Tab} {H : Hp} {a : Act} {w : World}

theorem Mt.fst_some {σ : Sg} {s : St} {k0 : Nat} {S : St} {ps : List Prop} {fz bo : List Nat} (h : embMt S s k0 σ = some (ps, fz, bo)) :
    ∃ p1 f1 b1 p2 f2 b2, embMtE σ s k0 S.env = some (p1, f1, b1) ∧ mtH σ (look s.heap) k0 S.heap = some (p2, f2, b2) ∧ ps = p1 ++ p2 ∧ fz = f1 ++ f2 ∧ bo = b1 ++ b2 := Mt.and_some h
theorem zipMt_noBo {σ : Sg} {H : Hp} {k0 n : Nat} : ∀ (xs ys : List AV) {ps : List Prop} {fz bo : List Nat}, zipMt (mtV σ H k0 false n) xs ys = some (ps, fz, bo) → bo = [] := by
  intro xs
  induction xs with
  | nil => intro ys ps fz bo h; cases ys with
    | nil => cases h; rfl
    | cons => cases h
  | cons x r ihl => intro ys ps fz bo h; cases ys with
    | nil => cases h
    | cons y s =>
      obtain ⟨p1, f1, b1, p2, f2, b2, e1, e2, rfl, rfl, rfl⟩ := Mt.and_some h
      rw [mtV_noBo n x y e1, ihl s e2]
      rfl
theorem mtOb_noBo {σ : Sg} {H : Hp} {k0 : Nat} {o : Ob} {t : Tgt} {ps : List Prop} {fz bo : List Nat} (h : mtOb σ H k0 o t = some (ps, fz, bo)) : bo = [] := by
  unfold mtOb at h
  split at h
  · split at h
    · exact zipMt_noBo _ _ h
    · cases h
  · split at h
    · split at h
      · split at h <;> (cases h; rfl)
      · cases h
    · cases h
  · split at h
    · split at h
      · split at h <;> (cases h; rfl)
      · cases h
    · cases h
  · split at h <;> cases h
    rfl
  · split at h <;> cases h
    rfl
  · cases h
theorem mtH_noBo {σ : Sg} {H : Hp} {k0 : Nat} : ∀ {FL : List (Nat × Ob)} {ps : List Prop} {fz bo : List Nat}, mtH σ H k0 FL = some (ps, fz, bo) → bo = []
  | [], ps, fz, bo, h => by cases h; rfl
  | (i, o) :: r, ps, fz, bo, h => by
    unfold mtH at h
    split at h
    · obtain ⟨p1, f1, b1, p2, f2, b2, e1, e2, rfl, rfl, rfl⟩ := Mt.and_some h
      rw [mtOb_noBo e1, mtH_noBo e2]
      rfl
    · cases h
theorem embMtE_noBo {σ : Sg} {s : St} {k0 : Nat} : ∀ {E : List (Nat × AV)} {ps : List Prop} {fz bo : List Nat}, embMtE σ s k0 E = some (ps, fz, bo) → bo = []
  | [], ps, fz, bo, h => by cases h; rfl
  | (t, f) :: r, ps, fz, bo, h => by
    unfold embMtE at h
    split at h
    · obtain ⟨p1, f1, b1, p2, f2, b2, e1, e2, rfl, rfl, rfl⟩ := Mt.and_some h
      rw [mtV_noBo _ _ _ e1, embMtE_noBo e2]
      rfl
    · cases h

/-- What an embedding's checks say. -/
theorem emb_parts {full : Bool} {k0 : Nat} {S s : St} (h : emb full k0 S s) : ∃ σ p1 f1 p2 f2,
    embMtE σ s k0 S.env = some (p1, f1, []) ∧ mtH σ (look s.heap) k0 S.heap = some (p2, f2, []) ∧ allP p1 ∧ allP p2 ∧
    disj (sgIds σ) (f1 ++ f2) = true ∧ nodup (sgIds σ) = true ∧ sgIn (ids S.heap) σ = true ∧ rowsOk (look s.heap) (f1 ++ f2) = true ∧ lentSame k0 σ = true ∧ allBelow S.nx (ids S.heap) = true ∧ nodup (ids S.heap) = true ∧ k0 ≤ S.nx ∧ (full = true → allIds (ids S.heap) k0 = true) := by
  unfold emb at h
  rw [fSg_eq] at h
  generalize embSg S s k0 = σ at h
  cases hm : embMt S s k0 σ with
  | none => rw [hm] at h; exact h.elim
  | some y =>
    obtain ⟨ps, fz, bo⟩ := y
    rw [hm] at h
    simp only [fPs_eq, fNs_eq] at h
    split at h
    · rename_i hb
      simp only [Bool.and_eq_true] at hb
      obtain ⟨⟨⟨⟨⟨⟨⟨⟨⟨q1, q2⟩, q3⟩, q4⟩, q5⟩, q6⟩, q7⟩, q8⟩, q9⟩, q10⟩ := hb
      obtain ⟨p1, f1, b1, p2, f2, b2, e1, e2, rfl, rfl, rfl⟩ := Mt.fst_some hm
      obtain rfl := embMtE_noBo e1
      obtain rfl := mtH_noBo e2
      obtain ⟨hp1, hp2⟩ := allP_append h
      refine ⟨σ, p1, f1, p2, f2, e1, e2, hp1, hp2, q1, q2, q4, q5, q6, q7, q8, Nat.le_of_ble_eq_true q9, fun hf => ?_⟩
      subst hf
      simpa using q10
    · exact h.elim

theorem emb_core {full : Bool} {k0 : Nat} {S s : St} (h : emb full k0 S s) {F1 F2 : Nat → Prop} {ρ : Nat → Option (Nat × Nat)} (hh : HeapR k0 w F1 F2 ρ (look s.heap)) : ∃ σ l,
    (∀ i t, tgt σ i = some t → ∃ o, look S.heap i = some o ∧ ObM (look s.heap) o t) ∧ (∀ kf, HeapR kf w (G1of F1 ρ (look s.heap) l) (G2of k0 F2 ρ (look s.heap) l) (rhoOf σ ρ) (look S.heap)) ∧
    (∀ t f, (t, f) ∈ S.env → ∃ v, look s.env t = some v ∧ ∀ c, AVR w F1 F2 ρ (look s.heap) v c → AVR w (G1of F1 ρ (look s.heap) l) (G2of k0 F2 ρ (look s.heap) l) (rhoOf σ ρ) (look S.heap) f c) ∧
    rowsOk (look s.heap) l = true ∧ lentSame k0 σ = true ∧ allBelow S.nx (ids S.heap) = true ∧ nodup (ids S.heap) = true ∧ k0 ≤ S.nx ∧ (∀ i o, look S.heap i = some o → ∃ t, tgt σ i = some t) ∧ (full = true → ∀ i, i < k0 → ∃ o, look S.heap i = some o ∧ ∃ t, tgt σ i = some t) := by
  obtain ⟨σ, p1, f1, p2, f2, e1, e2, hp1, hp2, q1, q2, q4, q5, q6, q7, q8, q9, q10⟩ := emb_parts h
  refine ⟨σ, f1 ++ f2, ?_⟩
  have hform := fun kf => HeapR.formal (kf := kf) hh e2 hp2 (l := f1 ++ f2) (l2 := f1 ++ f2) (fun h hm => List.mem_append.2 (.inr (by simpa using hm))) (fun h hm => List.mem_append.2 (.inr hm)) (fun h hm => hm) q1 q2 q4 q5 q8 (fun _ _ => trivial) (bor := false)
  have hf := (hform 0).1
  have hrb : ∀ h ∈ f1 ++ f2, ∀ b cp, ρ h = some (b, cp) → RowB ρ (look s.heap) h b := by
    intro h hm b cp hr
    obtain ⟨e, sz, fr, fz, els, hH⟩ := rowsOk_ok q5 h hm
    exact ⟨e, sz, fr, fz, els, cp, hH, hr⟩
  refine ⟨hf, fun kf => (hform kf).2, fun t f hm => ?_, q5, q6, q7, q8, q9, fun i o ho => ?_, fun hfull i hi => ?_⟩
  · obtain ⟨v, ps', fz', bo', r1, r2, r3, r4, r5⟩ := embMtE_ok e1 hp1 t f hm
    obtain rfl := mtV_noBo _ _ _ r2
    refine ⟨v, r1, fun c hc => ?_⟩
    exact mtV_ok hh hf (fun b h => .inl h) (fun b h => .inl h) false 5 f v c ps' fz' [] r2 r3 hc
      (fun h hm b cp hr => .inr ⟨h, by simp [r4 h (by simpa using hm)], hrb h (by simp [r4 h (by simpa using hm)]) b cp hr⟩)
      (fun h hm hk b cp hr => .inr ⟨h, by simp [r4 h hm], hk, hrb h (by simp [r4 h hm]) b cp hr⟩)
  · obtain ⟨t, _, _, _, ht, _⟩ := mtH_ok e2 hp2 i o (look_mem ho)
    exact ⟨t, ht⟩
  · have := allIds_ok (q10 hfull) i hi
    obtain ⟨o, ho⟩ := mem_ids.1 this
    obtain ⟨t, _, _, _, ht, _⟩ := mtH_ok e2 hp2 i o ho
    exact ⟨o, look_of_mem q8 ho, t, ht⟩

theorem ObM.target {H : Hp} {o : Ob} {t : Tgt} {h : Nat} (hm : ObM H o t) (ht : t.id = some h) : ∃ o', H h = some o' := by
  cases t with
  | full q =>
    obtain rfl := Option.some.inj ht
    cases o with
    | box cs => obtain ⟨ds, hH⟩ := hm; exact ⟨_, hH⟩
    | row e sz fr fz els => obtain ⟨_, fr', hH, _⟩ := hm; exact ⟨_, hH⟩
    | gone => exact hm
  | trunc q n =>
    obtain rfl := Option.some.inj ht
    cases o with
    | row e sz fr fz els => obtain ⟨_, fr', els', hH, _⟩ := hm; exact ⟨_, hH⟩
    | box => exact hm.elim
    | gone => exact hm.elim
  | nil => cases ht
theorem emb_sound (hx : CxOk x) {S s : St} (h : emb true x.k0 S s) (hr : Rel x (look s.env) (look s.heap) a w) : Rel x (look S.env) (look S.heap) a w ∧ S.fresh := by
  obtain ⟨h1, h2, F1, F2, ρ, hc, he⟩ := hr
  obtain ⟨σ, l, hf, hheap, henv, hrows, hls, hbel, hnd, hkn, htg, hall⟩ := emb_core h hc.heap
  have hrow : ∀ h ∈ l, ∀ b, RowB ρ (look s.heap) h b → x.own b := by
    rintro h hm b ⟨e, sz, fr, fz, els, c, ho, hr⟩
    exact hc.own h _ b c ho hr
  refine ⟨⟨h1, h2, _, _, _, ⟨hheap x.k0, hc.os, hc.tape, hc.output, hc.size, hc.wr, hc.blk, fun h o b c ho hr => ?_, fun h o ho => ?_, fun b hb => .inl (hc.f1 b hb), fun b hb => ?_, fun b hb => .inl (hc.f2 b hb), fun b hb => ?_⟩, fun t f ht => ?_⟩, fun i hi => ?_⟩
  · obtain ⟨t, h', q1, q2, q3⟩ := rhoOf_some hr
    obtain ⟨o1, ho1, hm⟩ := hf h t q1
    obtain ⟨o', ho'⟩ := hm.target q2
    exact hc.own h' o' b c ho' q3
  · have hlt := hx.dom h o ho
    obtain ⟨o', ho', t, ht⟩ := hall rfl h hlt
    obtain rfl := (lentSame_ok hls h t (tgt_mem ht)).1 hlt
    refine ⟨?_, o', ho'⟩
    unfold rhoOf
    rw [ht]
    exact (hc.old h o ho).1
  · rcases hb with hb | ⟨h, hm, hr⟩
    · exact hc.g1 b hb
    · exact .inr (hrow h hm b hr)
  · rcases hb with hb | ⟨h, hm, hk, hr⟩
    · exact hc.g2 b hb
    · exact .inr (hrow h hm b hr)
  · obtain ⟨v, hv, hav⟩ := henv t f (look_mem ht)
    exact hav _ (he t v hv)
  · cases hl : look S.heap i with
    | none => rfl
    | some o =>
      have := allBelow_ok hbel i (mem_ids.2 ⟨o, look_mem hl⟩)
      omega
end
end Go.Proofs.Ytjgmlkogppibfaa.Ev
