/- One state stands within another: memory. No conditions. -/
import Derived.Test.YtjgmlkogppibfaaEvEmb
namespace Go.Proofs.Ytjgmlkogppibfaa.Ev
open Go
set_option linter.unusedVariables false
set_option linter.unusedSimpArgs false

theorem memN_iff {l : List Nat} {k : Nat} : memN l k = true ↔ k ∈ l := by
  induction l with
  | nil => simp [memN]
  | cons i r ih =>
    simp only [memN, Bool.or_eq_true, ih, List.mem_cons]
    constructor
    · rintro (h | h)
      · exact .inl (Nat.eq_of_beq_eq_true h).symm
      · exact .inr h
    · rintro (h | h)
      · subst h; exact .inl (by simp)
      · exact .inr h
theorem disj_iff {a b : List Nat} : disj a b = true ↔ ∀ i ∈ a, i ∉ b := by
  induction a with
  | nil => simp [disj]
  | cons i r ih =>
    simp only [disj, Bool.and_eq_true, Bool.not_eq_true', ih, List.mem_cons, forall_eq_or_imp]
    rw [← Bool.not_eq_true, memN_iff]
theorem nodup_cons {i : Nat} {r : List Nat} (h : nodup (i :: r) = true) : i ∉ r ∧ nodup r = true := by
  simp only [nodup, Bool.and_eq_true, Bool.not_eq_true'] at h
  refine ⟨fun hm => ?_, h.2⟩
  rw [memN_iff.2 hm] at h
  exact absurd h.1 (by simp)
theorem look_of_mem {α : Type _} : ∀ {l : List (Nat × α)} {i : Nat} {v : α}, nodup (ids l) = true → (i, v) ∈ l → look l i = some v
  | [], _, _, _, h => by cases h
  | (j, u) :: r, i, v, hn, h => by
    obtain ⟨h1, h2⟩ := nodup_cons hn
    rcases List.mem_cons.1 h with he | he
    · obtain ⟨rfl, rfl⟩ := Prod.mk.inj he
      exact look_cons_same _ _ _
    · have : j ≠ i := by
        intro hji
        subst hji
        apply h1
        clear h2 hn h h1
        induction r with
        | nil => cases he
        | cons x s ih =>
          obtain ⟨k, y⟩ := x
          rcases List.mem_cons.1 he with h3 | h3
          · obtain ⟨rfl, rfl⟩ := Prod.mk.inj h3
            simp [ids]
          · simp only [ids, List.mem_cons]
            exact .inr (ih h3)
      rw [look_cons_ne _ _ this]
      exact look_of_mem h2 he
theorem mem_ids {α : Type _} {l : List (Nat × α)} {i : Nat} : i ∈ ids l ↔ ∃ v, (i, v) ∈ l := by
  induction l with
  | nil => simp [ids]
  | cons x r ih =>
    obtain ⟨j, u⟩ := x
    simp only [ids, List.mem_cons, ih, Prod.mk.injEq]
    constructor
    · rintro (rfl | ⟨v, h⟩)
      · exact ⟨u, .inl ⟨rfl, rfl⟩⟩
      · exact ⟨v, .inr h⟩
    · rintro ⟨v, ⟨rfl, _⟩ | h⟩
      · exact .inl rfl
      · exact .inr ⟨v, h⟩
theorem sgIn_ok {l : List Nat} : ∀ {σ : Sg}, sgIn l σ = true → ∀ i t, (i, t) ∈ σ → i ∈ l
  | [], _, i, t, h => by cases h
  | (j, u) :: r, hs, i, t, h => by
    simp only [sgIn, Bool.and_eq_true] at hs
    rcases List.mem_cons.1 h with he | he
    · obtain ⟨rfl, rfl⟩ := Prod.mk.inj he
      exact memN_iff.1 hs.1
    · exact sgIn_ok hs.2 i t he
theorem sgIds_mem {σ : Sg} {i h : Nat} {t : Tgt} (hm : (i, t) ∈ σ) (ht : t.id = some h) : h ∈ sgIds σ := by
  unfold sgIds
  rw [List.mem_flatMap]
  refine ⟨(i, t), hm, ?_⟩
  cases t with
  | full q => obtain rfl := Option.some.inj ht; simp
  | trunc q n => obtain rfl := Option.some.inj ht; simp
  | nil => cases ht
theorem sg_inj : ∀ {σ : Sg}, nodup (sgIds σ) = true → ∀ {i j h : Nat} {t u : Tgt}, (i, t) ∈ σ → (j, u) ∈ σ → t.id = some h → u.id = some h → (i, t) = (j, u)
  | [], _, i, j, h, t, u, h1, _, _, _ => by cases h1
  | x :: r, hn, i, j, h, t, u, h1, h2, h3, h4 => by
    have hsplit : sgIds (x :: r) = (match x.2 with | .full h => [h] | .trunc h _ => [h] | .nil => []) ++ sgIds r := by
      unfold sgIds
      rw [List.flatMap_cons]
      rfl
    have hhead : ∀ {k : Nat} {s : Tgt}, (k, s) = x → s.id = some h → h ∉ sgIds r ∧ nodup (sgIds r) = true := by
      intro k s he hs
      subst he
      rw [hsplit] at hn
      cases s with
      | full q => obtain rfl := Option.some.inj hs; exact nodup_cons hn
      | trunc q n => obtain rfl := Option.some.inj hs; exact nodup_cons hn
      | nil => cases hs
    have htail : nodup (sgIds r) = true := by
      rw [hsplit] at hn
      obtain ⟨k, s⟩ := x
      cases s with
      | full q => exact (nodup_cons hn).2
      | trunc q n => exact (nodup_cons hn).2
      | nil => exact hn
    rcases List.mem_cons.1 h1 with e1 | e1
    · rcases List.mem_cons.1 h2 with e2 | e2
      · rw [e1, e2]
      · exact absurd (sgIds_mem e2 h4) (hhead e1 h3).1
    · rcases List.mem_cons.1 h2 with e2 | e2
      · exact absurd (sgIds_mem e1 h3) (hhead e2 h4).1
      · exact sg_inj htail e1 e2 h3 h4
theorem rowsOk_ok {H : Hp} : ∀ {l : List Nat}, rowsOk H l = true → ∀ h ∈ l, ∃ e sz fr fz els, H h = some (.row e sz fr fz els)
  | [], _, h, hm => by cases hm
  | q :: r, hr, h, hm => by
    simp only [rowsOk, Bool.and_eq_true] at hr
    rcases List.mem_cons.1 hm with he | he
    · subst he
      have h1 := hr.1
      split at h1
      · rename_i e sz fr fz els hH
        exact ⟨e, sz, fr, fz, els, hH⟩
      · cases h1
    · exact rowsOk_ok hr.2 h he

section
variable {k0 kf : Nat} {w : World} {F1 F2 : Nat → Prop} {ρ : Nat → Option (Nat × Nat)} {H : Hp} {σ : Sg} {FL : List (Nat × Ob)}

/-- What lies still, with these rows. -/
def G1of (F1 : Nat → Prop) (ρ : Nat → Option (Nat × Nat)) (H : Hp) (l : List Nat) (b : Nat) : Prop := F1 b ∨ ∃ h ∈ l, RowB ρ H h b
def G2of (k0 : Nat) (F2 : Nat → Prop) (ρ : Nat → Option (Nat × Nat)) (H : Hp) (l : List Nat) (b : Nat) : Prop := F2 b ∨ ∃ h ∈ l, k0 ≤ h ∧ RowB ρ H h b

theorem tgt_mem {i : Nat} {t : Tgt} (h : tgt σ i = some t) : (i, t) ∈ σ := look_mem h
theorem ObM.live_target {o : Ob} {t : Tgt} (h : ObM H o t) (hl : o.live) {h' : Nat} (ht : t.id = some h') : ∃ q, H h' = some q ∧ q.live := by
  cases t with
  | full q =>
    obtain rfl := Option.some.inj ht
    cases o with
    | box cs => obtain ⟨ds, hH⟩ := h; exact ⟨_, hH, trivial⟩
    | row e sz fr fz els => obtain ⟨_, fr', hH, _⟩ := h; exact ⟨_, hH, rfl⟩
    | gone => cases hl
  | trunc q n =>
    obtain rfl := Option.some.inj ht
    cases o with
    | row e sz fr fz els => obtain ⟨_, fr', els', hH, _⟩ := h; exact ⟨_, hH, rfl⟩
    | box => exact h.elim
    | gone => cases hl
  | nil => cases ht
theorem rhoOf_some {i b c : Nat} (h : rhoOf σ ρ i = some (b, c)) : ∃ t h', tgt σ i = some t ∧ t.id = some h' ∧ ρ h' = some (b, c) := by
  unfold rhoOf at h
  cases ht : tgt σ i with
  | none => rw [ht] at h; cases h
  | some t =>
    rw [ht] at h
    cases t with
    | full q => exact ⟨_, q, rfl, rfl, h⟩
    | trunc q n => exact ⟨_, q, rfl, rfl, h⟩
    | nil => cases h
theorem HeapR.formal (hh : HeapR k0 w F1 F2 ρ H) {bor : Bool} {ps : List Prop} {fz bo : List Nat} {l : List Nat} (hmt : mtH σ H k0 FL = some (ps, fz, bo)) (hp : allP ps) (hfl : ∀ h ∈ fz ++ bo, h ∈ l) {l2 : List Nat} (hl2 : ∀ h ∈ fz, h ∈ l2) (hl12 : ∀ h ∈ l2, h ∈ l)
    (hdj : disj (sgIds σ) l = true) (hnd : nodup (sgIds σ) = true) (hin : sgIn (ids FL) σ = true) (hrows : rowsOk H l = true) (hndF : nodup (ids FL) = true) (hkf : ∀ h, k0 ≤ h → True) :
    (∀ i t, tgt σ i = some t → ∃ o, look FL i = some o ∧ ObM H o t) ∧ HeapR kf w (G1of F1 ρ H l) (G2of k0 F2 ρ H l2) (rhoOf σ ρ) (look FL) := by
  have hf : ∀ i t, tgt σ i = some t → ∃ o, look FL i = some o ∧ ObM H o t := by
    intro i t ht
    obtain ⟨o, ho⟩ := mem_ids.1 (sgIn_ok hin i t (tgt_mem ht))
    obtain ⟨t', ps', fz', bo', h1, h2, h3, _, _⟩ := mtH_ok hmt hp i o ho
    rw [ht] at h1
    obtain rfl := Option.some.inj h1
    exact ⟨o, look_of_mem hndF ho, (mtOb_ok h2 h3).1⟩
  have hrb : ∀ h ∈ l, ∀ b cp, ρ h = some (b, cp) → RowB ρ H h b := by
    intro h hm b cp hr
    obtain ⟨e, sz, fr, fz, els, hH⟩ := rowsOk_ok hrows h hm
    exact ⟨e, sz, fr, fz, els, cp, hH, hr⟩
  have hrow : ∀ h b, RowB ρ H h b → F1 b ∨ LiveB ρ H b := by
    rintro h b ⟨e, sz, fr, fz, els, c, ho, hr⟩
    cases fz with
    | false => exact .inr ⟨h, _, c, ho, rfl, hr⟩
    | true =>
      obtain ⟨_, _, h3⟩ := hh.row ho
      rw [hr] at h3
      obtain ⟨cur, _, _, _, _, _, h4⟩ := h3
      exact .inl (h4 rfl).1
  have hflag : ∀ {fr fr' : Bool} {els : List PV}, (fr = true → fr' = true ∨ ∀ v ∈ els, v.isFlat) → ∀ (i : Nat) (v : PV) (c : Value), (flat els)[i]? = some v → PVR w (flagF fr' F1 F2) v c → PVR w (flagF fr (G1of F1 ρ H l) (G2of k0 F2 ρ H l2)) v c := by
    intro fr fr' els hq i v c hi hv
    cases fr with
    | true =>
      rcases hq rfl with hq | hq
      · subst hq
        exact hv.mono (fun _ _ => rfl) (fun b hb => .inl hb)
      · exact hv.flat (flat_flat hq i v hi)
    | false => exact hv.mono (fun _ _ => rfl) (fun b hb => .inl (flagF_sub hh.sub fr' b hb))
  refine ⟨hf, fun i o ho => ?_, fun i i' o o' b c c' ho ho' hl hl' hd hr hr' => ?_, fun i o b c ho hl hr => ?_, fun b hb => ?_, fun b hb => ?_⟩
  · obtain ⟨t, ps', fz', bo', h1, h2, h3, h4, h5⟩ := mtH_ok hmt hp i o (look_mem ho)
    obtain ⟨hm, hbox⟩ := mtOb_ok h2 h3
    cases t with
    | full q =>
      have hρ : rhoOf σ ρ i = ρ q := by unfold rhoOf; rw [h1]
      cases o with
      | box cs =>
        obtain ⟨ds, hH, hz⟩ := hbox cs q rfl rfl
        obtain ⟨b, cp, cur, ty, q1, q2, q3, q4⟩ := hh.obj q _ hH
        obtain ⟨r1, r2⟩ := mtVs_ok (G1 := G1of F1 ρ H l) (G2 := G2of k0 F2 ρ H l2) hh hf (fun b h => .inl h) (fun b h => .inl h) false 5 cs ds (fun i => cur.getD i undef) ps' fz' bo' hz h3 q4
          (fun h hm' b cp hr => .inr ⟨h, hfl h (by rcases List.mem_append.1 hm' with h' | h' <;> simp [h4, h5, h']), hrb h (hfl h (by rcases List.mem_append.1 hm' with h' | h' <;> simp [h4, h5, h'])) b cp hr⟩)
          (fun h hm' hk b cp hr => .inr ⟨h, hl2 h (h4 h hm'), hk, hrb h (hfl h (by simp [h4 h hm'])) b cp hr⟩)
        exact ⟨b, cp, cur, ty, by rw [hρ]; exact q1, q2, by omega, r2⟩
      | row e sz fr fz0 els =>
        obtain ⟨rfl, fr', hH, hfr⟩ := hm
        obtain ⟨q1, q2, q3⟩ := hh.row hH
        refine ⟨q1, q2, ?_⟩
        rw [hρ]
        cases hρq : ρ q with
        | none => rw [hρq] at q3; exact q3
        | some gc =>
          obtain ⟨g, cap⟩ := gc
          rw [hρq] at q3
          obtain ⟨cur, r1, r2, r3, r4, r5, _⟩ := q3
          exact ⟨cur, r1, r2, r3, r4, fun j v hj => hflag hfr j v _ hj (r5 j v hj), fun h => by cases h⟩
      | gone => trivial
    | trunc q n =>
      have hρ : rhoOf σ ρ i = ρ q := by unfold rhoOf; rw [h1]
      cases o with
      | box => exact hm.elim
      | gone => exact hm.elim
      | row e sz fr fz0 els =>
        obtain ⟨rfl, fr', els', hH, hfr, rfl, hle⟩ := hm
        obtain ⟨q1, q2, q3⟩ := hh.row hH
        refine ⟨q1, fun x hx => q2 x (List.mem_of_mem_take hx), ?_⟩
        rw [hρ]
        cases hρq : ρ q with
        | none =>
          rw [hρq] at q3
          simp only at q3
          subst q3
          simp
        | some gc =>
          obtain ⟨g, cap⟩ := gc
          rw [hρq] at q3
          obtain ⟨cur, r1, r2, r3, r4, r5, _⟩ := q3
          refine ⟨cur, r1, by simp; omega, r3, r4, fun j v hj => ?_, fun h => by cases h⟩
          rw [flat_take q2, List.getElem?_take] at hj
          split at hj
          · exact hflag hfr j v _ hj (r5 j v hj)
          · cases hj
    | nil =>
      have hρ : rhoOf σ ρ i = none := by unfold rhoOf; rw [h1]
      cases o with
      | box => exact hm.elim
      | gone => exact hm.elim
      | row e sz fr fz0 els =>
        obtain ⟨rfl, hsz, rfl⟩ := hm
        refine ⟨hsz, fun x hx => absurd hx (by simp), ?_⟩
        rw [hρ]
  · obtain ⟨t, q, h1, h2, h3⟩ := rhoOf_some hr
    obtain ⟨t', q', h1', h2', h3'⟩ := rhoOf_some hr'
    obtain ⟨o1, ho1, hm1⟩ := hf i t h1
    obtain ⟨o2, ho2, hm2⟩ := hf i' t' h1'
    rw [ho] at ho1
    rw [ho'] at ho2
    obtain rfl := Option.some.inj ho1
    obtain rfl := Option.some.inj ho2
    obtain ⟨x1, hx1, hxl1⟩ := hm1.live_target hl h2
    obtain ⟨x2, hx2, hxl2⟩ := hm2.live_target hl' h2'
    by_cases hqq : q = q'
    · subst hqq
      have := sg_inj hnd (tgt_mem h1) (tgt_mem h1') h2 h2'
      exact hd (Prod.mk.inj this).1
    · exact hh.sep q q' x1 x2 b c c' hx1 hx2 hxl1 hxl2 hqq h3 h3'
  · obtain ⟨t, q, h1, h2, h3⟩ := rhoOf_some hr
    obtain ⟨o1, ho1, hm1⟩ := hf i t h1
    rw [ho] at ho1
    obtain rfl := Option.some.inj ho1
    obtain ⟨x1, hx1, hxl1⟩ := hm1.live_target hl h2
    rintro (h4 | ⟨h', hm', e, sz, fr, fz', els, c', hH', hr'⟩)
    · exact hh.off q x1 b c hx1 hxl1 h3 h4
    · have hne : q ≠ h' := fun he => by subst he; exact disj_iff.1 hdj q (sgIds_mem (tgt_mem h1) h2) hm'
      cases fz' with
      | false => exact hh.sep q h' x1 _ b c c' hx1 hH' hxl1 rfl hne h3 hr'
      | true =>
        obtain ⟨_, _, q3⟩ := hh.row hH'
        rw [hr'] at q3
        obtain ⟨cur, _, _, _, _, _, q4⟩ := q3
        exact hh.off q x1 b c hx1 hxl1 h3 (q4 rfl).1
  · rcases hb with hb | ⟨h, hm, hk, hr⟩
    · exact .inl (hh.sub b hb)
    · exact .inr ⟨h, hl12 h hm, hr⟩
  · rcases hb with hb | ⟨h, hm, hr⟩
    · exact hh.lt b hb
    · rcases hrow h b hr with h1 | ⟨h', o, c, h1, h2, h3⟩
      · exact hh.lt b h1
      · exact hh.blk_lt h1 h2 h3
end
end Go.Proofs.Ytjgmlkogppibfaa.Ev
