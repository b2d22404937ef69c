/- What each operation of the program comes to is what the reckoner says: rows that are written. No conditions. -/
import Derived.Test.YtjgmlkogppibfaaEvMake2
namespace Go.Proofs.Ytjgmlkogppibfaa.Ev
open Go
set_option linter.unusedVariables false
set_option linter.unusedSimpArgs false
section
variable {P : Program} {T : Tab} {k0 : Nat} {w : World} {F1 F2 : Nat → Prop} {ρ : Nat → Option (Nat × Nat)} {H : Hp}

theorem setCells_heap (g : Nat) : ∀ (vs : List Value) (o : Nat) (w : World) (cur : Array Value) (e : TypeId) (fz : Nat × Nat), w.heap[g]? = some (.cells cur e fz) → o + vs.length ≤ cur.size →
    ∃ cur', (w.setCells g o vs).heap[g]? = some (.cells cur' e fz) ∧ cur'.size = cur.size ∧ (∀ i : Nat, cur'[i]? = if o ≤ i ∧ i < o + vs.length then vs[i - o]? else cur[i]?) ∧ (∀ b, b ≠ g → (w.setCells g o vs).heap[b]? = w.heap[b]?) ∧
      (w.setCells g o vs).heap.size = w.heap.size ∧ (w.setCells g o vs).os = w.os ∧ (w.setCells g o vs).tape = w.tape ∧ (w.setCells g o vs).output = w.output
  | [], o, w, cur, e, fz, hg, _ => ⟨cur, hg, rfl, fun i => by simp; intro h1 h2; omega, fun _ _ => rfl, rfl, rfl, rfl, rfl⟩
  | v :: r, o, w, cur, e, fz, hg, hb => by
    simp only [List.length_cons] at hb
    have hs : (w.setCell ⟨g, o, none⟩ v).heap[g]? = some (.cells (cur.setIfInBounds o v) e fz) := by
      simp [World.setCell, Array.getElem?_modify, hg]
    obtain ⟨cur', h1, h2, h3, h4, h5, h6, h7, h8⟩ := setCells_heap g r (o + 1) (w.setCell ⟨g, o, none⟩ v) _ e fz hs (by simp; omega)
    refine ⟨cur', h1, by rw [h2]; simp, fun i => ?_, fun b hb => ?_, by rw [show (w.setCells g o (v :: r)) = (w.setCell ⟨g, o, none⟩ v).setCells g (o + 1) r from rfl, h5]; simp, h6, h7, h8⟩
    · rw [h3 i]
      by_cases hi : o + 1 ≤ i ∧ i < o + 1 + r.length
      · rw [if_pos hi, if_pos (by simp; omega), show i - o = (i - (o + 1)) + 1 by omega, List.getElem?_cons_succ]
      · rw [if_neg hi, Array.getElem?_setIfInBounds]
        by_cases h9 : o = i
        · subst h9
          rw [if_pos rfl, if_pos (by first | omega | (simp only [List.length_cons]; omega) | (simp; omega))]
          simp [show o < cur.size by omega]
        · rw [if_neg h9, if_neg (by simp; omega)]
    · rw [show (w.setCells g o (v :: r)) = (w.setCell ⟨g, o, none⟩ v).setCells g (o + 1) r from rfl, h4 b hb]
      simp [World.setCell, Array.getElem?_modify, Ne.symm hb]

/-- A row's block is written, and a new number names it. -/
theorem Chg.take (hh : HeapR k0 w F1 F2 ρ H) {nx h g cap : Nat} (hn : H nx = none) {e : TypeId} {sz : Nat} {fr : Bool} {els : List PV} (ho : H h = some (.row e sz fr false els)) (hρ : ρ h = some (g, cap)) {w' : World}
    (hw : ∀ b, b ≠ g → w'.heap[b]? = w.heap[b]?) (hs : w'.heap.size = w.heap.size) (h1 : w'.os = w.os) (h2 : w'.tape = w.tape) (h3 : w'.output = w.output) {ob : Ob} (hl : ob.live)
    (hob : Trans w F1 F2 ρ H w' F1 F2 (updR ρ nx (some (g, cap))) (upd H [(nx, ob), (h, .gone)]) → ObR k0 w' F1 F2 (updR ρ nx (some (g, cap))) (upd H [(nx, ob), (h, .gone)]) nx ob) :
    Chg k0 w F1 F2 ρ H w' (upd H [(nx, ob), (h, .gone)]) F1 F2 (updR ρ nx (some (g, cap))) := by
  have hne : ∀ i o, H i = some o → i ≠ nx := fun i o hi he => by subst he; rw [hn] at hi; cases hi
  have hH : upd H [(nx, ob), (h, .gone)] = fun i => if i = nx then some ob else if i = h then some .gone else H i := by rw [upd_cons, upd_cons]; rfl
  have hgF : ¬ F1 g := hh.off h _ g cap ho rfl hρ
  have hF : ∀ b, F1 b → b ≠ g := fun b hb he => by subst he; exact hgF hb
  have hlg : LiveB ρ H g := ⟨h, _, cap, ho, rfl, hρ⟩
  have t : Trans w F1 F2 ρ H w' F1 F2 (updR ρ nx (some (g, cap))) (upd H [(nx, ob), (h, .gone)]) := by
    refine ⟨Nat.le_of_eq hs.symm, fun b hb => hw b (hF b hb), fun _ h => h, fun _ h => h, fun i o hi => updR_ne _ (hne i o hi), fun i o hi => ?_⟩
    rw [hH]
    simp only [hne i o hi, if_false]
    by_cases he : i = h
    · exact ⟨.gone, by simp [he], fun _ _ _ _ _ h => (by cases h), fun h => h.elim⟩
    · exact ⟨o, by simp [he, hi], Ob.after_refl o⟩
  have hother : ∀ i o, upd H [(nx, ob), (h, .gone)] i = some o → o.live → i ≠ nx → H i = some o ∧ i ≠ h := by
    intro i o hi hol hix
    rw [hH] at hi
    simp only [hix, if_false] at hi
    by_cases he : i = h
    · simp [he] at hi
      subst hi
      cases hol
    · simp [he] at hi
      exact ⟨hi, he⟩
  refine ⟨t, HeapR.step hh t (fun i o hi => ?_) (fun i i' o1 o2 b c c' hi1 hi2 hl1 hl2 hd hr1 hr2 => ?_) (fun i o b c hi hol hr => ?_) hh.sub (fun b hb => by rw [hs]; exact hh.lt b hb),
    h1, h2, h3, fun b hb hnl => hw b (fun he => hnl (he ▸ hlg)), fun b hb => .inl hb, fun b hb => .inl hb, fun i o b c hi hr => ?_⟩
  · by_cases hix : i = nx
    · subst hix
      rw [hH] at hi
      simp at hi
      subst hi
      exact .inr (hob t)
    · by_cases hol : o.live
      · obtain ⟨h4, h5⟩ := hother i o hi hol hix
        exact .inl ⟨h4, fun _ b c hr => hw b (fun he => by subst he; exact hh.sep i h _ _ b c cap h4 ho hol rfl h5 hr hρ)⟩
      · rw [hH] at hi
        simp only [hix, if_false] at hi
        by_cases he : i = h
        · simp [he] at hi
          subst hi
          exact .inr trivial
        · simp [he] at hi
          exact .inl ⟨hi, fun h => absurd h hol⟩
  · by_cases hx1 : i = nx
    · subst hx1
      rw [updR_same] at hr1
      obtain ⟨rfl, rfl⟩ := Prod.mk.inj (Option.some.inj hr1)
      obtain ⟨h4, h5⟩ := hother i' o2 hi2 hl2 (Ne.symm hd)
      rw [updR_ne _ (Ne.symm hd)] at hr2
      exact hh.sep i' h _ _ _ _ _ h4 ho hl2 rfl h5 hr2 hρ
    · obtain ⟨h4, h5⟩ := hother i o1 hi1 hl1 hx1
      rw [updR_ne _ hx1] at hr1
      by_cases hx2 : i' = nx
      · subst hx2
        rw [updR_same] at hr2
        obtain ⟨rfl, rfl⟩ := Prod.mk.inj (Option.some.inj hr2)
        exact hh.sep i h _ _ _ _ _ h4 ho hl1 rfl h5 hr1 hρ
      · obtain ⟨h6, h7⟩ := hother i' o2 hi2 hl2 hx2
        rw [updR_ne _ hx2] at hr2
        exact hh.sep i i' o1 o2 b c c' h4 h6 hl1 hl2 hd hr1 hr2
  · by_cases hix : i = nx
    · subst hix
      rw [updR_same] at hr
      obtain ⟨rfl, rfl⟩ := Prod.mk.inj (Option.some.inj hr)
      exact hgF
    · obtain ⟨h4, _⟩ := hother i o hi hol hix
      rw [updR_ne _ hix] at hr
      exact hh.off i o b c h4 hol hr
  · by_cases hix : i = nx
    · subst hix
      rw [updR_same] at hr
      obtain ⟨rfl, rfl⟩ := Prod.mk.inj (Option.some.inj hr)
      exact .inr (.inl hlg)
    · rw [hH] at hi
      simp only [hix, if_false] at hi
      by_cases he : i = h
      · subst he
        exact .inl ⟨_, ho⟩
      · simp [he] at hi
        exact .inl ⟨o, hi⟩
/-- A thing is written in place. -/
theorem Chg.put (hh : HeapR k0 w F1 F2 ρ H) {h g cap : Nat} {o ob : Ob} (ho : H h = some o) (hol : o.live) (hρ : ρ h = some (g, cap)) {w' : World}
    (hw : ∀ b, b ≠ g → w'.heap[b]? = w.heap[b]?) (hs : w'.heap.size = w.heap.size) (h1 : w'.os = w.os) (h2 : w'.tape = w.tape) (h3 : w'.output = w.output) (hl : ob.live) (haf : o.after ob)
    (hob : Trans w F1 F2 ρ H w' F1 F2 ρ (upd H [(h, ob)]) → ObR k0 w' F1 F2 ρ (upd H [(h, ob)]) h ob) :
    Chg k0 w F1 F2 ρ H w' (upd H [(h, ob)]) F1 F2 ρ := by
  have hH : upd H [(h, ob)] = fun i => if i = h then some ob else H i := by rw [upd_cons]; rfl
  have hgF : ¬ F1 g := hh.off h _ g cap ho hol hρ
  have hF : ∀ b, F1 b → b ≠ g := fun b hb he => by subst he; exact hgF hb
  have hlg : LiveB ρ H g := ⟨h, _, cap, ho, hol, hρ⟩
  have t : Trans w F1 F2 ρ H w' F1 F2 ρ (upd H [(h, ob)]) := by
    refine ⟨Nat.le_of_eq hs.symm, fun b hb => hw b (hF b hb), fun _ h => h, fun _ h => h, fun _ _ _ => rfl, fun i o' hi => ?_⟩
    rw [hH]
    by_cases he : i = h
    · subst he
      rw [ho] at hi
      obtain rfl := Option.some.inj hi
      exact ⟨ob, by simp, haf⟩
    · exact ⟨o', by simp [he, hi], Ob.after_refl o'⟩
  have hget : ∀ i o', upd H [(h, ob)] i = some o' → o'.live → ∃ o0, H i = some o0 ∧ o0.live ∧ (i ≠ h → o0 = o') := by
    intro i o' hi hl'
    rw [hH] at hi
    by_cases he : i = h
    · subst he
      exact ⟨o, ho, hol, fun h => absurd rfl h⟩
    · simp [he] at hi
      exact ⟨o', hi, hl', fun _ => rfl⟩
  refine ⟨t, HeapR.step hh t (fun i o' hi => ?_) (fun i i' o1 o2 b c c' hi1 hi2 hl1 hl2 hd hr1 hr2 => ?_) (fun i o' b c hi hol' hr => ?_) hh.sub (fun b hb => by rw [hs]; exact hh.lt b hb),
    h1, h2, h3, fun b hb hnl => hw b (fun he => hnl (he ▸ hlg)), fun b hb => .inl hb, fun b hb => .inl hb, fun i o' b c hi hr => ?_⟩
  · by_cases he : i = h
    · subst he
      rw [hH] at hi
      simp at hi
      subst hi
      exact .inr (hob t)
    · rw [hH] at hi
      simp [he] at hi
      exact .inl ⟨hi, fun hl' b c hr => hw b (fun hb => by subst hb; exact hh.sep i h _ _ b c cap hi ho hl' hol he hr hρ)⟩
  · obtain ⟨q1, h4, h5, _⟩ := hget i o1 hi1 hl1
    obtain ⟨q2, h6, h7, _⟩ := hget i' o2 hi2 hl2
    exact hh.sep i i' q1 q2 b c c' h4 h6 h5 h7 hd hr1 hr2
  · obtain ⟨q1, h4, h5, _⟩ := hget i o' hi hol'
    exact hh.off i q1 b c h4 h5 hr
  · rw [hH] at hi
    by_cases he : i = h
    · subst he
      exact .inl ⟨o, ho⟩
    · simp [he] at hi
      exact .inl ⟨o', hi⟩
theorem Chg.drop (hh : HeapR k0 w F1 F2 ρ H) (h : Nat) {o : Ob} (ho : H h = some o) : Chg k0 w F1 F2 ρ H w (upd H [(h, .gone)]) F1 F2 ρ := by
  have hH : upd H [(h, .gone)] = fun i => if i = h then some .gone else H i := by rw [upd_cons]; rfl
  have t : Trans w F1 F2 ρ H w F1 F2 ρ (upd H [(h, .gone)]) := by
    refine ⟨Nat.le_refl _, fun _ _ => rfl, fun _ h => h, fun _ h => h, fun _ _ _ => rfl, fun i o' hi => ?_⟩
    rw [hH]
    by_cases he : i = h
    · exact ⟨.gone, by simp [he], fun _ _ _ _ _ h => (by cases h), fun h => h.elim⟩
    · exact ⟨o', by simp [he, hi], Ob.after_refl o'⟩
  have hget : ∀ i o', upd H [(h, .gone)] i = some o' → o'.live → H i = some o' := by
    intro i o' hi hl'
    rw [hH] at hi
    by_cases he : i = h
    · simp [he] at hi
      subst hi
      cases hl'
    · simpa [he] using hi
  refine ⟨t, HeapR.step hh t (fun i o' hi => ?_) (fun i i' o1 o2 b c c' hi1 hi2 hl1 hl2 hd hr1 hr2 => hh.sep i i' o1 o2 b c c' (hget _ _ hi1 hl1) (hget _ _ hi2 hl2) hl1 hl2 hd hr1 hr2) (fun i o' b c hi hol' hr => hh.off i o' b c (hget _ _ hi hol') hol' hr) hh.sub hh.lt,
    rfl, rfl, rfl, fun _ _ _ => rfl, fun b hb => .inl hb, fun b hb => .inl hb, fun i o' b c hi hr => ?_⟩
  · rw [hH] at hi
    by_cases he : i = h
    · simp [he] at hi
      subst hi
      exact .inr trivial
    · simp [he] at hi
      exact .inl ⟨hi, fun _ _ _ _ => rfl⟩
  · rw [hH] at hi
    by_cases he : i = h
    · subst he
      exact .inl ⟨o, ho⟩
    · simp [he] at hi
      exact .inl ⟨o', hi⟩
/-- A row of nothing, with no block. -/
theorem Chg.empty (hh : HeapR k0 w F1 F2 ρ H) {nx : Nat} (hn : H nx = none) (e : TypeId) {sz : Nat} (hsz : 0 < sz) (fr : Bool) : Chg k0 w F1 F2 ρ H w (upd H [(nx, .row e sz fr false [])]) F1 F2 (updR ρ nx none) := by
  have hH : upd H [(nx, .row e sz fr false [])] = fun i => if i = nx then some (.row e sz fr false []) else H i := by rw [upd_cons]; rfl
  have hne : ∀ i o, H i = some o → i ≠ nx := fun i o hi he => by subst he; rw [hn] at hi; cases hi
  have t : Trans w F1 F2 ρ H w F1 F2 (updR ρ nx none) (upd H [(nx, .row e sz fr false [])]) :=
    ⟨Nat.le_refl _, fun _ _ => rfl, fun _ h => h, fun _ h => h, fun i o hi => updR_ne _ (hne i o hi), fun i o hi => ⟨o, by rw [hH]; simp [hne i o hi, hi], Ob.after_refl o⟩⟩
  have hget : ∀ i o b c, upd H [(nx, .row e sz fr false [])] i = some o → updR ρ nx none i = some (b, c) → H i = some o ∧ ρ i = some (b, c) := by
    intro i o b c hi hr
    by_cases he : i = nx
    · subst he
      rw [updR_same] at hr
      cases hr
    · rw [updR_ne _ he] at hr
      rw [hH] at hi
      simp [he] at hi
      exact ⟨hi, hr⟩
  refine ⟨t, HeapR.step hh t (fun i o' hi => ?_) (fun i i' o1 o2 b c c' hi1 hi2 hl1 hl2 hd hr1 hr2 => ?_) (fun i o' b c hi hol' hr => ?_) hh.sub hh.lt,
    rfl, rfl, rfl, fun _ _ _ => rfl, fun b hb => .inl hb, fun b hb => .inl hb, fun i o' b c hi hr => .inl ⟨o', (hget i o' b c hi hr).1⟩⟩
  · by_cases he : i = nx
    · subst he
      rw [hH] at hi
      simp at hi
      subst hi
      refine .inr ⟨hsz, ?_, ?_⟩
      · intro x hx
        cases hx
      · rw [updR_same]
    · rw [hH] at hi
      simp [he] at hi
      exact .inl ⟨hi, fun _ _ _ _ => rfl⟩
  · obtain ⟨h4, h5⟩ := hget i o1 b c hi1 hr1
    obtain ⟨h6, h7⟩ := hget i' o2 b c' hi2 hr2
    exact hh.sep i i' o1 o2 b c c' h4 h6 hl1 hl2 hd h5 h7
  · obtain ⟨h4, h5⟩ := hget i o' b c hi hr
    exact hh.off i o' b c h4 hol' h5
/-- A thing's knowledge is said otherwise; memory stays. -/
theorem Chg.step1 (hh : HeapR k0 w F1 F2 ρ H) {h : Nat} {o ob : Ob} (ho : H h = some o) (hl : o.live)
    (hob : Trans w F1 F2 ρ H w F1 F2 ρ (upd H [(h, ob)]) → ObR k0 w F1 F2 ρ (upd H [(h, ob)]) h ob) (haf : o.after ob) : Chg k0 w F1 F2 ρ H w (upd H [(h, ob)]) F1 F2 ρ := by
  have hH : upd H [(h, ob)] = fun i => if i = h then some ob else H i := by rw [upd_cons]; rfl
  have t : Trans w F1 F2 ρ H w F1 F2 ρ (upd H [(h, ob)]) := by
    refine ⟨Nat.le_refl _, fun _ _ => rfl, fun _ h => h, fun _ h => h, fun _ _ _ => rfl, fun i o' hi => ?_⟩
    rw [hH]
    by_cases he : i = h
    · subst he
      rw [ho] at hi
      obtain rfl := Option.some.inj hi
      exact ⟨ob, by simp, haf⟩
    · exact ⟨o', by simp [he, hi], Ob.after_refl o'⟩
  have hget : ∀ i o', upd H [(h, ob)] i = some o' → o'.live → ∃ o0, H i = some o0 ∧ o0.live := by
    intro i o' hi hl'
    rw [hH] at hi
    by_cases he : i = h
    · subst he
      exact ⟨o, ho, hl⟩
    · simp [he] at hi
      exact ⟨o', hi, hl'⟩
  refine ⟨t, HeapR.step hh t (fun i o' hi => ?_) (fun i i' o1 o2 b c c' hi1 hi2 hl1 hl2 hd hr1 hr2 => ?_) (fun i o' b c hi hol' hr => ?_) hh.sub hh.lt,
    rfl, rfl, rfl, fun _ _ _ => rfl, fun b hb => .inl hb, fun b hb => .inl hb, fun i o' b c hi hr => ?_⟩
  · by_cases he : i = h
    · subst he
      rw [hH] at hi
      simp at hi
      subst hi
      exact .inr (hob t)
    · rw [hH] at hi
      simp [he] at hi
      exact .inl ⟨hi, fun _ _ _ _ => rfl⟩
  · obtain ⟨q1, h4, h5⟩ := hget i o1 hi1 hl1
    obtain ⟨q2, h6, h7⟩ := hget i' o2 hi2 hl2
    exact hh.sep i i' q1 q2 b c c' h4 h6 h5 h7 hd hr1 hr2
  · obtain ⟨q1, h4, h5⟩ := hget i o' hi hol'
    exact hh.off i q1 b c h4 h5 hr
  · rw [hH] at hi
    by_cases he : i = h
    · subst he
      exact .inl ⟨o, ho⟩
    · simp [he] at hi
      exact .inl ⟨o', hi⟩
end
end Go.Proofs.Ytjgmlkogppibfaa.Ev
