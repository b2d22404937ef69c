/- What entries that came do to a log: plain laws. No conditions. -/
import Derived.Test.YtdkclofgaiaclaaEvRise
namespace Go.Proofs.Ytdkclofgaiaclaa.Ev
open Go
set_option linter.unusedVariables false
set_option linter.unusedSimpArgs false
theorem risV_mem {f t : Int} {l : List Int} {e : Ent} (h : e ∈ risV f t l) : t ≤ e.1 ∧ e.1 ≤ t + 60 ∧ e.2.length = 2 := by
  obtain ⟨k, hk, rfl⟩ := List.mem_map.1 h
  have hk := List.mem_range.1 hk
  have := rt_bd t l (k + 1)
  exact ⟨this.1, by show rt t l (k + 1) ≤ _; omega, rfl⟩
theorem risV_len (f t : Int) (l : List Int) : (risV f t l).length ≤ 30 := by rw [risV_length]; omega
theorem risV_ok (f t : Int) (l : List Int) : entsOk (risV f t l) := ⟨by have := risV_len f t l; omega, fun e he => by rw [(risV_mem he).2.2]; decide⟩
theorem termV_mem (b bt : Int) (l : List Ent) (i : Int) : (termV b bt l i).1 = bt ∨ (termV b bt l i).1 = 0 ∨ ∃ e ∈ l, (termV b bt l i).1 = e.1 := by
  unfold termV
  split
  · exact Or.inl rfl
  · split
    · rename_i h
      simp only [decide_eq_true_eq] at h
      have hj : (i - b - 1).toNat < l.length := by omega
      refine Or.inr (Or.inr ⟨l[(i - b - 1).toNat], List.getElem_mem hj, ?_⟩)
      rw [List.getD_eq_getElem?_getD, List.getElem?_eq_getElem hj]; rfl
    · exact Or.inr (Or.inl rfl)
theorem termV_there' {b bt : Int} {l : List Ent} {h : Int} (h1 : b ≤ h) (h2 : h ≤ b + l.length) : (termV b bt l h).2 = true := by
  rcases Int.lt_or_eq_of_le h1 with h | h
  · rw [termV_in ⟨h, h2⟩]
  · subst h; rw [termV_base]
theorem merge_hit {b bt : Int} {l : List Ent} {i t : Int} {es : List Ent} (h : b ≤ i) (h' : i ≤ b + l.length) (ht : (termV b bt l i).1 = t) :
    mergeV b bt l i t es = (l.take (i - b).toNat ++ mg (l.drop (i - b).toNat) es, i + es.length, true) := by
  unfold mergeV mergeAt
  rw [decide_eq_false (by omega), termV_there' h h', ht, beq_self_eq_true]
  rfl
theorem merge_hit0 {x : List Ent} {I : Nat} {t : Int} {es : List Ent} (h : I ≤ x.length) (ht : (termV 0 0 x I).1 = t) :
    mergeV 0 0 x I t es = (x.take I ++ mg (x.drop I) es, (I : Int) + es.length, true) := by
  rw [merge_hit (by omega) (by omega) ht, Int.sub_zero, Int.toNat_natCast]
theorem cut_eL (a : List Ent) (o n : Nat) : cutEls o n (eL a) = eL ((a.drop o).take n) := by unfold cutEls; rw [eL_drop, eL_take]
/-- The terms of the second stand ahead in the first. -/
def pre : List Ent → List Ent → Prop
  | _, [] => True
  | [], _ :: _ => False
  | y :: ys, f :: fs => y.1 = f.1 ∧ pre ys fs
theorem pre_refl : ∀ es : List Ent, pre es es
  | [] => trivial
  | e :: es => ⟨rfl, pre_refl es⟩
theorem mg_pre : ∀ ys fs : List Ent, pre ys fs → mg ys fs = ys
  | ys, [], _ => mg_nil ys
  | [], f :: fs, h => h.elim
  | y :: ys, f :: fs, h => by
    have : (y.1 == f.1) = true := by simpa using h.1
    rw [mg, this, mg_pre ys fs h.2]
theorem pre_mg : ∀ xs es : List Ent, pre (mg xs es) es
  | xs, [] => by cases mg xs [] <;> trivial
  | [], e :: es => pre_refl _
  | x :: xs, e :: es => by
    rw [mg]
    cases h : x.1 == e.1
    · exact pre_refl _
    · exact ⟨by simpa using h, pre_mg xs es⟩
theorem pre_take : ∀ (ys fs : List Ent) (n : Nat), pre ys fs → pre ys (fs.take n)
  | ys, fs, 0, _ => by cases ys <;> trivial
  | ys, [], n + 1, h => by cases ys <;> trivial
  | [], f :: fs, n + 1, h => h.elim
  | y :: ys, f :: fs, n + 1, h => ⟨h.1, pre_take ys fs n h.2⟩
theorem pre_get : ∀ (ys fs : List Ent) (j : Nat), pre ys fs → j < fs.length → j < ys.length ∧ (ys.getD j entZ).1 = (fs.getD j entZ).1
  | ys, [], j, _, h => absurd h (Nat.not_lt_zero j)
  | [], f :: fs, j, h, _ => h.elim
  | y :: ys, f :: fs, 0, h, _ => ⟨Nat.zero_lt_succ _, h.1⟩
  | y :: ys, f :: fs, j + 1, h, hj => by
    have := pre_get ys fs j h.2 (Nat.lt_of_succ_lt_succ hj)
    exact ⟨Nat.succ_lt_succ this.1, this.2⟩
theorem mg_length : ∀ xs es : List Ent, es.length ≤ (mg xs es).length ∧ (mg xs es).length ≤ xs.length + es.length
  | xs, [] => by rw [mg_nil]; exact ⟨Nat.zero_le _, Nat.le_add_right _ _⟩
  | [], e :: es => by rw [mg_nil']; exact ⟨Nat.le_refl _, Nat.le_add_left _ _⟩
  | x :: xs, e :: es => by
    have := mg_length xs es
    rw [mg]
    cases h : x.1 == e.1
    · simp only [List.length_cons]; omega
    · simp only [List.length_cons]; omega
theorem mg_mem : ∀ (xs es : List Ent) (e : Ent), e ∈ mg xs es → e ∈ xs ∨ e ∈ es
  | xs, [], e, h => by rw [mg_nil] at h; exact Or.inl h
  | [], f :: es, e, h => by rw [mg_nil'] at h; exact Or.inr h
  | x :: xs, f :: es, e, h => by
    rw [mg] at h
    cases hb : x.1 == f.1
    · rw [hb] at h; exact Or.inr h
    · rw [hb] at h
      rcases List.mem_cons.1 h with h | h
      · exact Or.inl (h ▸ List.mem_cons_self)
      · exact (mg_mem xs es e h).elim (fun h => Or.inl (List.mem_cons_of_mem _ h)) fun h => Or.inr (List.mem_cons_of_mem _ h)
/-- If what comes leaves a beginning as it stood, it does to the rest what the rest of it does to the rest. -/
theorem mg_drop : ∀ (d : Nat) (xs es : List Ent), (mg xs es).take d = xs.take d → d ≤ xs.length → (mg xs es).drop d = mg (xs.drop d) (es.drop d)
  | 0, _, _, _, _ => rfl
  | d + 1, xs, [], _, _ => by rw [mg_nil, List.drop_nil, mg_nil]
  | d + 1, [], e :: es, _, h => absurd h (by simp)
  | d + 1, x :: xs, e :: es, ht, h => by
    rw [mg] at ht ⊢
    cases hb : x.1 == e.1
    · rw [hb] at ht
      simp only [List.take_succ_cons, List.cons.injEq] at ht
      rw [ht.1] at hb
      simp at hb
    · rw [hb] at ht
      simp only [List.take_succ_cons, List.cons.injEq] at ht
      exact mg_drop d xs es ht.2 (Nat.le_of_succ_le_succ h)
/-- A log after entries came at a place: what it then is. -/
theorem merged_ok {x E : List Ent} {I : Nat} (hx : entsOk x) (hE : entsOk E) (h : x.length + E.length ≤ 1000000000) : entsOk (x.take I ++ mg (x.drop I) E) := by
  have := mg_length (x.drop I) E
  refine ⟨by rw [List.length_append, List.length_take]; rw [List.length_drop] at this; omega, fun e he => ?_⟩
  rcases List.mem_append.1 he with he | he
  · exact hx.2 e (List.mem_of_mem_take he)
  · exact (mg_mem _ _ e he).elim (fun h => hx.2 e (List.mem_of_mem_drop h)) (hE.2 e)
theorem merged_length {x E : List Ent} {I : Nat} (hI : I ≤ x.length) : I + E.length ≤ (x.take I ++ mg (x.drop I) E).length ∧ (x.take I ++ mg (x.drop I) E).length ≤ x.length + E.length := by
  have := mg_length (x.drop I) E
  rw [List.length_append, List.length_take]
  rw [List.length_drop] at this
  omega
theorem merged_take {x m : List Ent} {I : Nat} (hI : I ≤ x.length) : (x.take I ++ m).take I = x.take I := by
  rw [List.take_append_of_le_length (by rw [List.length_take]; omega), List.take_take, Nat.min_self]
theorem merged_drop {x m : List Ent} {I : Nat} (hI : I ≤ x.length) : (x.take I ++ m).drop I = m := by
  rw [List.drop_append_of_le_length (by rw [List.length_take]; omega), List.drop_of_length_le (by rw [List.length_take]; omega), List.nil_append]
theorem merged_term {x m : List Ent} {I : Nat} (hI : I ≤ x.length) : (termV 0 0 (x.take I ++ m) I).1 = (termV 0 0 x I).1 := by
  cases I with
  | zero => rfl
  | succ n =>
    have hl : (x.take (n + 1) ++ m).length = n + 1 + m.length := by rw [List.length_append, List.length_take]; omega
    rw [termV_in ⟨by omega, by omega⟩, termV_in ⟨by omega, by omega⟩]
    have : (((n + 1 : Nat) : Int) - 0 - 1).toNat = n := by omega
    rw [this, List.getD_eq_getElem?_getD, List.getD_eq_getElem?_getD, List.getElem?_append_left (by rw [List.length_take]; omega), List.getElem?_take, if_pos (by omega)]
theorem merged_again {x E F : List Ent} {I : Nat} {t : Int} (hI : I ≤ x.length) (ht : (termV 0 0 x I).1 = t) (hF : pre (mg (x.drop I) E) F) :
    mergeV 0 0 (x.take I ++ mg (x.drop I) E) I t F = (x.take I ++ mg (x.drop I) E, (I : Int) + F.length, true) := by
  have hl := (merged_length (x := x) (E := E) hI).1
  rw [merge_hit0 (by omega) ((merged_term hI).trans ht), merged_take hI, merged_drop hI, mg_pre _ _ hF]
end Go.Proofs.Ytdkclofgaiaclaa.Ev
