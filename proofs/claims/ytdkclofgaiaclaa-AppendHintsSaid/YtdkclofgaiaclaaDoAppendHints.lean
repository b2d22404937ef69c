/- AppendHints answers true: its walk. No conditions. -/
import Derived.Test.YtdkclofgaiaclaaEvRise
import Derived.Test.YtdkclofgaiaclaaCtr
namespace Go.Proofs.Ytdkclofgaiaclaa.Ev
open Go
set_option linter.unusedVariables false
set_option linter.unusedSimpArgs false
set_option maxRecDepth 100000
theorem hintGo_facts (b bt : Int) (l : List Ent) (t : Int) : ∀ k : Nat, k ≤ l.length → b ≤ hintGo b bt l t k ∧ hintGo b bt l t k ≤ b + k ∧ (hintGo b bt l t k = b ∨ (termV b bt l (hintGo b bt l t k)).1 < t)
  | 0, _ => ⟨Int.le_refl _, by show b ≤ b + _; omega, Or.inl rfl⟩
  | k + 1, h => by
    have ih := hintGo_facts b bt l t k (by omega)
    rw [hintGo]
    cases hx : decide ((termV b bt l (b + ((k + 1 : Nat) : Int))).1 < t)
    · exact ⟨ih.1, by show hintGo b bt l t k ≤ _; omega, ih.2.2⟩
    · simp only [decide_eq_true_eq] at hx
      exact ⟨by show b ≤ b + _; omega, Int.le_refl _, Or.inr hx⟩
theorem termV_there {b bt : Int} {l : List Ent} {h : Int} (h1 : b ≤ h) (h2 : h ≤ b + l.length) : (termV b bt l h).2 = true := by
  rcases Int.lt_or_eq_of_le h1 with h | h
  · rw [termV_in ⟨h, h2⟩]
  · subst h; rw [termV_base]
theorem hintV_facts (b bt : Int) (l : List Ent) (i : Int) (hi : b ≤ i) : b ≤ hintV b bt l i ∧ hintV b bt l i ≤ b + l.length ∧ (i > b → hintV b bt l i < i) ∧ (hintV b bt l i = b ∨ i > b + l.length ∨ (termV b bt l (hintV b bt l i)).1 < (termV b bt l i).1) := by
  unfold hintV
  cases hgt : decide (i > b + l.length)
  · simp only [decide_eq_false_iff_not] at hgt
    cases hle : decide (i ≤ b)
    · simp only [decide_eq_false_iff_not] at hle
      have := hintGo_facts b bt l (termV b bt l i).1 (i - 1 - b).toNat (by omega)
      simp only
      exact ⟨this.1, by omega, fun _ => by omega, this.2.2.elim Or.inl fun h => Or.inr (Or.inr h)⟩
    · simp only [decide_eq_true_eq] at hle
      simp only
      exact ⟨by omega, by omega, fun _ => by omega, by simp⟩
  · simp only [decide_eq_true_eq] at hgt
    simp only
    exact ⟨by omega, by omega, fun _ => by omega, Or.inr (Or.inl hgt)⟩
theorem ints_il (l : List Int) : (l.map fun x => elOf [.int .i64 x]) = il .i64 l := rfl
theorem AppendHints_does : Does gA6 tab Try.f8 lawAppendHints := by
  rintro ⟨base, a, ix⟩ ⟨h1, h2, h3⟩
  have w1 := wf_i64 h1
  have w3 := wf_i64 h3
  have wa : ∀ x ∈ a, -9223372036854775808 ≤ x ∧ x ≤ 9223372036854775807 := fun x hx => wf_i64 (h2.2.2 x hx)
  conv => whnf
  refine ⟨(base, 1000), ?_⟩
  conv => whnf
  refine And.intro (by simp only [allP, List.nil_append, List.cons_append, true_and]; exact ⟨rfl, rfl, w1.1, w1.2, by decide, by decide⟩) ?_
  conv => whnf
  have hb := pickV_bd (x := base) (n := 1000) (by omega)
  generalize pickV base 1000 = b at hb ⊢
  have hwb : IntKind.i64.wrap (b + 1) = b + 1 := wrap_i64 (by omega) (by omega)
  rw [hwb]
  refine ⟨(b + 1, 1, a), ?_⟩
  conv => whnf
  refine And.intro (by simp only [allP, List.nil_append, List.cons_append, true_and]; exact ⟨rfl, rfl, rfl, ⟨by omega, by omega⟩, ⟨by decide, by decide⟩, wa⟩) ?_
  conv => whnf
  have hL := risV_length (b + 1) 1 a
  generalize risV (b + 1) 1 a = l at hL ⊢
  have hl := eL_length l
  have hl5 : IntKind.i64.wrap (((eL l).length : Int) + 5) = (l.length : Int) + 5 := by rw [hl, wrap_i64 (by omega) (by omega)]
  rw [hl5]
  refine ⟨(ix, (l.length : Int) + 5), ?_⟩
  conv => whnf
  refine And.intro (by simp only [allP, List.nil_append, List.cons_append, true_and]; exact ⟨rfl, rfl, w3.1, w3.2, by omega, by omega⟩) ?_
  conv => whnf
  have hp := pickV_bd (x := ix) (n := (l.length : Int) + 5) (by omega)
  have hwi : IntKind.i64.wrap (b + pickV ix ((l.length : Int) + 5)) = b + pickV ix ((l.length : Int) + 5) := wrap_i64 (by omega) (by omega)
  rw [hwi]
  obtain ⟨i, hi⟩ : ∃ i, b + pickV ix ((l.length : Int) + 5) = i := ⟨_, rfl⟩
  rw [hi]
  refine ⟨(b, 1, l, i), ?_⟩
  conv => whnf
  refine And.intro (by simp only [allP, List.nil_append, List.cons_append, true_and]; exact ⟨rfl, rfl, rfl, rfl, ⟨by omega, by omega⟩, ⟨by omega, by omega⟩, by omega⟩) ?_
  conv => whnf
  obtain ⟨f1, f2, f3, f4⟩ := hintV_facts b 1 l i (by omega)
  obtain ⟨h, hh⟩ : ∃ h, hintV b 1 l i = h := ⟨_, rfl⟩
  rw [hh] at f1 f2 f3 f4 ⊢
  rw [show decide (h < b) = false from decide_eq_false (by omega)]
  conv => whnf
  refine ⟨(b, l), ?_⟩
  conv => whnf
  refine And.intro (by simp only [allP, List.nil_append, List.cons_append, true_and]; exact ⟨rfl, rfl, ⟨by omega, by omega⟩, by omega⟩) ?_
  conv => whnf
  rw [show decide (h > b + (l.length : Int)) = false from decide_eq_false (by omega)]
  conv => whnf
  have ht := termV_there (b := b) (bt := 1) (l := l) f1 f2
  cases hib : decide (i > b)
  · conv => whnf
    refine ⟨(b, 1, l, i), ?_⟩
    conv => whnf
    refine And.intro (by simp only [allP, List.nil_append, List.cons_append, true_and]; exact ⟨rfl, rfl, rfl, rfl, ⟨by omega, by omega⟩, ⟨by omega, by omega⟩, by omega⟩) ?_
    conv => whnf
    refine ⟨(b, 1, l, h), ?_⟩
    conv => whnf
    refine And.intro (by simp only [allP, List.nil_append, List.cons_append, true_and]; exact ⟨rfl, rfl, rfl, rfl, ⟨by omega, by omega⟩, ⟨by omega, by omega⟩, by omega⟩) ?_
    conv => whnf
    rw [ht]
    conv => whnf
    cases hhb : h == b
    · have hne : h ≠ b := by simpa using hhb
      conv => whnf
      refine ⟨(b, l), ?_⟩
      conv => whnf
      refine And.intro (by simp only [allP, List.nil_append, List.cons_append, true_and]; exact ⟨rfl, rfl, ⟨by omega, by omega⟩, by omega⟩) ?_
      conv => whnf
      cases hil : decide (i > b + (l.length : Int))
      · simp only [decide_eq_false_iff_not] at hil
        have hlt : decide ((termV b 1 l h).1 < (termV b 1 l i).1) = true := decide_eq_true (f4.elim (fun e => absurd e hne) fun e => e.elim (fun e => absurd e hil) id)
        conv => whnf
        rw [hlt]
        conv => whnf
        refine ⟨(), ?_⟩
        conv => whnf
        refine And.intro (by simp only [allP, List.nil_append, List.cons_append, true_and]; skip) ?_
        conv => whnf
        rfl
      · conv => whnf
        refine ⟨(), ?_⟩
        conv => whnf
        refine And.intro (by simp only [allP, List.nil_append, List.cons_append, true_and]; skip) ?_
        conv => whnf
        rfl
    · conv => whnf
      refine ⟨(), ?_⟩
      conv => whnf
      refine And.intro (by simp only [allP, List.nil_append, List.cons_append, true_and]; skip) ?_
      conv => whnf
      rfl
  · have hni : decide (h ≥ i) = false := decide_eq_false (by have := f3 (of_decide_eq_true hib); omega)
    conv => whnf
    rw [hni]
    conv => whnf
    refine ⟨(b, 1, l, i), ?_⟩
    conv => whnf
    refine And.intro (by simp only [allP, List.nil_append, List.cons_append, true_and]; exact ⟨rfl, rfl, rfl, rfl, ⟨by omega, by omega⟩, ⟨by omega, by omega⟩, by omega⟩) ?_
    conv => whnf
    refine ⟨(b, 1, l, h), ?_⟩
    conv => whnf
    refine And.intro (by simp only [allP, List.nil_append, List.cons_append, true_and]; exact ⟨rfl, rfl, rfl, rfl, ⟨by omega, by omega⟩, ⟨by omega, by omega⟩, by omega⟩) ?_
    conv => whnf
    rw [ht]
    conv => whnf
    cases hhb : h == b
    · have hne : h ≠ b := by simpa using hhb
      conv => whnf
      refine ⟨(b, l), ?_⟩
      conv => whnf
      refine And.intro (by simp only [allP, List.nil_append, List.cons_append, true_and]; exact ⟨rfl, rfl, ⟨by omega, by omega⟩, by omega⟩) ?_
      conv => whnf
      cases hil : decide (i > b + (l.length : Int))
      · simp only [decide_eq_false_iff_not] at hil
        have hlt : decide ((termV b 1 l h).1 < (termV b 1 l i).1) = true := decide_eq_true (f4.elim (fun e => absurd e hne) fun e => e.elim (fun e => absurd e hil) id)
        conv => whnf
        rw [hlt]
        conv => whnf
        refine ⟨(), ?_⟩
        conv => whnf
        refine And.intro (by simp only [allP, List.nil_append, List.cons_append, true_and]; skip) ?_
        conv => whnf
        rfl
      · conv => whnf
        refine ⟨(), ?_⟩
        conv => whnf
        refine And.intro (by simp only [allP, List.nil_append, List.cons_append, true_and]; skip) ?_
        conv => whnf
        rfl
    · conv => whnf
      refine ⟨(), ?_⟩
      conv => whnf
      refine And.intro (by simp only [allP, List.nil_append, List.cons_append, true_and]; skip) ?_
      conv => whnf
      rfl
theorem AppendHints_sound : Sound Try.prog 8 lawAppendHints := does_sound mixed tabOk_prog gA6_ok Try.func8 AppendHints_does
end Go.Proofs.Ytdkclofgaiaclaa.Ev
