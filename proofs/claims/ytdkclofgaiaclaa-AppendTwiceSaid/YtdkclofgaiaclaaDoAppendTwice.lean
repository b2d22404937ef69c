/- AppendTwice answers true: its walk. No conditions. -/
import Derived.Test.YtdkclofgaiaclaaEvMg
import Derived.Test.YtdkclofgaiaclaaCtr
namespace Go.Proofs.Ytdkclofgaiaclaa.Ev
open Go
set_option linter.unusedVariables false
set_option linter.unusedSimpArgs false
set_option maxRecDepth 100000
theorem AppendTwice_does : Does gA6 tab Try.f4 lawAppendTwice := by
  rintro ⟨a, more, ix, cut⟩ ⟨h1, h2, h3, h4⟩
  have w3 := wf_i64 h3
  have w4 := wf_i64 h4
  have wa : ∀ x ∈ a, -9223372036854775808 ≤ x ∧ x ≤ 9223372036854775807 := fun x hx => wf_i64 (h1.2.2 x hx)
  have wm : ∀ x ∈ more, -9223372036854775808 ≤ x ∧ x ≤ 9223372036854775807 := fun x hx => wf_i64 (h2.2.2 x hx)
  conv => whnf
  refine ⟨(1, 0, a), ?_⟩
  conv => whnf
  refine And.intro (by simp only [allP, List.nil_append, List.cons_append, true_and]; exact ⟨rfl, rfl, rfl, ⟨by decide, by decide⟩, ⟨by decide, by decide⟩, wa⟩) ?_
  conv => whnf
  have hxl := risV_len 1 0 a
  have hxo := risV_ok 1 0 a
  have hxm : ∀ e ∈ risV 1 0 a, 0 ≤ e.1 ∧ e.1 ≤ 60 := fun e he => ⟨(risV_mem he).1, (risV_mem he).2.1⟩
  generalize risV 1 0 a = x at hxl hxo hxm ⊢
  have hw1 : IntKind.i64.wrap (((eL x).length : Int) + 1) = (x.length : Int) + 1 := by rw [eL_length, wrap_i64 (by omega) (by omega)]
  rw [hw1]
  refine ⟨(ix, (x.length : Int) + 1), ?_⟩
  conv => whnf
  refine And.intro (by simp only [allP, List.nil_append, List.cons_append, true_and]; exact ⟨rfl, rfl, w3.1, w3.2, by omega, by omega⟩) ?_
  conv => whnf
  have hp := pickV_bd (x := ix) (n := (x.length : Int) + 1) (by omega)
  obtain ⟨I, hI⟩ : ∃ I : Nat, pickV ix ((x.length : Int) + 1) = (I : Int) := ⟨_, (Int.toNat_of_nonneg hp.1).symm⟩
  rw [hI] at hp ⊢
  have hIl : I ≤ x.length := by omega
  refine ⟨(0, 0, x, (I : Int)), ?_⟩
  conv => whnf
  refine And.intro (by simp only [allP, List.nil_append, List.cons_append, true_and]; exact ⟨rfl, rfl, rfl, rfl, ⟨by decide, by decide⟩, ⟨by omega, by omega⟩, by omega⟩) ?_
  conv => whnf
  have htb : 0 ≤ (termV 0 0 x I).1 ∧ (termV 0 0 x I).1 ≤ 60 := by
    rcases termV_mem 0 0 x I with h | h | ⟨e, he, h⟩
    · rw [h]; decide
    · rw [h]; decide
    · rw [h]; exact hxm e he
  obtain ⟨t, ht⟩ : ∃ t, (termV 0 0 x I).1 = t := ⟨_, rfl⟩
  rw [ht] at htb ⊢
  have hw2 : IntKind.i64.wrap ((I : Int) + 1) = (I : Int) + 1 := wrap_i64 (by omega) (by omega)
  rw [hw2]
  refine ⟨((I : Int) + 1, t, more), ?_⟩
  conv => whnf
  refine And.intro (by simp only [allP, List.nil_append, List.cons_append, true_and]; exact ⟨rfl, rfl, rfl, ⟨by omega, by omega⟩, ⟨by omega, by omega⟩, wm⟩) ?_
  conv => whnf
  have hel := risV_len ((I : Int) + 1) t more
  have heo := risV_ok ((I : Int) + 1) t more
  generalize risV ((I : Int) + 1) t more = E at hel heo ⊢
  refine ⟨(0, 0, x, (I : Int), t, E), ?_⟩
  conv => whnf
  refine And.intro (by simp only [allP, List.nil_append, List.cons_append, true_and]; exact ⟨rfl, rfl, rfl, rfl, rfl, rfl, ⟨by decide, by decide⟩, ⟨by omega, by omega⟩, hxo, heo, by omega⟩) ?_
  conv => whnf
  rw [merge_hit0 hIl ht]
  have hpo := merged_ok (I := I) hxo heo (by omega)
  have hpl := merged_length (E := E) hIl
  have hag : ∀ F, pre (mg (x.drop I) E) F → mergeV 0 0 (x.take I ++ mg (x.drop I) E) I t F = (x.take I ++ mg (x.drop I) E, (I : Int) + F.length, true) := fun F hF => merged_again hIl ht hF
  have hpre := pre_mg (x.drop I) E
  have hpre2 := fun n => pre_take _ _ n hpre
  generalize mg (x.drop I) E = m at hpo hpl hag hpre hpre2 ⊢
  generalize x.take I ++ m = p at hpo hpl hag ⊢
  refine ⟨(0, 0, p, (I : Int), t, E), ?_⟩
  conv => whnf
  refine And.intro (by simp only [allP, List.nil_append, List.cons_append, true_and]; exact ⟨rfl, rfl, rfl, rfl, rfl, rfl, ⟨by decide, by decide⟩, ⟨by omega, by omega⟩, hpo, heo, by omega⟩) ?_
  conv => whnf
  rw [hag E hpre]
  have hw3 : IntKind.i64.wrap (((eL E).length : Int) + 1) = (E.length : Int) + 1 := by rw [eL_length, wrap_i64 (by omega) (by omega)]
  rw [hw3]
  refine ⟨(cut, (E.length : Int) + 1), ?_⟩
  conv => whnf
  refine And.intro (by simp only [allP, List.nil_append, List.cons_append, true_and]; exact ⟨rfl, rfl, w4.1, w4.2, by omega, by omega⟩) ?_
  conv => whnf
  have hc := pickV_bd (x := cut) (n := (E.length : Int) + 1) (by omega)
  obtain ⟨c, hcc⟩ : ∃ c : Nat, pickV cut ((E.length : Int) + 1) = (c : Int) := ⟨_, (Int.toNat_of_nonneg hc.1).symm⟩
  rw [hcc] at hc ⊢
  have hlE := eL_length E
  refine And.intro (by simp only [allP, List.nil_append, List.cons_append, true_and]; rw [hlE]; omega) ?_
  conv => whnf
  have htc : (E.take c).length = c := by rw [List.length_take]; omega
  refine ⟨(0, 0, p, (I : Int), t, E.take c), ?_⟩
  conv => whnf
  refine And.intro (by simp only [allP, List.nil_append, List.cons_append, true_and]; exact ⟨rfl, rfl, rfl, rfl, rfl, by rw [cut_eL]; rfl, ⟨by decide, by decide⟩, ⟨by omega, by omega⟩, hpo, heo.take _, by rw [htc]; omega⟩) ?_
  conv => whnf
  rw [hag _ (hpre2 c), htc]
  conv => whnf
  have hbn : (((p, (I : Int) + (E.length : Int), true) : List Ent × Int × Bool).2.1 != ((p, (I : Int) + (E.length : Int), true) : List Ent × Int × Bool).2.1) = false := bne_self_eq_false _
  rw [hbn]
  conv => whnf
  have hbn2 : (((p, (I : Int) + (c : Int), true) : List Ent × Int × Bool).2.1 != IntKind.i64.wrap ((I : Int) + (((c : Int).toNat - Int.toNat 0 : Nat) : Int))) = false := by
    rw [show (c : Int).toNat - Int.toNat 0 = c from rfl, wrap_i64 (by omega) (by omega)]; exact bne_self_eq_false _
  rw [hbn2]
  conv => whnf
  refine ⟨(p, p), ?_⟩
  conv => whnf
  refine And.intro (by simp only [allP, List.nil_append, List.cons_append, true_and]; exact ⟨rfl, rfl, hpo.1⟩) ?_
  conv => whnf
  rw [show decide (p = p) = true from decide_eq_true rfl]
  conv => whnf
  refine ⟨(p, p), ?_⟩
  conv => whnf
  refine And.intro (by simp only [allP, List.nil_append, List.cons_append, true_and]; exact ⟨rfl, rfl, hpo.1⟩) ?_
  conv => whnf
  rw [show decide (p = p) = true from decide_eq_true rfl]
  conv => whnf
  refine ⟨(), ?_⟩
  conv => whnf
  refine And.intro (by simp only [allP, List.nil_append, List.cons_append, true_and]; skip) ?_
  conv => whnf
  rfl
theorem AppendTwice_sound : Sound Try.prog 4 lawAppendTwice := does_sound mixed tabOk_prog gA6_ok Try.func4 AppendTwice_does
end Go.Proofs.Ytdkclofgaiaclaa.Ev
