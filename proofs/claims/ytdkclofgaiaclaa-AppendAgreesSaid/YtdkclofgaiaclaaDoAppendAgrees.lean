/- AppendAgrees answers true: its walk. No conditions. -/
import Derived.Test.YtdkclofgaiaclaaEvMg
import Derived.Test.YtdkclofgaiaclaaCtr
namespace Go.Proofs.Ytdkclofgaiaclaa.Ev
open Go
set_option linter.unusedVariables false
set_option linter.unusedSimpArgs false
set_option maxRecDepth 100000
theorem merged_get {x E : List Ent} {I j : Nat} (hI : I ≤ x.length) (h1 : I ≤ j) (h2 : j < I + E.length) : ((x.take I ++ mg (x.drop I) E).getD j entZ).1 = (E.getD (j - I) entZ).1 := by
  have := (pre_get (mg (x.drop I) E) E (j - I) (pre_mg _ _) (by omega)).2
  rw [← this, List.getD_eq_getElem?_getD, List.getD_eq_getElem?_getD, List.getElem?_append_right (by rw [List.length_take]; omega), List.length_take, Nat.min_eq_left hI]
theorem AppendAgrees_does : Does gA6 tab Try.f3 lawAppendAgrees := by
  rintro ⟨a, b, more, ix⟩ ⟨h1, h5, h2, h3⟩
  have w3 := wf_i64 h3
  have wa : ∀ x ∈ a, -9223372036854775808 ≤ x ∧ x ≤ 9223372036854775807 := fun x hx => wf_i64 (h1.2.2 x hx)
  have wb : ∀ x ∈ b, -9223372036854775808 ≤ x ∧ x ≤ 9223372036854775807 := fun x hx => wf_i64 (h5.2.2 x hx)
  have wm : ∀ x ∈ more, -9223372036854775808 ≤ x ∧ x ≤ 9223372036854775807 := fun x hx => wf_i64 (h2.2.2 x hx)
  conv => whnf
  refine ⟨(1, 0, a), ?_⟩
  conv => whnf
  refine And.intro (by simp only [allP, List.nil_append, List.cons_append, true_and]; exact ⟨rfl, rfl, rfl, ⟨by decide, by decide⟩, ⟨by decide, by decide⟩, wa⟩) ?_
  conv => whnf
  have hxl := risV_len 1 0 a
  have hxo := risV_ok 1 0 a
  have hxm : ∀ e ∈ risV 1 0 a, 0 ≤ e.1 ∧ e.1 ≤ 60 := fun e he => ⟨(risV_mem he).1, (risV_mem he).2.1⟩
  generalize risV 1 0 a = x at hxl hxo hxm ⊢
  refine ⟨(1, 0, b), ?_⟩
  conv => whnf
  refine And.intro (by simp only [allP, List.nil_append, List.cons_append, true_and]; exact ⟨rfl, rfl, rfl, ⟨by decide, by decide⟩, ⟨by decide, by decide⟩, wb⟩) ?_
  conv => whnf
  have hyl := risV_len 1 0 b
  have hyo := risV_ok 1 0 b
  generalize risV 1 0 b = y at hyl hyo ⊢
  obtain ⟨M, hM⟩ : ∃ M : Nat, min x.length y.length = M := ⟨_, rfl⟩
  have hw1 : IntKind.i64.wrap ((if ((eL y).length : Int) < ((eL x).length : Int) then ((eL y).length : Int) else ((eL x).length : Int)) + 1) = (M : Int) + 1 := by
    rw [eL_length, eL_length, wrap_i64 (by split <;> omega) (by split <;> omega)]; split <;> omega
  rw [hw1]
  refine ⟨(ix, (M : Int) + 1), ?_⟩
  conv => whnf
  refine And.intro (by simp only [allP, List.nil_append, List.cons_append, true_and]; exact ⟨rfl, rfl, w3.1, w3.2, by omega, by omega⟩) ?_
  conv => whnf
  have hp := pickV_bd (x := ix) (n := (M : Int) + 1) (by omega)
  obtain ⟨I, hI⟩ : ∃ I : Nat, pickV ix ((M : Int) + 1) = (I : Int) := ⟨_, (Int.toNat_of_nonneg hp.1).symm⟩
  rw [hI] at hp ⊢
  have hIx : I ≤ x.length := by omega
  have hIy : I ≤ y.length := by omega
  refine ⟨(0, 0, x, (I : Int)), ?_⟩
  conv => whnf
  refine And.intro (by simp only [allP, List.nil_append, List.cons_append, true_and]; exact ⟨rfl, rfl, rfl, rfl, ⟨by decide, by decide⟩, ⟨by omega, by omega⟩, by omega⟩) ?_
  conv => whnf
  have htb : 0 ≤ (termV 0 0 x I).1 ∧ (termV 0 0 x I).1 ≤ 60 := by
    rcases termV_mem 0 0 x I with h | h | ⟨e, he, h⟩
    · rw [h]; decide
    · rw [h]; decide
    · rw [h]; exact hxm e he
  obtain ⟨t, ht⟩ : ∃ t, (termV 0 0 x I).1 = t := ⟨_, rfl⟩
  rw [ht] at htb ⊢
  refine ⟨(0, 0, y, (I : Int)), ?_⟩
  conv => whnf
  refine And.intro (by simp only [allP, List.nil_append, List.cons_append, true_and]; exact ⟨rfl, rfl, rfl, rfl, ⟨by decide, by decide⟩, ⟨by omega, by omega⟩, by omega⟩) ?_
  conv => whnf
  obtain ⟨u, hu⟩ : ∃ u, (termV 0 0 y I).1 = u := ⟨_, rfl⟩
  rw [hu]
  cases htu : t != u
  · have heq : u = t := by simpa using (bne_eq_false_iff_eq.1 htu).symm
    subst heq
    conv => whnf
    have hw2 : IntKind.i64.wrap ((I : Int) + 1) = (I : Int) + 1 := wrap_i64 (by omega) (by omega)
    rw [hw2]
    refine ⟨((I : Int) + 1, u, more), ?_⟩
    conv => whnf
    refine And.intro (by simp only [allP, List.nil_append, List.cons_append, true_and]; exact ⟨rfl, rfl, rfl, ⟨by omega, by omega⟩, ⟨by omega, by omega⟩, wm⟩) ?_
    conv => whnf
    have hel := risV_len ((I : Int) + 1) u more
    have heo := risV_ok ((I : Int) + 1) u more
    generalize risV ((I : Int) + 1) u more = E at hel heo ⊢
    refine ⟨(0, 0, x, (I : Int), u, E), ?_⟩
    conv => whnf
    refine And.intro (by simp only [allP, List.nil_append, List.cons_append, true_and]; exact ⟨rfl, rfl, rfl, rfl, rfl, rfl, ⟨by decide, by decide⟩, ⟨by omega, by omega⟩, hxo, heo, by omega⟩) ?_
    conv => whnf
    rw [merge_hit0 hIx ht]
    refine ⟨(0, 0, y, (I : Int), u, E), ?_⟩
    conv => whnf
    refine And.intro (by simp only [allP, List.nil_append, List.cons_append, true_and]; exact ⟨rfl, rfl, rfl, rfl, rfl, rfl, ⟨by decide, by decide⟩, ⟨by omega, by omega⟩, hyo, heo, by omega⟩) ?_
    conv => whnf
    rw [merge_hit0 hIy hu]
    have hpl := merged_length (E := E) hIx
    have hql := merged_length (E := E) hIy
    have hpt := merged_take (m := mg (x.drop I) E) hIx
    have hpg := fun j => merged_get (E := E) (j := j) hIx
    have hqg := fun j => merged_get (E := E) (j := j) hIy
    generalize x.take I ++ mg (x.drop I) E = p at hpl hpt hpg ⊢
    generalize y.take I ++ mg (y.drop I) E = q at hql hqg ⊢
    conv => whnf
    have n1 : (((p, (I : Int) + (E.length : Int), true) : List Ent × Int × Bool).2.1 != ((q, (I : Int) + (E.length : Int), true) : List Ent × Int × Bool).2.1) = false := bne_self_eq_false _
    rw [n1]
    conv => whnf
    have n2 : (((p, (I : Int) + (E.length : Int), true) : List Ent × Int × Bool).2.1 != IntKind.i64.wrap ((I : Int) + ((eL E).length : Int))) = false := by
      rw [eL_length, wrap_i64 (by omega) (by omega)]; exact bne_self_eq_false _
    rw [n2]
    conv => whnf
    have n3 : decide (((eL (p, (I : Int) + (E.length : Int), true).1).length : Int) < ((p, (I : Int) + (E.length : Int), true) : List Ent × Int × Bool).2.1) = false := by
      rw [eL_length]; exact decide_eq_false (by show ¬ _ < (I : Int) + (E.length : Int); simp only; omega)
    rw [n3]
    conv => whnf
    have n4 : decide (((eL (q, (I : Int) + (E.length : Int), true).1).length : Int) < ((p, (I : Int) + (E.length : Int), true) : List Ent × Int × Bool).2.1) = false := by
      rw [eL_length]; exact decide_eq_false (by show ¬ _ < (I : Int) + (E.length : Int); simp only; omega)
    rw [n4]
    conv => whnf
    have hlp := eL_length p
    have hlq := eL_length q
    have hlx := eL_length x
    have hlE := eL_length E
    refine And.intro (by simp only [allP, List.nil_append, List.cons_append, true_and]; rw [hlp]; omega) ?_
    conv => whnf
    refine And.intro (by simp only [allP, List.nil_append, List.cons_append, true_and]; rw [hlx]; omega) ?_
    conv => whnf
    refine ⟨(p.take I, x.take I), ?_⟩
    conv => whnf
    refine And.intro (by simp only [allP, List.nil_append, List.cons_append, true_and]; exact ⟨by rw [cut_eL]; rfl, by rw [cut_eL]; rfl, by rw [List.length_take]; omega⟩) ?_
    conv => whnf
    rw [show decide (p.take I = x.take I) = true from decide_eq_true hpt]
    conv => whnf
    refine ⟨by rfl, ?_⟩
    conv => whnf
    refine ⟨{k : Nat // k ≤ E.length}, fun k => ⟨[(3, isI .i64 I), (15, .p false (.sl 2 (eL E))), (16, .p false (.sl 2 (eL p))), (17, isI .i64 ((I : Int) + (E.length : Int))), (19, .p false (.sl 2 (eL q))), (22, isI .i64 ((I + k.1 : Nat) : Int))], [], 99⟩, fun k => E.length - k.1, ⟨⟨0, by omega⟩, ?_⟩, ?_⟩
    · conv => whnf
      exact ⟨rfl, rfl, rfl, rfl, rfl, rfl⟩
    rintro ⟨k, hk⟩
    show aw _ _ _ _ _ _ ⟨[(3, isI .i64 I), (15, .p false (.sl 2 (eL E))), (16, .p false (.sl 2 (eL p))), (17, isI .i64 ((I : Int) + (E.length : Int))), (19, .p false (.sl 2 (eL q))), (22, isI .i64 ((I + k : Nat) : Int))], [], 99⟩
    conv => whnf
    split <;> rename_i hb <;> rw [hb] <;> conv => whnf
    · simp only [decide_eq_true_eq] at hb
      have hkE : k < E.length := by omega
      have hkp : I + k < p.length := by omega
      have hkq : I + k < q.length := by omega
      have g1 := eL_getD p (I + k) (.agg [.int .i64 0, .nilsl]) hkp
      have g2 := eL_getD q (I + k) (.agg [.int .i64 0, .nilsl]) hkq
      have g3 := eL_getD E k (.agg [.int .i64 0, .nilsl]) hkE
      have q1 := hpg (I + k) (by omega) (by omega)
      have q2 := hqg (I + k) (by omega) (by omega)
      rw [Nat.add_sub_cancel_left, List.getD_eq_getElem?_getD, List.getD_eq_getElem?_getD, List.getElem?_eq_getElem hkp, List.getElem?_eq_getElem hkE] at q1
      rw [Nat.add_sub_cancel_left, List.getD_eq_getElem?_getD, List.getD_eq_getElem?_getD, List.getElem?_eq_getElem hkq, List.getElem?_eq_getElem hkE] at q2
      have q1' : p[I + k].1 = E[k].1 := q1
      have q2' : q[I + k].1 = E[k].1 := q2
      refine And.intro (by simp only [allP, List.nil_append, List.cons_append, true_and]; rw [hlp]; omega) ?_
      conv => whnf
      rw [Int.toNat_natCast, g1]
      conv => whnf
      have hwk : IntKind.i64.wrap (((I + k : Nat) : Int) - (I : Int)) = (k : Int) := by rw [wrap_i64 (by omega) (by omega)]; omega
      rw [hwk]
      refine And.intro (by simp only [allP, List.nil_append, List.cons_append, true_and]; rw [hlE]; omega) ?_
      conv => whnf
      rw [Int.toNat_natCast, g3]
      conv => whnf
      rw [show (p[I + k].1 != E[k].1) = false from bne_eq_false_iff_eq.2 q1']
      conv => whnf
      refine And.intro (by simp only [allP, List.nil_append, List.cons_append, true_and]; rw [hlq]; omega) ?_
      conv => whnf
      rw [Int.toNat_natCast, g2]
      conv => whnf
      refine And.intro (by simp only [allP, List.nil_append, List.cons_append, true_and]; rw [hlp]; omega) ?_
      conv => whnf
      rw [Int.toNat_natCast, g1]
      conv => whnf
      rw [show (q[I + k].1 != p[I + k].1) = false from bne_eq_false_iff_eq.2 (q2'.trans q1'.symm)]
      conv => whnf
      refine ⟨by rfl, ?_⟩
      conv => whnf
      have hwn : IntKind.i64.wrap (((I + k : Nat) : Int) + 1) = ((I + (k + 1) : Nat) : Int) := by rw [wrap_i64 (by omega) (by omega)]; rfl
      refine ⟨⟨k + 1, by omega⟩, by simp only; omega, ?_⟩
      conv => whnf
      simp only [allP, pvle_refl, Int.natCast_zero, hwn, and_self, and_true, true_and] <;> (try simp only [pvle, hwn, and_self, and_true, true_and])
    · refine ⟨(), ?_⟩
      conv => whnf
      refine And.intro (by simp only [allP, List.nil_append, List.cons_append, true_and]; skip) ?_
      conv => whnf
  · conv => whnf
    refine ⟨(), ?_⟩
    conv => whnf
    refine And.intro (by simp only [allP, List.nil_append, List.cons_append, true_and]; skip) ?_
    conv => whnf
theorem AppendAgrees_sound : Sound Try.prog 3 lawAppendAgrees := does_sound mixed tabOk_prog gA6_ok Try.func3 AppendAgrees_does
end Go.Proofs.Ytdkclofgaiaclaa.Ev
