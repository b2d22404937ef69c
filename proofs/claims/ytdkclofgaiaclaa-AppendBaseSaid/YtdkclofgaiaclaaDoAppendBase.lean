/- AppendBase answers true: its walk. No conditions. -/
import Derived.Test.YtdkclofgaiaclaaEvMg
import Derived.Test.YtdkclofgaiaclaaCtr
namespace Go.Proofs.Ytdkclofgaiaclaa.Ev
open Go
set_option linter.unusedVariables false
set_option linter.unusedSimpArgs false
set_option maxRecDepth 100000
/-- A log with a base, merged: what is behind the base in the whole log's merge. -/
theorem base_law {x E : List Ent} {I B : Nat} {t b : Int} (hI : I ≤ x.length) (hB : B ≤ x.length) (ht : (termV 0 0 x I).1 = t) (hb : (termV 0 0 x B).1 = b)
    (hk : (x.take I ++ mg (x.drop I) E).take B = x.take B) (hl : B ≤ (x.take I ++ mg (x.drop I) E).length) :
    mergeV B b (x.drop B) I t E = ((x.take I ++ mg (x.drop I) E).drop B, max ((I : Int) + E.length) B, true) := by
  by_cases hlt : I < B
  · obtain ⟨d, rfl⟩ : ∃ d, B = I + d := ⟨B - I, by omega⟩
    have hmt : (mg (x.drop I) E).take d = (x.drop I).take d := by
      have h1 : (x.take I ++ mg (x.drop I) E).take (I + d) = x.take I ++ (mg (x.drop I) E).take d := by
        rw [List.take_append, List.length_take, Nat.min_eq_left hI, List.take_of_length_le (by rw [List.length_take]; omega), Nat.add_sub_cancel_left]
      have h2 : x.take (I + d) = x.take I ++ (x.drop I).take d := by rw [List.take_add]
      rw [h1, h2] at hk
      exact List.append_cancel_left hk
    have hmd := mg_drop d (x.drop I) E hmt (by rw [List.length_drop]; omega)
    have hpd : (x.take I ++ mg (x.drop I) E).drop (I + d) = mg (x.drop (I + d)) (E.drop d) := by
      rw [← List.drop_drop, merged_drop hI, hmd, List.drop_drop]
    have hdd : (((I + d : Nat) : Int) - (I : Int)).toNat = d := by omega
    unfold mergeV
    rw [decide_eq_true (show (I : Int) < ((I + d : Nat) : Int) by omega), hpd, hdd]
    by_cases hsh : (E.length : Int) < ((I + d : Nat) : Int) - (I : Int)
    · rw [decide_eq_true hsh, List.drop_of_length_le (show E.length ≤ d by omega), mg_nil, Int.max_eq_right (by omega)]
    · rw [decide_eq_false hsh]
      show mergeAt ((I + d : Nat) : Int) b (x.drop (I + d)) ((I + d : Nat) : Int) b (E.drop d) = _
      unfold mergeAt
      rw [termV_base, beq_self_eq_true, Int.sub_self, List.length_drop, Int.max_eq_left (by omega)]
      show (List.take 0 _ ++ mg (List.drop 0 _) _, _, true) = _
      rw [List.take_zero, List.drop_zero, List.nil_append]
      have : ((I + d : Nat) : Int) + ((E.length - d : Nat) : Int) = (I : Int) + E.length := by omega
      rw [this]
  · obtain ⟨d, rfl⟩ : ∃ d, I = B + d := ⟨I - B, by omega⟩
    have htt : (termV B b (x.drop B) ((B + d : Nat) : Int)).1 = t := by
      cases d with
      | zero => rw [Nat.add_zero, termV_base, ← hb]; exact ht
      | succ n =>
        rw [← ht, termV_in ⟨by omega, by rw [List.length_drop]; omega⟩, termV_in ⟨by omega, by omega⟩]
        have e1 : (((B + (n + 1) : Nat) : Int) - (B : Int) - 1).toNat = n := by omega
        have e2 : (((B + (n + 1) : Nat) : Int) - 0 - 1).toNat = B + n := by omega
        rw [e1, e2, List.getD_eq_getElem?_getD, List.getD_eq_getElem?_getD, List.getElem?_drop]
    have hdd : (((B + d : Nat) : Int) - (B : Int)).toNat = d := by omega
    rw [merge_hit (by omega) (by rw [List.length_drop]; omega) htt, hdd, List.drop_drop, Int.max_eq_left (by omega)]
    have : (x.take (B + d) ++ mg (x.drop (B + d)) E).drop B = (x.drop B).take d ++ mg (x.drop (B + d)) E := by
      rw [List.drop_append_of_le_length (by rw [List.length_take]; omega), List.drop_take, Nat.add_sub_cancel_left]
    rw [this]
theorem AppendBase_does : Does gA6 tab Try.f5 lawAppendBase := by
  rintro ⟨a, more, bx, ix⟩ ⟨h1, h2, h4, h3⟩
  have w3 := wf_i64 h3
  have w4 := wf_i64 h4
  have wa : ∀ x ∈ a, -9223372036854775808 ≤ x ∧ x ≤ 9223372036854775807 := fun x hx => wf_i64 (h1.2.2 x hx)
  have wm : ∀ x ∈ more, -9223372036854775808 ≤ x ∧ x ≤ 9223372036854775807 := fun x hx => wf_i64 (h2.2.2 x hx)
  conv => whnf
  refine ⟨(1, 0, a), ?_⟩
  conv => whnf
  refine And.intro (by simp only [allP, List.nil_append, List.cons_append, true_and]; exact ⟨rfl, rfl, rfl, ⟨by decide, by decide⟩, ⟨by decide, by decide⟩, wa⟩) ?_
  conv => whnf
  have hxl := risV_len 1 0 a
  have hxo := risV_ok 1 0 a
  have hxm : ∀ e ∈ risV 1 0 a, 0 ≤ e.1 ∧ e.1 ≤ 60 := fun e he => ⟨(risV_mem he).1, (risV_mem he).2.1⟩
  generalize risV 1 0 a = x at hxl hxo hxm ⊢
  have hw1 : IntKind.i64.wrap (((eL x).length : Int) + 1) = (x.length : Int) + 1 := by rw [eL_length, wrap_i64 (by omega) (by omega)]
  rw [hw1]
  refine ⟨(ix, (x.length : Int) + 1), ?_⟩
  conv => whnf
  refine And.intro (by simp only [allP, List.nil_append, List.cons_append, true_and]; exact ⟨rfl, rfl, w3.1, w3.2, by omega, by omega⟩) ?_
  conv => whnf
  have hp := pickV_bd (x := ix) (n := (x.length : Int) + 1) (by omega)
  obtain ⟨I, hI⟩ : ∃ I : Nat, pickV ix ((x.length : Int) + 1) = (I : Int) := ⟨_, (Int.toNat_of_nonneg hp.1).symm⟩
  rw [hI] at hp ⊢
  have hIl : I ≤ x.length := by omega
  rw [hw1]
  refine ⟨(bx, (x.length : Int) + 1), ?_⟩
  conv => whnf
  refine And.intro (by simp only [allP, List.nil_append, List.cons_append, true_and]; exact ⟨rfl, rfl, w4.1, w4.2, by omega, by omega⟩) ?_
  conv => whnf
  have hp2 := pickV_bd (x := bx) (n := (x.length : Int) + 1) (by omega)
  obtain ⟨B, hB⟩ : ∃ B : Nat, pickV bx ((x.length : Int) + 1) = (B : Int) := ⟨_, (Int.toNat_of_nonneg hp2.1).symm⟩
  rw [hB] at hp2 ⊢
  have hBl : B ≤ x.length := by omega
  refine ⟨(0, 0, x, (I : Int)), ?_⟩
  conv => whnf
  refine And.intro (by simp only [allP, List.nil_append, List.cons_append, true_and]; exact ⟨rfl, rfl, rfl, rfl, ⟨by decide, by decide⟩, ⟨by omega, by omega⟩, by omega⟩) ?_
  conv => whnf
  have htb : ∀ i, 0 ≤ (termV 0 0 x i).1 ∧ (termV 0 0 x i).1 ≤ 60 := fun i => by
    rcases termV_mem 0 0 x i with h | h | ⟨e, he, h⟩
    · rw [h]; decide
    · rw [h]; decide
    · rw [h]; exact hxm e he
  have ht9 := htb I
  have hb9 := htb B
  obtain ⟨t, ht⟩ : ∃ t, (termV 0 0 x I).1 = t := ⟨_, rfl⟩
  rw [ht] at ht9 ⊢
  refine ⟨(0, 0, x, (B : Int)), ?_⟩
  conv => whnf
  refine And.intro (by simp only [allP, List.nil_append, List.cons_append, true_and]; exact ⟨rfl, rfl, rfl, rfl, ⟨by decide, by decide⟩, ⟨by omega, by omega⟩, by omega⟩) ?_
  conv => whnf
  obtain ⟨b, hb⟩ : ∃ b, (termV 0 0 x B).1 = b := ⟨_, rfl⟩
  rw [hb] at hb9 ⊢
  have hw2 : IntKind.i64.wrap ((I : Int) + 1) = (I : Int) + 1 := wrap_i64 (by omega) (by omega)
  rw [hw2]
  refine ⟨((I : Int) + 1, t, more), ?_⟩
  conv => whnf
  refine And.intro (by simp only [allP, List.nil_append, List.cons_append, true_and]; exact ⟨rfl, rfl, rfl, ⟨by omega, by omega⟩, ⟨by omega, by omega⟩, wm⟩) ?_
  conv => whnf
  have hel := risV_len ((I : Int) + 1) t more
  have heo := risV_ok ((I : Int) + 1) t more
  generalize risV ((I : Int) + 1) t more = E at hel heo ⊢
  refine ⟨(0, 0, x, (I : Int), t, E), ?_⟩
  conv => whnf
  refine And.intro (by simp only [allP, List.nil_append, List.cons_append, true_and]; exact ⟨rfl, rfl, rfl, rfl, rfl, rfl, ⟨by decide, by decide⟩, ⟨by omega, by omega⟩, hxo, heo, by omega⟩) ?_
  conv => whnf
  rw [merge_hit0 hIl ht]
  have hpo := merged_ok (I := I) hxo heo (by omega)
  have hpl := merged_length (E := E) hIl
  have hbase := fun hk hl => base_law (E := E) hIl hBl ht hb hk hl
  generalize x.take I ++ mg (x.drop I) E = p at hpo hpl hbase ⊢
  have e1 : decide (((eL (p, (I : Int) + (E.length : Int), true).1).length : Int) < (B : Int)) = decide ((p.length : Int) < (B : Int)) := by rw [eL_length]
  rw [e1]
  have hlp := eL_length p
  have hlx := eL_length x
  cases hlt : decide ((p.length : Int) < (B : Int))
  · simp only [decide_eq_false_iff_not] at hlt
    conv => whnf
    refine And.intro (by simp only [allP, List.nil_append, List.cons_append, true_and]; rw [hlp]; omega) ?_
    conv => whnf
    refine And.intro (by simp only [allP, List.nil_append, List.cons_append, true_and]; rw [hlx]; omega) ?_
    conv => whnf
    refine ⟨(p.take B, x.take B), ?_⟩
    conv => whnf
    refine And.intro (by simp only [allP, List.nil_append, List.cons_append, true_and]; exact ⟨by rw [cut_eL]; rfl, by rw [cut_eL]; rfl, by rw [List.length_take]; omega⟩) ?_
    conv => whnf
    cases hsame : decide (p.take B = x.take B)
    · conv => whnf
      refine ⟨by rfl, ?_⟩
      conv => whnf
      refine ⟨(), ?_⟩
      conv => whnf
      refine And.intro (by simp only [allP, List.nil_append, List.cons_append, true_and]; skip) ?_
      conv => whnf
    · simp only [decide_eq_true_eq] at hsame
      have hq := hbase hsame (by omega)
      conv => whnf
      refine ⟨by rfl, ?_⟩
      conv => whnf
      refine And.intro (by simp only [allP, List.nil_append, List.cons_append, true_and]; rw [hlx]; omega) ?_
      conv => whnf
      have hxd : (x.drop B).length = x.length - B := List.length_drop
      refine ⟨(B, b, x.drop B, (I : Int), t, E), ?_⟩
      conv => whnf
      refine And.intro (by simp only [allP, List.nil_append, List.cons_append, true_and]; exact ⟨rfl, rfl, by rw [cut_eL, hlx]; show _ = _; rw [List.take_of_length_le (by rw [List.length_drop]; simp only [Int.toNat_natCast]; omega)]; rfl, rfl, rfl, rfl, ⟨by omega, by omega⟩, ⟨by omega, by omega⟩, hxo.drop _, heo, by omega⟩) ?_
      conv => whnf
      rw [hq]
      conv => whnf
      have hmm : max ((I : Int) + (E.length : Int)) (B : Int) = if (I : Int) + (E.length : Int) < (B : Int) then (B : Int) else (I : Int) + (E.length : Int) := by split <;> omega
      have hmx : (((List.drop B p, max ((I : Int) + (E.length : Int)) (B : Int), true) : List Ent × Int × Bool).2.1 != if ((p, (I : Int) + (E.length : Int), true) : List Ent × Int × Bool).2.1 < (B : Int) then (B : Int) else ((p, (I : Int) + (E.length : Int), true) : List Ent × Int × Bool).2.1) = false := by
        rw [bne_eq_false_iff_eq]; exact hmm
      rw [hmx]
      conv => whnf
      refine And.intro (by simp only [allP, List.nil_append, List.cons_append, true_and]; rw [hlp]; omega) ?_
      conv => whnf
      refine ⟨(p.drop B, p.drop B), ?_⟩
      conv => whnf
      refine And.intro (by simp only [allP, List.nil_append, List.cons_append, true_and]; exact ⟨rfl, by rw [cut_eL, hlp]; show _ = _; rw [List.take_of_length_le (by rw [List.length_drop]; simp only [Int.toNat_natCast]; omega)]; rfl, (hpo.drop B).1⟩) ?_
      conv => whnf
      rw [show decide (p.drop B = p.drop B) = true from decide_eq_true rfl]
      conv => whnf
      refine ⟨(), ?_⟩
      conv => whnf
      refine And.intro (by simp only [allP, List.nil_append, List.cons_append, true_and]; skip) ?_
      conv => whnf
      rfl
  · conv => whnf
    refine ⟨by rfl, ?_⟩
    conv => whnf
    refine ⟨(), ?_⟩
    conv => whnf
    refine And.intro (by simp only [allP, List.nil_append, List.cons_append, true_and]; skip) ?_
    conv => whnf
theorem AppendBase_sound : Sound Try.prog 5 lawAppendBase := does_sound mixed tabOk_prog gA6_ok Try.func5 AppendBase_does
end Go.Proofs.Ytdkclofgaiaclaa.Ev
