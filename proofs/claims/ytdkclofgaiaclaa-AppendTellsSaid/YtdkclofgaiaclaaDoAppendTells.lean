/- AppendTells answers true: its walk. No conditions. -/
import Derived.Test.YtdkclofgaiaclaaEvRef21
import Derived.Test.YtdkclofgaiaclaaCtr
namespace Go.Proofs.Ytdkclofgaiaclaa.Ev
open Go
set_option linter.unusedVariables false
set_option linter.unusedSimpArgs false
set_option maxRecDepth 100000
theorem mergeAt_length (b bt : Int) (l : List Ent) (i t : Int) (es : List Ent) : (mergeAt b bt l i t es).1.length ≤ l.length + es.length := by
  unfold mergeAt
  cases (termV b bt l i).2 && ((termV b bt l i).1 == t)
  · exact Nat.le_add_right _ _
  · have := mg_length (l.drop (i - b).toNat) es
    show (l.take (i - b).toNat ++ mg (l.drop (i - b).toNat) es).length ≤ _
    rw [List.length_append, List.length_take]
    rw [List.length_drop] at this
    omega
theorem mergeV_length (b bt : Int) (l : List Ent) (i t : Int) (es : List Ent) : (mergeV b bt l i t es).1.length ≤ l.length + es.length := by
  unfold mergeV
  cases decide (i < b)
  · exact mergeAt_length _ _ _ _ _ _
  · cases decide ((es.length : Int) < b - i)
    · have := mergeAt_length b bt l b bt (es.drop (b - i).toNat)
      rw [List.length_drop] at this
      show (mergeAt b bt l b bt (es.drop (b - i).toNat)).1.length ≤ _
      omega
    · exact Nat.le_add_right _ _
theorem AppendTells_does : Does gR3 tab Try.f7 lawAppendTells := by
  rintro ⟨b0, bt, l, i0, t0, es⟩ ⟨h1, h2, h3, h4, h5, h6⟩
  have w1 := wf_i64 h1
  have w4 := wf_i64 h4
  have w5 := wf_i64 h5
  have hl : (eL l).length = l.length := eL_length l
  have hes : (eL es).length = es.length := eL_length es
  conv => whnf
  rw [show List.length (List.map (fun x => elOf (pv34 x)) (b0, bt, l, i0, t0, es).2.2.1) = l.length from hl]
  cases c1 : decide ((l.length : Int) > 200)
  · simp only [decide_eq_false_iff_not] at c1
    conv => whnf
    rw [show List.length (List.map (fun x => elOf (pv34 x)) (b0, bt, l, i0, t0, es).2.2.2.2.2) = es.length from hes]
    cases c2 : decide ((es.length : Int) > 200)
    · simp only [decide_eq_false_iff_not] at c2
      have hlo : entsOk l := ⟨by omega, fun e he => by have := (h3.2.2 e he).2.1; have h8 : e.2.length * 1 ≤ 140737488351232 := this; omega⟩
      have heo : entsOk es := ⟨by omega, fun e he => by have := (h6.2.2 e he).2.1; have h8 : e.2.length * 1 ≤ 140737488351232 := this; omega⟩
      conv => whnf
      refine ⟨(b0, 1099511627776), ?_⟩
      conv => whnf
      refine And.intro (by simp only [allP, List.nil_append, List.cons_append, true_and]; exact ⟨rfl, rfl, w1.1, w1.2, by decide, by decide⟩) ?_
      conv => whnf
      have hb := pickV_bd (x := b0) (n := 1099511627776) (by omega)
      generalize pickV b0 1099511627776 = b at hb ⊢
      refine ⟨(i0, 1099511627776), ?_⟩
      conv => whnf
      refine And.intro (by simp only [allP, List.nil_append, List.cons_append, true_and]; exact ⟨rfl, rfl, w4.1, w4.2, by decide, by decide⟩) ?_
      conv => whnf
      have hi := pickV_bd (x := i0) (n := 1099511627776) (by omega)
      generalize pickV i0 1099511627776 = i at hi ⊢
      refine ⟨(t0, 1099511627776), ?_⟩
      conv => whnf
      refine And.intro (by simp only [allP, List.nil_append, List.cons_append, true_and]; exact ⟨rfl, rfl, w5.1, w5.2, by decide, by decide⟩) ?_
      conv => whnf
      generalize pickV t0 1099511627776 = t
      have hsb : small b := ⟨by omega, by omega⟩
      have hw : IntKind.i64.wrap (b - i) = b - i := wrap_i64 (by omega) (by omega)
      rw [hw]
      cases c3 : decide (b - i > 300)
      · have hsi : small i := ⟨by omega, by omega⟩
        conv => whnf
        refine ⟨l, ?_⟩
        conv => whnf
        refine And.intro (by simp only [allP, List.nil_append, List.cons_append, true_and]; exact ⟨rfl, hlo⟩) ?_
        conv => whnf
        refine ⟨es, ?_⟩
        conv => whnf
        refine And.intro (by simp only [allP, List.nil_append, List.cons_append, true_and]; exact ⟨rfl, heo⟩) ?_
        conv => whnf
        refine ⟨(b, bt, l, i, t, es), ?_⟩
        conv => whnf
        refine And.intro (by simp only [allP, List.nil_append, List.cons_append, true_and]; exact ⟨rfl, rfl, rfl, rfl, rfl, rfl, hsb, hsi, hlo, heo, by omega⟩) ?_
        conv => whnf
        refine ⟨(b, bt, l, i, t, es), ?_⟩
        conv => whnf
        refine And.intro (by simp only [allP, List.nil_append, List.cons_append, true_and]; exact ⟨rfl, rfl, rfl, rfl, rfl, rfl, hsb, hsi, hlo, heo, by omega⟩) ?_
        conv => whnf
        have hml := mergeV_length b bt l (i) t es
        generalize mergeV b bt l (i) t es = m at hml ⊢
        refine ⟨(b, bt, l, i), ?_⟩
        conv => whnf
        refine And.intro (by simp only [allP, List.nil_append, List.cons_append, true_and]; exact ⟨rfl, rfl, rfl, rfl, hsb, hsi, by omega⟩) ?_
        conv => whnf
        refine ⟨(b, bt, l, i), ?_⟩
        conv => whnf
        refine And.intro (by simp only [allP, List.nil_append, List.cons_append, true_and]; exact ⟨rfl, rfl, rfl, rfl, hsb, hsi, by omega⟩) ?_
        conv => whnf
        generalize termV b bt l (i) = u
        refine ⟨(m.1, m.1), ?_⟩
        conv => whnf
        refine And.intro (by simp only [allP, List.nil_append, List.cons_append, true_and]; exact ⟨rfl, rfl, by omega⟩) ?_
        conv => whnf
        rw [show decide (m.1 = m.1) = true from decide_eq_true rfl]
        conv => whnf
        rw [show (m.2.1 != m.2.1) = false from bne_self_eq_false _]
        conv => whnf
        rw [show (m.2.2 == m.2.2) = true from beq_self_eq_true _]
        conv => whnf
        rw [show (u.1 != u.1) = false from bne_self_eq_false _]
        conv => whnf
        rw [show (u.2 == u.2) = true from beq_self_eq_true _]
        conv => whnf
        refine ⟨(b, bt, l, i), ?_⟩
        conv => whnf
        refine And.intro (by simp only [allP, List.nil_append, List.cons_append, true_and]; exact ⟨rfl, rfl, rfl, rfl, hsb, hsi, by omega⟩) ?_
        conv => whnf
        refine ⟨(b, bt, l, i), ?_⟩
        conv => whnf
        refine And.intro (by simp only [allP, List.nil_append, List.cons_append, true_and]; exact ⟨rfl, rfl, rfl, rfl, hsb, hsi, by omega⟩) ?_
        conv => whnf
        generalize hintV b bt l (i) = h
        rw [show (h == h) = true from beq_self_eq_true _]
        conv => whnf
        refine ⟨(b, l), ?_⟩
        conv => whnf
        refine And.intro (by simp only [allP, List.nil_append, List.cons_append, true_and]; exact ⟨rfl, rfl, hsb, by omega⟩) ?_
        conv => whnf
        rw [show (b + (l.length : Int) == IntKind.i64.wrap (b + ((List.length (List.map (fun x => elOf (pv34 x)) (b0, bt, l, i0, t0, es).2.2.1) : Nat) : Int))) = true from by rw [show List.length (List.map (fun x => elOf (pv34 x)) (b0, bt, l, i0, t0, es).2.2.1) = l.length from hl, wrap_i64 (by omega) (by omega)]; exact beq_self_eq_true _]
        conv => whnf
        refine ⟨(l, l), ?_⟩
        conv => whnf
        refine And.intro (by simp only [allP, List.nil_append, List.cons_append, true_and]; exact ⟨rfl, rfl, by omega⟩) ?_
        conv => whnf
        rw [show decide (l = l) = true from decide_eq_true rfl]
        conv => whnf
        refine ⟨(es, es), ?_⟩
        conv => whnf
        refine And.intro (by simp only [allP, List.nil_append, List.cons_append, true_and]; exact ⟨rfl, rfl, by omega⟩) ?_
        conv => whnf
        rw [show decide (es = es) = true from decide_eq_true rfl]
        conv => whnf
        refine ⟨(), ?_⟩
        conv => whnf
        refine And.intro (by simp only [allP, List.nil_append, List.cons_append, true_and]; skip) ?_
        conv => whnf
        rfl
      · have hw3 : IntKind.i64.wrap (b - 300) = b - 300 := wrap_i64 (by omega) (by omega)
        have hsi : small (b - 300) := ⟨by omega, by omega⟩
        conv => whnf
        rw [hw3]
        conv => whnf
        refine ⟨l, ?_⟩
        conv => whnf
        refine And.intro (by simp only [allP, List.nil_append, List.cons_append, true_and]; exact ⟨rfl, hlo⟩) ?_
        conv => whnf
        refine ⟨es, ?_⟩
        conv => whnf
        refine And.intro (by simp only [allP, List.nil_append, List.cons_append, true_and]; exact ⟨rfl, heo⟩) ?_
        conv => whnf
        refine ⟨(b, bt, l, b - 300, t, es), ?_⟩
        conv => whnf
        refine And.intro (by simp only [allP, List.nil_append, List.cons_append, true_and]; exact ⟨rfl, rfl, rfl, rfl, rfl, rfl, hsb, hsi, hlo, heo, by omega⟩) ?_
        conv => whnf
        refine ⟨(b, bt, l, b - 300, t, es), ?_⟩
        conv => whnf
        refine And.intro (by simp only [allP, List.nil_append, List.cons_append, true_and]; exact ⟨rfl, rfl, rfl, rfl, rfl, rfl, hsb, hsi, hlo, heo, by omega⟩) ?_
        conv => whnf
        have hml := mergeV_length b bt l (b - 300) t es
        generalize mergeV b bt l (b - 300) t es = m at hml ⊢
        refine ⟨(b, bt, l, b - 300), ?_⟩
        conv => whnf
        refine And.intro (by simp only [allP, List.nil_append, List.cons_append, true_and]; exact ⟨rfl, rfl, rfl, rfl, hsb, hsi, by omega⟩) ?_
        conv => whnf
        refine ⟨(b, bt, l, b - 300), ?_⟩
        conv => whnf
        refine And.intro (by simp only [allP, List.nil_append, List.cons_append, true_and]; exact ⟨rfl, rfl, rfl, rfl, hsb, hsi, by omega⟩) ?_
        conv => whnf
        generalize termV b bt l (b - 300) = u
        refine ⟨(m.1, m.1), ?_⟩
        conv => whnf
        refine And.intro (by simp only [allP, List.nil_append, List.cons_append, true_and]; exact ⟨rfl, rfl, by omega⟩) ?_
        conv => whnf
        rw [show decide (m.1 = m.1) = true from decide_eq_true rfl]
        conv => whnf
        rw [show (m.2.1 != m.2.1) = false from bne_self_eq_false _]
        conv => whnf
        rw [show (m.2.2 == m.2.2) = true from beq_self_eq_true _]
        conv => whnf
        rw [show (u.1 != u.1) = false from bne_self_eq_false _]
        conv => whnf
        rw [show (u.2 == u.2) = true from beq_self_eq_true _]
        conv => whnf
        refine ⟨(b, bt, l, b - 300), ?_⟩
        conv => whnf
        refine And.intro (by simp only [allP, List.nil_append, List.cons_append, true_and]; exact ⟨rfl, rfl, rfl, rfl, hsb, hsi, by omega⟩) ?_
        conv => whnf
        refine ⟨(b, bt, l, b - 300), ?_⟩
        conv => whnf
        refine And.intro (by simp only [allP, List.nil_append, List.cons_append, true_and]; exact ⟨rfl, rfl, rfl, rfl, hsb, hsi, by omega⟩) ?_
        conv => whnf
        generalize hintV b bt l (b - 300) = h
        rw [show (h == h) = true from beq_self_eq_true _]
        conv => whnf
        refine ⟨(b, l), ?_⟩
        conv => whnf
        refine And.intro (by simp only [allP, List.nil_append, List.cons_append, true_and]; exact ⟨rfl, rfl, hsb, by omega⟩) ?_
        conv => whnf
        rw [show (b + (l.length : Int) == IntKind.i64.wrap (b + ((List.length (List.map (fun x => elOf (pv34 x)) (b0, bt, l, i0, t0, es).2.2.1) : Nat) : Int))) = true from by rw [show List.length (List.map (fun x => elOf (pv34 x)) (b0, bt, l, i0, t0, es).2.2.1) = l.length from hl, wrap_i64 (by omega) (by omega)]; exact beq_self_eq_true _]
        conv => whnf
        refine ⟨(l, l), ?_⟩
        conv => whnf
        refine And.intro (by simp only [allP, List.nil_append, List.cons_append, true_and]; exact ⟨rfl, rfl, by omega⟩) ?_
        conv => whnf
        rw [show decide (l = l) = true from decide_eq_true rfl]
        conv => whnf
        refine ⟨(es, es), ?_⟩
        conv => whnf
        refine And.intro (by simp only [allP, List.nil_append, List.cons_append, true_and]; exact ⟨rfl, rfl, by omega⟩) ?_
        conv => whnf
        rw [show decide (es = es) = true from decide_eq_true rfl]
        conv => whnf
        refine ⟨(), ?_⟩
        conv => whnf
        refine And.intro (by simp only [allP, List.nil_append, List.cons_append, true_and]; skip) ?_
        conv => whnf
        rfl
    · conv => whnf
      refine ⟨(), ?_⟩
      conv => whnf
      refine And.intro (by simp only [allP, List.nil_append, List.cons_append, true_and]; skip) ?_
      conv => whnf
  · conv => whnf
    refine ⟨(), ?_⟩
    conv => whnf
    refine And.intro (by simp only [allP, List.nil_append, List.cons_append, true_and]; skip) ?_
    conv => whnf
theorem AppendTells_sound : Sound Try.prog 7 lawAppendTells := does_sound mixed tabOk_prog gR3_ok Try.func7 AppendTells_does
end Go.Proofs.Ytdkclofgaiaclaa.Ev
