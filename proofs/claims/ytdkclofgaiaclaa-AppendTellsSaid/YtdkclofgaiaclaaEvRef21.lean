/- The document's log: what its functions come to. No conditions. -/
import Derived.Test.YtdkclofgaiaclaaEvMg
namespace Go.Proofs.Ytdkclofgaiaclaa.Ev
open Go
set_option linter.unusedVariables false
set_option linter.unusedSimpArgs false
set_option maxRecDepth 100000
theorem refTermAt_does : Does gA6 tab Try.f20 cTermAt := by
  rintro ⟨b, t, l, i⟩ ⟨h1, h2, h3⟩
  have hlen := eL_length l
  conv => whnf
  cases he : i == b
  · have hne : i ≠ b := by simpa using he
    conv => whnf
    refine ⟨{k : Nat // k ≤ l.length ∧ (i ≤ b ∨ b + k < i)}, fun k => ⟨[(0, isI .i64 b), (2, .p false (.sl 2 (eL l))), (3, isI .i64 i), (10, isI .i64 k.1)], [], 99⟩, fun k => l.length - k.1, ⟨⟨0, by omega⟩, ?_⟩, ?_⟩
    · conv => whnf
      exact ⟨rfl, rfl, rfl, rfl⟩
    rintro ⟨k, hk, hki⟩
    show aw _ _ _ _ _ _ ⟨[(0, isI .i64 b), (2, .p false (.sl 2 (eL l))), (3, isI .i64 i), (10, isI .i64 k)], [], 99⟩
    conv => whnf
    split <;> rename_i hb <;> rw [hb] <;> conv => whnf
    · simp only [decide_eq_true_eq, hlen] at hb
      have hlt : k < l.length := by omega
      have hw : IntKind.i64.wrap (IntKind.i64.wrap (b + 1) + (k : Int)) = b + 1 + k := by rw [wrap_i64 (x := b + 1) (by omega) (by omega), wrap_i64 (by omega) (by omega)]
      rw [hw]
      cases hx : b + 1 + (k : Int) == i
      · have hne2 : b + 1 + (k : Int) ≠ i := by simpa using hx
        have hwk : IntKind.i64.wrap ((k : Int) + 1) = ((k + 1 : Nat) : Int) := by rw [wrap_i64 (by omega) (by omega)]; rfl
        conv => whnf
        refine ⟨⟨k + 1, by omega, by omega⟩, by simp only; omega, ?_⟩
        conv => whnf
        simp only [allP, pvle_refl, Int.natCast_zero, hwk, and_self, and_true, true_and] <;> (try simp only [pvle, hwk, and_self, and_true, true_and])
      · have hxe : b + 1 + (k : Int) = i := by simpa using hx
        conv => whnf
        refine And.intro (by simp only [allP, List.nil_append, List.cons_append, true_and]; rw [hlen]; omega) ?_
        conv => whnf
        rw [Int.toNat_natCast, eL_getD _ _ _ hlt]
        conv => whnf
        rw [termV_in (by omega), show (i - b - 1).toNat = k from by omega, List.getD_eq_getElem?_getD, List.getElem?_eq_getElem hlt]
        simp only [allP, pvle_refl, Int.natCast_zero, and_self, and_true, true_and] <;> (try simp only [pvle, and_self, and_true, true_and])
        rfl
    · simp only [decide_eq_false_iff_not, hlen] at hb
      rw [termV_out (by omega)]
      simp only [allP, pvle_refl, Int.natCast_zero, and_self, and_true, true_and] <;> (try simp only [pvle, and_self, and_true, true_and])
  · obtain rfl : i = b := by simpa using he
    conv => whnf
    rw [termV_base]
    simp only [allP, pvle_refl, Int.natCast_zero, and_self, and_true, true_and] <;> (try simp only [pvle, and_self, and_true, true_and])
theorem refTermAt_sound : Sound Try.prog 20 cTermAt := does_sound mixed tabOk_prog gA6_ok Try.func20 refTermAt_does
def gR1 : List (FuncId × Ctr) := (20, cTermAt) :: gA6
theorem gR1_ok : GamOk Try.prog gR1 := GamOk.cons gA6_ok Try.func20 (by kernel_rfl) (by kernel_rfl) refTermAt_sound
theorem refHint_does : Does gR1 tab Try.f21 cHint := by
  rintro ⟨b, bt, l, i⟩ ⟨h1, h2, h3⟩
  have hlen := eL_length l
  have hwl : IntKind.i64.wrap (b + ((eL l).length : Int)) = b + l.length := by rw [hlen, wrap_i64 (by omega) (by omega)]
  conv => whnf
  rw [hwl]
  cases hgt : decide (i > b + (l.length : Int))
  · simp only [decide_eq_false_iff_not] at hgt
    conv => whnf
    cases hle : decide (i ≤ b)
    · simp only [decide_eq_false_iff_not] at hle
      conv => whnf
      refine ⟨(b, bt, l, i), ?_⟩
      conv => whnf
      refine And.intro (by simp only [allP, List.nil_append, List.cons_append, true_and]; exact ⟨rfl, rfl, rfl, rfl, h1, h2, h3⟩) ?_
      conv => whnf
      have hv : hintV b bt l i = hintGo b bt l (termV b bt l i).1 (i - 1 - b).toNat := by unfold hintV; rw [decide_eq_false hgt, decide_eq_false hle]
      obtain ⟨K, hK⟩ : ∃ K : Nat, i - 1 = b + (K : Int) := ⟨(i - 1 - b).toNat, by omega⟩
      have hK9 : (i - 1 - b).toNat = K := by omega
      rw [hK9] at hv
      have hw : IntKind.i64.wrap (b + 1) = b + ((0 + 1 : Nat) : Int) := by rw [wrap_i64 (by omega) (by omega)]; rfl
      rw [hw]
      generalize (termV b bt l i).1 = t at hv ⊢
      refine ⟨{k : Nat // k ≤ K}, fun k => ⟨[(0, isI .i64 b), (1, isI .i64 bt), (2, .p false (.sl 2 (eL l))), (3, isI .i64 i), (9, isI .i64 t), (11, isI .i64 (hintGo b bt l t k.1)), (12, isI .i64 (b + ((k.1 + 1 : Nat) : Int)))], [], 99⟩, fun k => K - k.1, ⟨⟨0, by omega⟩, ?_⟩, ?_⟩
      · conv => whnf
        exact ⟨rfl, rfl, rfl, rfl, rfl, rfl, rfl⟩
      rintro ⟨k, hk⟩
      show aw _ _ _ _ _ _ ⟨[(0, isI .i64 b), (1, isI .i64 bt), (2, .p false (.sl 2 (eL l))), (3, isI .i64 i), (9, isI .i64 t), (11, isI .i64 (hintGo b bt l t k)), (12, isI .i64 (b + ((k + 1 : Nat) : Int)))], [], 99⟩
      conv => whnf
      split <;> rename_i hb <;> rw [hb] <;> conv => whnf
      · simp only [decide_eq_true_eq] at hb
        refine ⟨(b, bt, l, b + ((k + 1 : Nat) : Int)), ?_⟩
        conv => whnf
        refine And.intro (by simp only [allP, List.nil_append, List.cons_append, true_and]; exact ⟨rfl, rfl, rfl, rfl, h1, ⟨by omega, by omega⟩, h3⟩) ?_
        conv => whnf
        have hwm : IntKind.i64.wrap (b + ((k + 1 : Nat) : Int) + 1) = b + ((k + 1 + 1 : Nat) : Int) := by rw [wrap_i64 (by omega) (by omega)]; omega
        cases hx : decide ((termV b bt l (b + ((k + 1 : Nat) : Int))).1 < t)
        · have hg9 : hintGo b bt l t (k + 1) = hintGo b bt l t k := by rw [hintGo, hx]
          conv => whnf
          refine ⟨⟨k + 1, by omega⟩, by simp only; omega, ?_⟩
          conv => whnf
          simp only [allP, pvle_refl, Int.natCast_zero, hwm, hg9, and_self, and_true, true_and] <;> (try simp only [pvle, hwm, hg9, and_self, and_true, true_and])
        · have hg9 : hintGo b bt l t (k + 1) = b + ((k + 1 : Nat) : Int) := by rw [hintGo, hx]
          conv => whnf
          refine ⟨⟨k + 1, by omega⟩, by simp only; omega, ?_⟩
          conv => whnf
          simp only [allP, pvle_refl, Int.natCast_zero, hwm, hg9, and_self, and_true, true_and] <;> (try simp only [pvle, hwm, hg9, and_self, and_true, true_and])
      · simp only [decide_eq_false_iff_not] at hb
        obtain rfl : k = K := by omega
        rw [hv]
    · simp only [decide_eq_true_eq] at hle
      have hv : hintV b bt l i = b := by unfold hintV; rw [decide_eq_false hgt, decide_eq_true hle]
      conv => whnf
      rw [hv]
  · simp only [decide_eq_true_eq] at hgt
    have hv : hintV b bt l i = b + l.length := by unfold hintV; rw [decide_eq_true hgt]
    conv => whnf
    rw [hv]
    simp only [allP, pvle_refl, Int.natCast_zero, hwl, and_self, and_true, true_and] <;> (try simp only [pvle, hwl, and_self, and_true, true_and])
theorem refHint_sound : Sound Try.prog 21 cHint := does_sound mixed tabOk_prog gR1_ok Try.func21 refHint_does
theorem merge_step {b bt : Int} {l : List Ent} {i t : Int} {e : Ent} {es : List Ent} (h : i < b) (t' : Int) (ht : t' = if i + 1 = b then bt else e.1) :
    mergeV b bt l (i + 1) t' es = mergeV b bt l i t (e :: es) := by
  subst ht
  unfold mergeV
  rw [decide_eq_true h]
  by_cases h1 : i + 1 = b
  · rw [decide_eq_false (show ¬ i + 1 < b by omega), decide_eq_false (show ¬ (((e :: es).length : Nat) : Int) < b - i by rw [List.length_cons]; omega), if_pos h1, show (b - i).toNat = 1 from by omega, h1]
    rfl
  · rw [decide_eq_true (show i + 1 < b by omega), show (b - i).toNat = (b - (i + 1)).toNat + 1 from by omega, List.drop_succ_cons]
    by_cases h2 : (es.length : Int) < b - (i + 1)
    · rw [decide_eq_true h2, decide_eq_true (show (((e :: es).length : Nat) : Int) < b - i by rw [List.length_cons]; omega)]
    · rw [decide_eq_false h2, decide_eq_false (show ¬ (((e :: es).length : Nat) : Int) < b - i by rw [List.length_cons]; omega)]
theorem merge_none {b bt : Int} {l : List Ent} {i t : Int} (h : i < b) : mergeV b bt l i t [] = (l, b, true) := by
  unfold mergeV
  rw [decide_eq_true h, decide_eq_true (show ((([] : List Ent).length : Nat) : Int) < b - i by simp; omega)]
def gR2 : List (FuncId × Ctr) := (21, cHint) :: gR1
theorem gR2_ok : GamOk Try.prog gR2 := GamOk.cons gR1_ok Try.func21 (by kernel_rfl) (by kernel_rfl) refHint_sound
theorem refMerge_does : Does gR2 tab Try.f19 cMerge := by
  rintro ⟨b, bt, l, i, t, es⟩ ⟨h1, h2, h3, h4, h5⟩
  have hla := eL_length l
  conv => whnf
  refine ⟨{s : Int × Int × List Ent // mergeV b bt l s.1 s.2.1 s.2.2 = mergeV b bt l i t es ∧ i ≤ s.1 ∧ (s.1 = i ∨ s.1 ≤ b) ∧ entsOk s.2.2 ∧ l.length + s.2.2.length ≤ 2000000000}, fun s => ⟨[(0, isI .i64 b), (1, isI .i64 bt), (2, .p false (.sl 2 (eL l))), (3, isI .i64 s.1.1), (4, isI .i64 s.1.2.1), (5, .p false (.sl 2 (eL s.1.2.2)))], [], 99⟩, fun s => (b - s.1.1).toNat, ⟨⟨(i, t, es), rfl, Int.le_refl _, Or.inl rfl, h4, h5⟩, ?_⟩, ?_⟩
  · conv => whnf
    exact ⟨rfl, rfl, rfl, rfl, rfl, rfl⟩
  rintro ⟨⟨j, u, E⟩, q1, q2, q3, q4, q5⟩
  show aw _ _ _ _ _ _ ⟨[(0, isI .i64 b), (1, isI .i64 bt), (2, .p false (.sl 2 (eL l))), (3, isI .i64 j), (4, isI .i64 u), (5, .p false (.sl 2 (eL E)))], [], 99⟩
  simp only at q1 q2 q3 q4 q5
  have hlE := eL_length E
  have hj : small j := ⟨by omega, by omega⟩
  conv => whnf
  split <;> rename_i hb <;> rw [hb] <;> conv => whnf
  · simp only [decide_eq_true_eq] at hb
    cases E with
    | nil =>
      rw [merge_none hb] at q1
      conv => whnf
      refine ⟨l, ?_⟩
      conv => whnf
      refine And.intro (by simp only [allP, List.nil_append, List.cons_append, true_and]; exact ⟨rfl, h3⟩) ?_
      conv => whnf
      rw [← q1]
      exact ⟨rfl, rfl, rfl⟩
    | cons e E =>
      obtain ⟨et, ed⟩ := e
      have hl1 : ((et, ed) :: E).length = E.length + 1 := rfl
      have hwj : IntKind.i64.wrap (j + 1) = j + 1 := wrap_i64 (by omega) (by omega)
      have hdr : List.drop (Int.toNat 1) (List.take (((eL ((et, ed) :: E)).length : Nat) : Int).toNat (eL ((et, ed) :: E))) = eL E := by rw [Int.toNat_natCast, List.take_length]; rfl
      have q4' : entsOk E := q4.drop 1
      have hst := fun t' => merge_step (b := b) (bt := bt) (l := l) (t := u) (e := (et, ed)) (es := E) hb t'
      conv => whnf
      refine And.intro (by simp only [allP, List.nil_append, List.cons_append, true_and]; rw [hlE]; omega) ?_
      conv => whnf
      refine And.intro (by simp only [allP, List.nil_append, List.cons_append, true_and]; rw [hlE]; omega) ?_
      conv => whnf
      rw [hdr]
      conv => whnf
      rw [hwj]
      cases hjb : j + 1 == b
      · have hne : j + 1 ≠ b := by simpa using hjb
        conv => whnf
        refine ⟨⟨(j + 1, et, E), ?_, ?_, ?_, ?_, ?_⟩, ?_, ?_⟩
        · rw [← q1]; exact hst et (by rw [if_neg hne])
        · show i ≤ j + 1; omega
        · show j + 1 = i ∨ j + 1 ≤ b; omega
        · exact q4'
        · show l.length + E.length ≤ _; omega
        · show (b - (j + 1)).toNat < (b - j).toNat; omega
        · conv => whnf
          exact ⟨rfl, rfl, rfl, rfl, rfl, rfl⟩
      · have heq : j + 1 = b := by simpa using hjb
        conv => whnf
        refine ⟨⟨(j + 1, bt, E), ?_, ?_, ?_, ?_, ?_⟩, ?_, ?_⟩
        · rw [← q1]; exact hst bt (by rw [if_pos heq])
        · show i ≤ j + 1; omega
        · show j + 1 = i ∨ j + 1 ≤ b; omega
        · exact q4'
        · show l.length + E.length ≤ _; omega
        · show (b - (j + 1)).toNat < (b - j).toNat; omega
        · conv => whnf
          exact ⟨rfl, rfl, rfl, rfl, rfl, rfl⟩
  · simp only [decide_eq_false_iff_not] at hb
    have hmv : mergeV b bt l i t es = mergeAt b bt l j u E := by rw [← q1]; unfold mergeV; rw [decide_eq_false hb]
    refine ⟨(b, bt, l, j), ?_⟩
    conv => whnf
    refine And.intro (by simp only [allP, List.nil_append, List.cons_append, true_and]; exact ⟨rfl, rfl, rfl, rfl, h1, hj, h3.1⟩) ?_
    conv => whnf
    cases hok : (termV b bt l j).2
    · conv => whnf
      refine ⟨l, ?_⟩
      conv => whnf
      refine And.intro (by simp only [allP, List.nil_append, List.cons_append, true_and]; exact ⟨rfl, h3⟩) ?_
      conv => whnf
      have hm : mergeV b bt l i t es = (l, 0, false) := by rw [hmv]; unfold mergeAt; rw [hok]; rfl
      rw [hm]
      exact ⟨rfl, rfl, rfl⟩
    obtain ⟨k1, k2⟩ := termV_ok hok
    cases htm : (termV b bt l j).1 == u
    · have htn : ((termV b bt l j).1 != u) = true := by rw [bne, htm]; rfl
      conv => whnf
      rw [htn]
      conv => whnf
      refine ⟨l, ?_⟩
      conv => whnf
      refine And.intro (by simp only [allP, List.nil_append, List.cons_append, true_and]; exact ⟨rfl, h3⟩) ?_
      conv => whnf
      have hm : mergeV b bt l i t es = (l, 0, false) := by rw [hmv]; unfold mergeAt; rw [hok, htm]; rfl
      rw [hm]
      exact ⟨rfl, rfl, rfl⟩
    have htn : ((termV b bt l j).1 != u) = false := by rw [bne, htm]; rfl
    conv => whnf
    rw [htn]
    conv => whnf
    obtain ⟨A, hA⟩ : ∃ A : Nat, j - b = (A : Int) := ⟨(j - b).toNat, by omega⟩
    have hm : mergeV b bt l i t es = (l.take A ++ mg (l.drop A) E, j + E.length, true) := by rw [hmv]; unfold mergeAt; rw [hok, htm, hA, Int.toNat_natCast]; rfl
    refine ⟨l, ?_⟩
    conv => whnf
    refine And.intro (by simp only [allP, List.nil_append, List.cons_append, true_and]; exact ⟨rfl, h3⟩) ?_
    conv => whnf
    refine ⟨{k : Nat // k ≤ E.length ∧ ∀ n, n < k → partsV l E A n = false}, fun k => ⟨[(0, isI .i64 b), (3, isI .i64 j), (5, .p false (.sl 2 (eL E))), (17, .rowf 0), (18, isI .i64 k.1)], [(0, .row 34 2 true false (eL l))], 99⟩, fun k => E.length - k.1, ⟨⟨0, by omega, fun n h => absurd h (Nat.not_lt_zero n)⟩, ?_⟩, ?_⟩
    · conv => whnf
      exact ⟨rfl, rfl, rfl, rfl, rfl⟩
    rintro ⟨k, hk, hkp⟩
    show aw _ _ _ _ _ _ ⟨[(0, isI .i64 b), (3, isI .i64 j), (5, .p false (.sl 2 (eL E))), (17, .rowf 0), (18, isI .i64 k)], [(0, .row 34 2 true false (eL l))], 99⟩
    have hAk : A + k ≤ l.length := by
      cases k with
      | zero => omega
      | succ k => have := (partsV_lt (hkp k (by omega))).1; omega
    have hmg := mg_parts (l := l) (es := E) (at_ := A) k hk hkp
    rw [hmg] at hm
    have hE9 := q4.1
    have hl9 := h3.1
    have hwl : IntKind.i64.wrap (j + ((eL E).length : Int)) = j + E.length := by rw [hlE, wrap_i64 (by omega) (by omega)]
    conv => whnf
    split <;> rename_i hb2 <;> rw [hb2] <;> conv => whnf
    · simp only [decide_eq_true_eq, hlE] at hb2
      have hwA : IntKind.i64.wrap (IntKind.i64.wrap (j + (k : Int)) - b) = ((A + k : Nat) : Int) := by rw [wrap_i64 (x := j + (k : Int)) (by omega) (by omega), wrap_i64 (by omega) (by omega)]; omega
      rw [hwA]
      have hkE : k < E.length := by omega
      have hmn : (if ((eL l).length : Int) < ((A + k : Nat) : Int) then ((eL l).length : Int) else ((A + k : Nat) : Int)) = ((A + k : Nat) : Int) := by rw [hla]; split <;> omega
      have hdr : List.drop ((k : Nat) : Int).toNat (List.take (((eL E).length : Nat) : Int).toNat (eL E)) = eL (E.drop k) := by rw [Int.toNat_natCast, Int.toNat_natCast, List.take_length, eL_drop]
      have hwk : IntKind.i64.wrap ((k : Int) + 1) = ((k + 1 : Nat) : Int) := by rw [wrap_i64 (by omega) (by omega)]; rfl
      rw [hla]
      cases hin : decide (((A + k : Nat) : Int) < ((l.length : Nat) : Int))
      · simp only [decide_eq_false_iff_not] at hin
        have hp : partsV l E A k = true := by unfold partsV; rw [decide_eq_true (show A + k ≥ l.length by omega)]; rfl
        conv => whnf
        refine ⟨by rfl, ?_⟩
        conv => whnf
        rw [mg_stop hkE hp] at hm
        conv => whnf
        rw [hmn]
        refine And.intro (by simp only [allP, List.nil_append, List.cons_append, true_and]; rw [hla]; omega) ?_
        conv => whnf
        refine And.intro (by simp only [allP, List.nil_append, List.cons_append, true_and]; rw [hlE]; omega) ?_
        conv => whnf
        rw [hdr]
        conv => whnf
        refine ⟨E.drop k, ?_⟩
        conv => whnf
        refine And.intro (by simp only [allP, List.nil_append, List.cons_append, true_and]; exact ⟨rfl, q4.drop _⟩) ?_
        conv => whnf
        refine And.intro (by simp only [allP, List.nil_append, List.cons_append, true_and]; rw [eL_length, eL_length, List.length_take, List.length_drop, hla]; simp only [Int.toNat_natCast, List.length_take]; omega) ?_
        conv => whnf
        rw [hm, hwl]
        exact ⟨rfl, rfl, by rw [eL_append, ← eL_take]; rfl⟩
      · simp only [decide_eq_true_eq] at hin
        have hlt : A + k < l.length := by omega
        have g1 := eL_getD l (A + k) (.agg [.int .i64 0, .nilsl]) hlt
        have g3 := eL_getD E k (.agg [.int .i64 0, .nilsl]) hkE
        have hpe : partsV l E A k = (l[A + k].1 != E[k].1) := by
          unfold partsV
          rw [decide_eq_false (show ¬ A + k ≥ l.length by omega), Bool.false_or, List.getD_eq_getElem?_getD, List.getD_eq_getElem?_getD, List.getElem?_eq_getElem hlt, List.getElem?_eq_getElem hkE]
          rfl
        conv => whnf
        refine And.intro (by simp only [allP, List.nil_append, List.cons_append, true_and]; rw [hla]; omega) ?_
        conv => whnf
        rw [Int.toNat_natCast]
        conv => whnf
        generalize hop : evalOp _ _ _ _ _ _ _ = st
        have hop2 : loadEl tab true 3 2 (0 + 0) ((eL l).getD (A + k) (.agg [.int .i64 0, .nilsl])) [0] = st := hop
        clear hop
        rw [g1] at hop2
        subst hop2
        conv => whnf
        refine And.intro (by simp only [allP, List.nil_append, List.cons_append, true_and]; rw [hlE]; omega) ?_
        conv => whnf
        rw [Int.toNat_natCast, g3]
        conv => whnf
        cases hx : l[A + k].1 == E[k].1
        · have hp : partsV l E A k = true := by rw [hpe, bne, hx]; rfl
          conv => whnf
          refine ⟨by rfl, ?_⟩
          conv => whnf
          rw [mg_stop hkE hp] at hm
          conv => whnf
          rw [hmn]
          refine And.intro (by simp only [allP, List.nil_append, List.cons_append, true_and]; rw [hla]; omega) ?_
          conv => whnf
          refine And.intro (by simp only [allP, List.nil_append, List.cons_append, true_and]; rw [hlE]; omega) ?_
          conv => whnf
          rw [hdr]
          conv => whnf
          refine ⟨E.drop k, ?_⟩
          conv => whnf
          refine And.intro (by simp only [allP, List.nil_append, List.cons_append, true_and]; exact ⟨rfl, q4.drop _⟩) ?_
          conv => whnf
          refine And.intro (by simp only [allP, List.nil_append, List.cons_append, true_and]; rw [eL_length, eL_length, List.length_take, List.length_drop, hla]; simp only [Int.toNat_natCast, List.length_take]; omega) ?_
          conv => whnf
          rw [hm, hwl]
          exact ⟨rfl, rfl, by rw [eL_append, ← eL_take]; rfl⟩
        · have hp : partsV l E A k = false := by rw [hpe, bne, hx]; rfl
          conv => whnf
          refine ⟨by rfl, ?_⟩
          conv => whnf
          refine ⟨⟨k + 1, by omega, fun n hn => by rcases Nat.lt_succ_iff_lt_or_eq.1 hn with h | h; exact hkp n h; subst h; exact hp⟩, by simp only; omega, ?_⟩
          conv => whnf
          simp only [allP, pvle_refl, Int.natCast_zero, hwk, and_self, and_true, true_and] <;> (try simp only [pvle, hwk, and_self, and_true, true_and])
    · simp only [decide_eq_false_iff_not, hlE] at hb2
      have hkE : k = E.length := by omega
      rw [hkE, List.drop_length, mg_nil, List.take_append_drop] at hm
      rw [hm, hwl]
      exact ⟨rfl, rfl, rfl⟩
theorem refMerge_sound : Sound Try.prog 19 cMerge := does_sound mixed tabOk_prog gR2_ok Try.func19 refMerge_does
def gR3 : List (FuncId × Ctr) := (19, cMerge) :: gR2
theorem gR3_ok : GamOk Try.prog gR3 := GamOk.cons gR2_ok Try.func19 (by kernel_rfl) (by kernel_rfl) refMerge_sound
end Go.Proofs.Ytdkclofgaiaclaa.Ev
