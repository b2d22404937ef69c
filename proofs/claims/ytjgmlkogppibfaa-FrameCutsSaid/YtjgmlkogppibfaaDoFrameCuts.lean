/- FrameCuts answers true: its walk. No conditions. -/
import Derived.Test.YtjgmlkogppibfaaEvCuts
import Derived.Test.YtjgmlkogppibfaaCtr
namespace Go.Proofs.Ytjgmlkogppibfaa.Ev
open Go
set_option linter.unusedVariables false
set_option linter.unusedSimpArgs false
set_option maxRecDepth 100000
set_option maxHeartbeats 4000000
/-- The bytes of frames. -/
def catF (fs : List (List UInt8)) : List UInt8 := (fs.map frB).flatten
theorem catF_append (a b : List (List UInt8)) : catF (a ++ b) = catF a ++ catF b := by simp [catF]
theorem catF_one (f : List UInt8) : catF [f] = frB f := by simp [catF]
theorem frB_len (f : List UInt8) : (frB f).length = 4 + f.length := by unfold frB; rw [List.length_append, beB_length]
theorem catF_len : ∀ fs : List (List UInt8), (∀ f ∈ fs, f.length ≤ 65536) → (catF fs).length ≤ 65540 * fs.length
  | [], _ => Nat.le_refl _
  | f :: fs, h => by
    have ih := catF_len fs fun g hg => h g (List.mem_cons_of_mem _ hg)
    have hf := h f List.mem_cons_self
    rw [show f :: fs = [f] ++ fs from rfl, catF_append, catF_one, List.length_append, frB_len, List.length_append]
    simp only [List.length_cons, List.length_nil]
    omega
theorem ll_append (a b : List (List UInt8)) : ll (a ++ b) = ll a ++ ll b := by simp [ll]
/-- What is told and what is left stood in the bytes. -/
theorem unfA_len : ∀ (n : Nat) (a : List UInt8), a.length ≤ n → ∀ fs r, unfA a = some (fs, r) → 4 * fs.length + r.length ≤ a.length
  | n, a, hn, fs, r, h => by
    by_cases h4 : a.length < 4
    · rw [unfA_short (Or.inl h4)] at h
      cases h
      simp
    · by_cases h5 : 65536 < numN a 0 4
      · rw [unfA_bad (by omega) h5] at h
        cases h
      · by_cases h6 : a.length < 4 + numN a 0 4
        · rw [unfA_short (Or.inr ⟨by omega, h6⟩)] at h
          cases h
          simp
        · match n, hn with
          | 0, hn => omega
          | n + 1, hn =>
            rw [unfA_more (by omega) (by omega) (by omega)] at h
            rcases hu : unfA (a.drop (4 + numN a 0 4)) with _ | ⟨gs, q⟩
            · rw [hu] at h; cases h
            · rw [hu] at h
              have ih := unfA_len n _ (by rw [List.length_drop]; omega) _ _ hu
              rw [List.length_drop] at ih
              cases h
              rw [List.length_append]
              simp only [List.length_cons, List.length_nil]
              omega
/-- A cut more. -/
theorem cut_step {got want : List (List UInt8)} {left rest short : List UInt8} (h : ahead got (unfA (left ++ rest)) = some (want, short)) (n : Nat) :
    ∃ fs r, unfA (left ++ rest.take n) = some (fs, r) ∧ ahead (got ++ fs) (unfA (r ++ rest.drop n)) = some (want, short) ∧ 4 * fs.length + r.length ≤ left.length + (rest.take n).length := by
  have e : left ++ rest = (left ++ rest.take n) ++ rest.drop n := by rw [List.append_assoc, List.take_append_drop]
  rw [e, unfA_app _ _ _ (Nat.le_refl _)] at h
  rcases hu : unfA (left ++ rest.take n) with _ | ⟨fs, r⟩
  · rw [hu] at h; cases h
  · rw [hu, ahead_ahead'] at h
    have hl := unfA_len _ _ (Nat.le_refl _) _ _ hu
    rw [List.length_append] at hl
    exact ⟨fs, r, rfl, h, hl⟩
theorem ahead_some {got want : List (List UInt8)} {o : Option (List (List UInt8) × List UInt8)} {short : List UInt8} (h : ahead got o = some (want, short)) : ∃ fs, o = some (fs, short) ∧ got ++ fs = want := by
  rcases o with _ | ⟨fs, r⟩
  · cases h
  · cases h
    exact ⟨fs, rfl, rfl⟩
theorem FrameCuts_does : Does gF4 tab Try.f5 lawFrameCuts := by
  rintro ⟨bodies, tail, cuts⟩ ⟨h1, h2, h3⟩
  have hbl := ll_length bodies
  have htl := bl_length tail
  conv => whnf
  refine ⟨{i : Nat // i ≤ min bodies.length 30 ∧ ∀ f ∈ bodies.take i, f.length ≤ 65536}, fun i => ⟨[(0, .p false (.sl 1 (ll bodies))), (1, .p false (.sl 1 (bl tail))), (2, .p false (.sl 1 (il .i64 cuts))), (7, .rowf 0), (8, .rowf 1), (9, isI .i64 i.1)], [(0, .row 5 1 true false (bl (catF (bodies.take i.1)))), (1, .row 22 1 false false (ll (bodies.take i.1)))], 99⟩,
    fun i => 30 - i.1, ⟨⟨0, by omega, by simp⟩, ?_⟩, ?_⟩
  · conv => whnf
    exact ⟨rfl, rfl, rfl, rfl, rfl, rfl⟩
  rintro ⟨i, hi, hf⟩
  show aw _ _ _ _ _ _ ⟨[(0, .p false (.sl 1 (ll bodies))), (1, .p false (.sl 1 (bl tail))), (2, .p false (.sl 1 (il .i64 cuts))), (7, .rowf 0), (8, .rowf 1), (9, isI .i64 i)], [(0, .row 5 1 true false (bl (catF (bodies.take i)))), (1, .row 22 1 false false (ll (bodies.take i)))], 99⟩
  have hcl := catF_len _ hf
  rw [List.length_take] at hcl
  have hil : (bodies.take i).length = i := by rw [List.length_take]; omega
  conv => whnf
  rw [hbl]
  by_cases hgo : i < min bodies.length 30
  · rw [show decide ((i : Int) < ((bodies.length : Nat) : Int)) = true from decide_eq_true (by omega)]
    conv => whnf
    rw [show decide ((i : Int) < 30) = true from decide_eq_true (by omega)]
    conv => whnf
    have hlt : i < bodies.length := by omega
    refine And.intro (by simp only [allP, List.nil_append, List.cons_append, true_and]; rw [hbl]; omega) ?_
    conv => whnf
    rw [Int.toNat_natCast, ll_getD _ _ _ hlt]
    conv => whnf
    by_cases hfit : bodies[i].length ≤ 65536
    · refine ⟨(true, bodies[i]), ?_⟩
      conv => whnf
      refine And.intro (by simp only [allP, List.nil_append, List.cons_append, true_and]; exact ⟨rfl, (decide_eq_true hfit).symm⟩) ?_
      conv => whnf
      refine And.intro (by simp only [allP, List.nil_append, List.cons_append, true_and]; rw [bl_length, bl_length, frB_len]; omega) ?_
      conv => whnf
      refine And.intro (by simp only [allP, List.nil_append, List.cons_append, true_and]; rw [hbl]; omega) ?_
      conv => whnf
      rw [Int.toNat_natCast, ll_getD _ _ _ hlt]
      conv => whnf
      refine And.intro (by simp only [allP, List.nil_append, List.cons_append, true_and]; rw [ll_length, hil]; simp only [List.length_cons, List.length_nil]; omega) ?_
      conv => whnf
      have htk : bodies.take (i + 1) = bodies.take i ++ [bodies[i]] := by rw [List.take_add_one, List.getElem?_eq_getElem hlt]; rfl
      refine ⟨⟨i + 1, by omega, ?_⟩, by simp only; omega, ?_⟩
      · intro f hf9
        rw [htk] at hf9
        rcases List.mem_append.1 hf9 with hf9 | hf9
        · exact hf f hf9
        · rw [List.mem_singleton.1 hf9]; exact hfit
      conv => whnf
      exact ⟨rfl, rfl, rfl, by rw [wrap_i64 (by omega) (by omega)]; rfl, by rw [htk, catF_append, catF_one, bl_append], by rw [htk, ll_append]; rfl⟩
    · refine ⟨(false, bodies[i]), ?_⟩
      conv => whnf
      refine And.intro (by simp only [allP, List.nil_append, List.cons_append, true_and]; exact ⟨rfl, (decide_eq_false hfit).symm⟩) ?_
      conv => whnf
      refine ⟨(), ?_⟩
      conv => whnf
      refine And.intro (by simp only [allP, List.nil_append, List.cons_append, true_and]; skip) ?_
      conv => whnf
      rfl
  have hno : ¬ (i < bodies.length) ∨ (i < bodies.length ∧ ¬ i < 30) := by omega
  rcases hno with hno | ⟨hno, hno'⟩
  case' inl =>
    rw [show decide ((i : Int) < ((bodies.length : Nat) : Int)) = false from decide_eq_false (by omega)]
    conv => whnf
  case' inr =>
    rw [show decide ((i : Int) < ((bodies.length : Nat) : Int)) = true from decide_eq_true (by omega)]
    conv => whnf
    rw [show decide ((i : Int) < 30) = false from decide_eq_false (by omega)]
    conv => whnf
  all_goals
    generalize hW : bodies.take i = want at *
    obtain ⟨S, hS⟩ : ∃ S : Nat, min tail.length 3 = S := ⟨_, rfl⟩
    have hmin : (if (3 : Int) < ((bl tail).length : Int) then (3 : Int) else ((bl tail).length : Int)) = (S : Int) := by rw [htl]; split <;> omega
    rw [hmin]
    refine And.intro (by simp only [allP, List.nil_append, List.cons_append, true_and]; rw [htl]; omega) ?_
    conv => whnf
    rw [show List.drop (Int.toNat 0) (List.take ((S : Int)).toNat (bl tail)) = bl (tail.take S) from by rw [Int.toNat_natCast, show Int.toNat 0 = 0 from rfl, List.drop_zero, bl_take]]
    conv => whnf
    have hsl : (tail.take S).length = S := by rw [List.length_take]; omega
    generalize hsh : tail.take S = short at hsl ⊢
    refine And.intro (by simp only [allP, List.nil_append, List.cons_append, true_and]; rw [bl_length, bl_length]; omega) ?_
    conv => whnf
    refine ⟨(), ?_⟩
    conv => whnf
    refine And.intro (by simp only [allP, List.nil_append, List.cons_append, true_and]; skip) ?_
    conv => whnf
    have hu0 : unfA (catF want ++ short) = some (want, short) := unfA_puts short (by omega) _ hf
    have hl0 : (catF want ++ short).length ≤ 2000000 := by rw [List.length_append]; omega
    refine ⟨{s : List (List UInt8) × List UInt8 × List UInt8 × Nat // ahead s.1 (unfA (s.2.1 ++ s.2.2.1)) = some (want, short) ∧ (s.2.1 ++ s.2.2.1).length ≤ 2000000 ∧ s.2.2.2 ≤ min cuts.length 60}, fun s => ⟨[(2, .p false (.sl 1 (il .i64 cuts))), (7, .p false (.sl 1 (bl s.1.2.2.1))), (8, .p false (.sl 1 (ll want))), (12, .p false (.sl 1 (bl short))), (13, .ptr 0 0), (14, .rowf 1), (15, isI .i64 s.1.2.2.2)], [(0, .box [isB true, isB false, .p false (.sl 1 (bl s.1.2.1))]), (1, .row 22 1 true false (ll s.1.1))], 99⟩,
      fun s => 60 - s.1.2.2.2, ⟨⟨([], [], catF want ++ short, 0), by rw [ahead_nil]; exact hu0, hl0, Nat.zero_le _⟩, ?_⟩, ?_⟩
    · conv => whnf
      rw [← bl_append]
      exact ⟨rfl, rfl, rfl, rfl, rfl, rfl, rfl, rfl, rfl⟩
    rintro ⟨⟨got, left, rest, j⟩, hinv, hlen, hj⟩
    simp only at hinv hlen hj
    rw [List.length_append] at hlen
    show aw _ _ _ _ _ _ ⟨[(2, .p false (.sl 1 (il .i64 cuts))), (7, .p false (.sl 1 (bl rest))), (8, .p false (.sl 1 (ll want))), (12, .p false (.sl 1 (bl short))), (13, .ptr 0 0), (14, .rowf 1), (15, isI .i64 j)], [(0, .box [isB true, isB false, .p false (.sl 1 (bl left))]), (1, .row 22 1 true false (ll got))], 99⟩
    have hicl := il_length .i64 cuts
    conv => whnf
    rw [hicl]
    have hrl := bl_length rest
    obtain ⟨fz, hfz, hfw⟩ := ahead_some hinv
    have hgl := congrArg List.length hfw
    rw [List.length_append] at hgl
    by_cases hgo2 : j < min cuts.length 60
    · rw [show decide ((j : Int) < ((cuts.length : Nat) : Int)) = true from decide_eq_true (by omega)]
      conv => whnf
      rw [show decide ((j : Int) < 60) = true from decide_eq_true (by omega)]
      conv => whnf
      have hlt : j < cuts.length := by omega
      refine And.intro (by simp only [allP, List.nil_append, List.cons_append, true_and]; rw [hicl]; omega) ?_
      conv => whnf
      rw [Int.toNat_natCast, il_getD]
      conv => whnf
      have hw1 : IntKind.i64.wrap (((bl rest).length : Int) + 1) = ((rest.length + 1 : Nat) : Int) := by rw [hrl, wrap_i64 (by omega) (by omega)]; rfl
      rw [hw1]
      have hcj := wf_i64 (h3.2.2 (cuts.getD j 0) (by rw [List.getD_eq_getElem?_getD, List.getElem?_eq_getElem hlt]; exact List.getElem_mem hlt))
      refine ⟨(cuts.getD j 0, ((rest.length + 1 : Nat) : Int)), ?_⟩
      conv => whnf
      refine And.intro (by simp only [allP, List.nil_append, List.cons_append, true_and]; exact ⟨rfl, rfl, hcj.1, hcj.2, by omega, by omega⟩) ?_
      conv => whnf
      obtain ⟨hp1, hp2⟩ := pickV_bd (x := cuts.getD j 0) (n := ((rest.length + 1 : Nat) : Int)) (by omega)
      generalize pickV (cuts.getD j 0) ((rest.length + 1 : Nat) : Int) = pv at hp1 hp2 ⊢
      obtain ⟨n, rfl⟩ : ∃ n : Nat, pv = (n : Int) := ⟨pv.toNat, by omega⟩
      refine And.intro (by simp only [allP, List.nil_append, List.cons_append, true_and]; rw [hrl]; omega) ?_
      conv => whnf
      rw [show List.drop (Int.toNat 0) (List.take ((n : Int)).toNat (bl rest)) = bl (rest.take n) from by rw [Int.toNat_natCast, show Int.toNat 0 = 0 from rfl, List.drop_zero, bl_take]]
      conv => whnf
      obtain ⟨fs, r, hu, hnext, hul⟩ := cut_step hinv n
      have htl2 : (rest.take n).length = n := by rw [List.length_take]; omega
      have hdl2 : (rest.drop n).length = rest.length - n := by rw [List.length_drop]
      obtain ⟨fy, hfy, hfyw⟩ := ahead_some hnext
      have hgl2 := congrArg List.length hfyw
      rw [List.length_append] at hgl2
      rcases fs with _ | ⟨f0, fs⟩
      case' nil =>
        refine ⟨(.inl (2, false, left, rest.take n, [], r)), ?_⟩
        conv => whnf
        refine And.intro (by simp only [allP, List.nil_append, List.cons_append, true_and]; exact ⟨rfl, rfl, rfl, rfl, by omega, hu⟩) ?_
        conv => whnf
      case' cons =>
        refine ⟨(.inl (3, false, left, rest.take n, f0 :: fs, r)), ?_⟩
        conv => whnf
        refine And.intro (by simp only [allP, List.nil_append, List.cons_append, true_and]; exact ⟨rfl, rfl, rfl, rfl, by omega, hu, by simp⟩) ?_
        conv => whnf
      all_goals
        rw [List.length_append] at hgl2
        refine And.intro (by simp only [allP, List.nil_append, List.cons_append, true_and]; simp only [ll_length, List.length_cons, List.length_nil] at hgl2 ⊢; omega) ?_
        conv => whnf
        refine And.intro (by simp only [allP, List.nil_append, List.cons_append, true_and]; rw [hrl]; omega) ?_
        conv => whnf
        rw [show List.drop ((n : Int)).toNat (List.take (((bl rest).length : Int)).toNat (bl rest)) = bl (rest.drop n) from by rw [Int.toNat_natCast, Int.toNat_natCast, List.take_length, bl_drop]]
        refine ⟨⟨(_, r, rest.drop n, j + 1), hnext, by simp only; rw [List.length_append, hdl2]; omega, by simp only; omega⟩, by simp only; omega, ?_⟩
        conv => whnf
        exact ⟨rfl, rfl, rfl, rfl, by rw [wrap_i64 (by omega) (by omega)]; rfl, rfl, rfl, rfl, by rw [ll_append]; rfl⟩
    have hno2 : ¬ (j < cuts.length) ∨ (j < cuts.length ∧ ¬ j < 60) := by omega
    rcases hno2 with hno2 | ⟨hno2, hno2'⟩
    case' inl =>
      rw [show decide ((j : Int) < ((cuts.length : Nat) : Int)) = false from decide_eq_false (by omega)]
      conv => whnf
    case' inr =>
      rw [show decide ((j : Int) < ((cuts.length : Nat) : Int)) = true from decide_eq_true (by omega)]
      conv => whnf
      rw [show decide ((j : Int) < 60) = false from decide_eq_false (by omega)]
      conv => whnf
    all_goals
      rcases fz with _ | ⟨f0, fz⟩
      case' nil =>
        refine ⟨(.inl (2, false, left, rest, [], short)), ?_⟩
        conv => whnf
        refine And.intro (by simp only [allP, List.nil_append, List.cons_append, true_and]; exact ⟨rfl, rfl, rfl, rfl, by omega, hfz⟩) ?_
        conv => whnf
        refine And.intro (by simp only [allP, List.nil_append, List.cons_append, true_and]; simp only [ll_length, List.length_cons, List.length_nil] at hgl ⊢; omega) ?_
        conv => whnf
        refine ⟨(got ++ [], want), ?_⟩
        conv => whnf
        refine And.intro (by simp only [allP, List.nil_append, List.cons_append, true_and]; exact ⟨congrArg (PV.sl 1) (ll_append _ _), rfl, by rw [List.length_append]; omega⟩) ?_
        conv => whnf
      case' cons =>
        refine ⟨(.inl (3, false, left, rest, f0 :: fz, short)), ?_⟩
        conv => whnf
        refine And.intro (by simp only [allP, List.nil_append, List.cons_append, true_and]; exact ⟨rfl, rfl, rfl, rfl, by omega, hfz, by simp⟩) ?_
        conv => whnf
        refine And.intro (by simp only [allP, List.nil_append, List.cons_append, true_and]; simp only [ll_length, List.length_cons, List.length_nil] at hgl ⊢; omega) ?_
        conv => whnf
        refine ⟨(got ++ f0 :: fz, want), ?_⟩
        conv => whnf
        refine And.intro (by simp only [allP, List.nil_append, List.cons_append, true_and]; exact ⟨congrArg (PV.sl 1) (ll_append _ _), rfl, by rw [List.length_append]; omega⟩) ?_
        conv => whnf
      all_goals
        rw [decide_eq_true hfw]
        conv => whnf
        refine ⟨(.inl (false, short)), ?_⟩
        conv => whnf
        refine And.intro (by simp only [allP, List.nil_append, List.cons_append, true_and]; exact ⟨rfl, rfl, rfl, trivial⟩) ?_
        conv => whnf
        rw [show (((short.length : Nat) : Int) == ((bl short).length : Int)) = true from by rw [bl_length]; exact beq_self_eq_true _]
        conv => whnf
        refine ⟨(), ?_⟩
        conv => whnf
        refine And.intro (by simp only [allP, List.nil_append, List.cons_append, true_and]; skip) ?_
        conv => whnf
        rfl
theorem FrameCuts_sound : Sound Try.prog 5 lawFrameCuts := does_sound mixed tabOk_prog gF4_ok Try.func5 FrameCuts_does
end Go.Proofs.Ytjgmlkogppibfaa.Ev
