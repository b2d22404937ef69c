/- BallotOnce answers true: its walk. No conditions. -/
import Derived.Test.YtpoladincbkgiaaEvLow
import Derived.Test.YtpoladincbkgiaaCtr
namespace Go.Proofs.Ytpoladincbkgiaa.Ev
open Go
set_option linter.unusedVariables false
set_option linter.unusedSimpArgs false
set_option maxRecDepth 100000
def newerV (t i ot oi : Int) : Bool := decide (t > ot) || (t == ot && decide (i ≥ oi))
abbrev cNewer : Ctr := ⟨Int × Int × Int × Int, 0, fun (t, i, ot, oi) => [isI .i64 t, isI .i64 i, isI .i64 ot, isI .i64 oi], fun _ => [], fun _ => True, fun (t, i, ot, oi) => isB (newerV t i ot oi), fun _ => []⟩
theorem newer_does : Does [] tab Try.f24 cNewer := by
  rintro ⟨t, i, ot, oi⟩ -
  conv => whnf
  cases h1 : decide (t > ot)
  · conv => whnf
    cases h2 : t == ot
    · conv => whnf
      simp only [allP, pvle_refl, Int.natCast_zero, newerV, h1, h2, and_self, and_true, true_and] <;> (try simp only [pvle, newerV, h1, h2, and_self, and_true, true_and])
      rfl
    · conv => whnf
      simp only [allP, pvle_refl, Int.natCast_zero, newerV, h1, h2, and_self, and_true, true_and] <;> (try simp only [pvle, newerV, h1, h2, and_self, and_true, true_and])
      rfl
  · conv => whnf
    simp only [allP, pvle_refl, Int.natCast_zero, newerV, h1, and_self, and_true, true_and] <;> (try simp only [pvle, newerV, h1, and_self, and_true, true_and])
    rfl
theorem newer_sound : Sound Try.prog 24 cNewer := does_sound mixed tabOk_prog GamOk.nil Try.func24 newer_does
abbrev cAsks : Ctr := ⟨Int × Int × Int × Int, 0, fun (t, f, l, i) => [isI .i64 t, isI .i64 f, isI .i64 l, isI .i64 i], fun _ => [], fun _ => True,
  fun (t, f, l, i) => .agg [.p true (.str ⟨#[]⟩), isI .u8 1, isI .i64 f, isI .i64 0, isI .i64 t, isI .i64 i, isI .i64 l, isI .i64 0, isI .i64 0, isB false, .p true .nilsl, .p true .nilsl], fun _ => []⟩
theorem asks_does : Does [] tab Try.f26 cAsks := by
  rintro ⟨t, f, l, i⟩ -
  conv => whnf
  refine And.intro (by first | exact Nat.le_of_ble_eq_true rfl | exact ⟨Nat.le_of_ble_eq_true rfl, rfl⟩ | exact rfl | decide | (simp [allP]; done)) ?_
  conv => whnf
  refine And.intro (by first | exact Nat.le_of_ble_eq_true rfl | exact ⟨Nat.le_of_ble_eq_true rfl, rfl⟩ | exact rfl | decide | (simp [allP]; done)) ?_
  conv => whnf
  exact ⟨rfl, rfl, rfl, rfl, rfl, rfl, rfl, rfl, rfl, rfl, rfl, rfl⟩
theorem asks_sound : Sound Try.prog 26 cAsks := does_sound mixed tabOk_prog GamOk.nil Try.func26 asks_does
/-- A node's answer to an ask. -/
def voteV (t v lt li mt mf mi ml : Int) : Int × Int × Bool := match decide (mt < t) with
  | true => (t, v, false)
  | false => match decide (mt > t) with
    | true => match newerV ml mi lt li with
      | true => (mt, mf, true)
      | false => (mt, 0, false)
    | false => match (v == 0) || (v == mf) with
      | true => match newerV ml mi lt li with
        | true => (mt, mf, true)
        | false => (mt, v, false)
      | false => (mt, v, false)
abbrev cVote : Ctr := ⟨Int × Int × Int × Int × Int × Int × Int × Int × (Nat → PV), 0, fun (t, v, lt, li, mt, mf, mi, ml, r) => [isI .i64 t, isI .i64 v, isI .i64 lt, isI .i64 li, .agg [.p false (r 0), .p false (r 1), isI .i64 mf, .p false (r 3), isI .i64 mt, isI .i64 mi, isI .i64 ml, .p false (r 7), .p false (r 8), .p false (r 9), .p false (r 10), .p false (r 11)]], fun _ => [], fun _ => True,
  fun (t, v, lt, li, mt, mf, mi, ml, r) => .tuple [isI .i64 (voteV t v lt li mt mf mi ml).1, isI .i64 (voteV t v lt li mt mf mi ml).2.1, isB (voteV t v lt li mt mf mi ml).2.2], fun _ => []⟩
def gB1 : List (FuncId × Ctr) := (24, cNewer) :: []
theorem gB1_ok : GamOk Try.prog gB1 := GamOk.cons GamOk.nil Try.func24 (by kernel_rfl) (by kernel_rfl) newer_sound
theorem vote_does : Does gB1 tab Try.f12 cVote := by
  rintro ⟨t, v, lt, li, mt, mf, mi, ml, r⟩ -
  conv => whnf
  cases h1 : decide (mt < t)
  · conv => whnf
    cases h2 : decide (mt > t)
    · conv => whnf
      cases h3 : v == 0
      · conv => whnf
        cases h4 : v == mf
        · conv => whnf
          simp only [allP, pvle_refl, Int.natCast_zero, voteV, h1, h2, h3, h4, Bool.or_self, Bool.false_or, and_self, and_true, true_and] <;> (try simp only [pvle, voteV, h1, h2, h3, h4, Bool.or_self, Bool.false_or, and_self, and_true, true_and])
        · conv => whnf
          refine ⟨(ml, mi, lt, li), ?_⟩
          conv => whnf
          refine And.intro (by simp only [allP, List.nil_append, List.cons_append, true_and]; exact ⟨rfl, rfl, rfl, rfl, trivial⟩) ?_
          conv => whnf
          cases h5 : newerV ml mi lt li
          · conv => whnf
            simp only [allP, pvle_refl, Int.natCast_zero, voteV, h1, h2, h3, h4, h5, Bool.or_self, Bool.false_or, Bool.true_or, and_self, and_true, true_and] <;> (try simp only [pvle, voteV, h1, h2, h3, h4, h5, Bool.or_self, Bool.false_or, Bool.true_or, and_self, and_true, true_and])
          · conv => whnf
            refine ⟨by rfl, ?_⟩
            conv => whnf
            simp only [allP, pvle_refl, Int.natCast_zero, voteV, h1, h2, h3, h4, h5, Bool.or_self, Bool.false_or, Bool.true_or, and_self, and_true, true_and] <;> (try simp only [pvle, voteV, h1, h2, h3, h4, h5, Bool.or_self, Bool.false_or, Bool.true_or, and_self, and_true, true_and])
      · conv => whnf
        refine ⟨(ml, mi, lt, li), ?_⟩
        conv => whnf
        refine And.intro (by simp only [allP, List.nil_append, List.cons_append, true_and]; exact ⟨rfl, rfl, rfl, rfl, trivial⟩) ?_
        conv => whnf
        cases h5 : newerV ml mi lt li
        · conv => whnf
          simp only [allP, pvle_refl, Int.natCast_zero, voteV, h1, h2, h3, h5, Bool.or_self, Bool.false_or, Bool.true_or, and_self, and_true, true_and] <;> (try simp only [pvle, voteV, h1, h2, h3, h5, Bool.or_self, Bool.false_or, Bool.true_or, and_self, and_true, true_and])
        · conv => whnf
          refine ⟨by rfl, ?_⟩
          conv => whnf
          simp only [allP, pvle_refl, Int.natCast_zero, voteV, h1, h2, h3, h5, Bool.or_self, Bool.false_or, Bool.true_or, and_self, and_true, true_and] <;> (try simp only [pvle, voteV, h1, h2, h3, h5, Bool.or_self, Bool.false_or, Bool.true_or, and_self, and_true, true_and])
    · conv => whnf
      refine ⟨(ml, mi, lt, li), ?_⟩
      conv => whnf
      refine And.intro (by simp only [allP, List.nil_append, List.cons_append, true_and]; exact ⟨rfl, rfl, rfl, rfl, trivial⟩) ?_
      conv => whnf
      cases h5 : newerV ml mi lt li
      · conv => whnf
        simp only [allP, pvle_refl, Int.natCast_zero, voteV, h1, h2, h5, Bool.or_self, Bool.false_or, Bool.true_or, and_self, and_true, true_and] <;> (try simp only [pvle, voteV, h1, h2, h5, Bool.or_self, Bool.false_or, Bool.true_or, and_self, and_true, true_and])
      · conv => whnf
        refine ⟨by rfl, ?_⟩
        conv => whnf
        simp only [allP, pvle_refl, Int.natCast_zero, voteV, h1, h2, h5, Bool.or_self, Bool.false_or, Bool.true_or, and_self, and_true, true_and] <;> (try simp only [pvle, voteV, h1, h2, h5, Bool.or_self, Bool.false_or, Bool.true_or, and_self, and_true, true_and])
  · conv => whnf
    simp only [allP, pvle_refl, Int.natCast_zero, voteV, h1, and_self, and_true, true_and] <;> (try simp only [pvle, voteV, h1, and_self, and_true, true_and])
theorem vote_sound : Sound Try.prog 12 cVote := does_sound mixed tabOk_prog gB1_ok Try.func12 vote_does
def gB2 : List (FuncId × Ctr) := (12, cVote) :: (26, cAsks) :: gB1
theorem gB2_ok : GamOk Try.prog gB2 := GamOk.cons (GamOk.cons gB1_ok Try.func26 (by kernel_rfl) (by kernel_rfl) asks_sound) Try.func12 (by kernel_rfl) (by kernel_rfl) vote_sound
abbrev cAwake20 : Ctr := ⟨Unit, 0, fun _ => [], fun _ => [], fun _ => True, fun _ => isB true, fun _ => []⟩
def askR (n : Nat) : PV := [.str ⟨#[]⟩, .int .u8 1, .nilsl, .int .i64 0, .nilsl, .nilsl, .nilsl, .int .i64 0, .int .i64 0, .bool false, .nilsl, .nilsl].getD n .nilsl
theorem awake20_does : Does gB2 tab Try.f13 cAwake20 := by
  rintro x -
  conv => whnf
  refine ⟨(3, 2, 1, 1), ?_⟩
  conv => whnf
  refine And.intro (by simp only [allP, List.nil_append, List.cons_append, true_and]; exact ⟨rfl, rfl, rfl, rfl, trivial⟩) ?_
  conv => whnf
  refine ⟨(3, 0, 1, 1, 3, 2, 1, 1, askR), ?_⟩
  conv => whnf
  refine And.intro (by simp only [allP, List.nil_append, List.cons_append, true_and]; exact ⟨rfl, rfl, rfl, rfl, rfl, rfl, rfl, rfl, rfl, rfl, rfl, rfl, rfl, rfl, rfl, rfl, trivial⟩) ?_
  conv => whnf
  refine ⟨(3, 1, 1, 1), ?_⟩
  conv => whnf
  refine And.intro (by simp only [allP, List.nil_append, List.cons_append, true_and]; exact ⟨rfl, rfl, rfl, rfl, trivial⟩) ?_
  conv => whnf
  refine ⟨(3, 2, 1, 1, 3, 1, 1, 1, askR), ?_⟩
  conv => whnf
  refine And.intro (by simp only [allP, List.nil_append, List.cons_append, true_and]; exact ⟨rfl, rfl, rfl, rfl, rfl, rfl, rfl, rfl, rfl, rfl, rfl, rfl, rfl, rfl, rfl, rfl, trivial⟩) ?_
  conv => whnf
  refine ⟨(2, 1, 1, 9), ?_⟩
  conv => whnf
  refine And.intro (by simp only [allP, List.nil_append, List.cons_append, true_and]; exact ⟨rfl, rfl, rfl, rfl, trivial⟩) ?_
  conv => whnf
  refine ⟨(1, 2, 1, 3), ?_⟩
  conv => whnf
  refine And.intro (by simp only [allP, List.nil_append, List.cons_append, true_and]; exact ⟨rfl, rfl, rfl, rfl, trivial⟩) ?_
  conv => whnf
  rfl
theorem awake20_sound : Sound Try.prog 13 cAwake20 := does_sound mixed tabOk_prog gB2_ok Try.func13 awake20_does
def gB3 : List (FuncId × Ctr) := (13, cAwake20) :: (gB2 ++ gLow)
theorem gB3_ok : GamOk Try.prog gB3 := GamOk.cons (GamOk.app gB2_ok gLow_ok) Try.func13 (by kernel_rfl) (by kernel_rfl) awake20_sound
theorem voteV_ok (t v lt li mt mf mi ml : Int) : ∃ t' v' ok, voteV t v lt li mt mf mi ml = (t', v', ok) ∧ t' = max t mt ∧ (ok = true → v' = mf ∧ t' = mt ∧ newerV ml mi lt li = true ∧ (mt = t → v = 0 ∨ v = mf)) ∧ (ok = false → (mt ≤ t → v' = v) ∧ (t < mt → v' = 0)) := by
  unfold voteV
  cases h1 : decide (mt < t)
  · simp only [decide_eq_false_iff_not] at h1
    cases h2 : decide (mt > t)
    · simp only [decide_eq_false_iff_not] at h2
      cases h3 : (v == 0) || (v == mf)
      · exact ⟨_, _, _, rfl, by omega, fun h => by simp at h, fun _ => ⟨fun _ => rfl, fun h => by omega⟩⟩
      · cases h4 : newerV ml mi lt li
        · exact ⟨_, _, _, rfl, by omega, fun h => by simp at h, fun _ => ⟨fun _ => rfl, fun h => by omega⟩⟩
        · exact ⟨_, _, _, rfl, by omega, fun _ => ⟨rfl, rfl, rfl, fun _ => by simpa using h3⟩, fun h => by simp at h⟩
    · simp only [decide_eq_true_eq] at h2
      cases h4 : newerV ml mi lt li
      · exact ⟨_, _, _, rfl, by omega, fun h => by simp at h, fun _ => ⟨fun h => by omega, fun _ => rfl⟩⟩
      · exact ⟨_, _, _, rfl, by omega, fun _ => ⟨rfl, rfl, rfl, fun h => by omega⟩, fun h => by simp at h⟩
  · simp only [decide_eq_true_eq] at h1
    exact ⟨_, _, _, rfl, by omega, fun h => by simp at h, fun _ => ⟨fun _ => rfl, fun h => by omega⟩⟩
theorem zeros_getD (n i : Nat) : (List.replicate n (0 : Int)).getD i 0 = 0 := by
  rw [List.getD_eq_getElem?_getD, List.getElem?_replicate]
  split <;> rfl
theorem ballotOnce_does : Does gB3 tab Try.f3 lawBallotOnce := by
  rintro ⟨lt, li, l⟩ ⟨h1, h2, h3⟩
  obtain ⟨hl1, hl2, hl3⟩ : l.length * 136 ≤ 140737488351232 ∧ l.length ≤ 9223372036854775807 ∧ ∀ e ∈ l, ok28 e := h3
  have h1 := wf_i64 (a := lt) h1
  have h2 := wf_i64 (a := li) h2
  conv => whnf
  refine And.intro (by simp only [allP, List.nil_append, List.cons_append, true_and]; decide) ?_
  conv => whnf
  refine ⟨{q : Nat × Nat × Int × List Int // q.1 ≤ 100 ∧ q.1 ≤ l.length ∧ q.2.1 ≤ 9 ∧ q.2.2.2.length = 12 ∧ q.2.2.2.getD q.2.1 0 = q.2.2.1 ∧ ∀ s, q.2.1 < s → q.2.2.2.getD s 0 = 0},
    fun q => ⟨[(0, isI .i64 lt), (1, isI .i64 li), (2, .p false (.sl 12 (l.map fun x => elOf (pv28 x)))), (7, isI .i64 q.1.2.1), (8, isI .i64 q.1.2.2.1), (9, .row 0 0 12), (10, isI .i64 q.1.1)], [(0, .row 3 1 true false (il .i64 q.1.2.2.2))], 99⟩, fun q => 100 - q.1.1, ⟨⟨(0, 0, 0, List.replicate 12 0), by decide, by simp, by decide, by decide, rfl, fun s hs => zeros_getD 12 s⟩, ?_⟩, ?_⟩
  · conv => whnf
    exact ⟨rfl, rfl, rfl, rfl, rfl, rfl, rfl, rfl, (il_zeros .i64 12).symm⟩
  rintro ⟨⟨i, t, v, yes⟩, q1, q2, q3, q4, q5, q6⟩
  simp only at q1 q2 q3 q4 q5 q6
  show aw _ _ _ _ _ _ ⟨[(0, isI .i64 lt), (1, isI .i64 li), (2, .p false (.sl 12 (l.map fun x => elOf (pv28 x)))), (7, isI .i64 t), (8, isI .i64 v), (9, .row 0 0 12), (10, isI .i64 i)], [(0, .row 3 1 true false (il .i64 yes))], 99⟩
  have hll : (l.map fun x => elOf (pv28 x)).length = l.length := by simp
  conv => whnf
  split <;> rename_i hb1 <;> rw [hb1] <;> conv => whnf
  rotate_left
  · refine ⟨(), ?_⟩
    conv => whnf
    refine And.intro (by simp only [allP, List.nil_append, List.cons_append, true_and]; done) ?_
    conv => whnf
  split <;> rename_i hb2 <;> rw [hb2] <;> conv => whnf
  rotate_left
  · refine ⟨(), ?_⟩
    conv => whnf
    refine And.intro (by simp only [allP, List.nil_append, List.cons_append, true_and]; done) ?_
    conv => whnf
  simp only [decide_eq_true_eq, hll] at hb1
  simp only [cond_true, decide_eq_true_eq] at hb2
  refine And.intro (by simp only [allP, List.nil_append, List.cons_append, true_and]; rw [hll]; omega) ?_
  conv => whnf
  have hi : i < l.length := by omega
  rw [Int.toNat_natCast, map_getD _ _ _ _ hi]
  have hy := hl3 l[i] (List.getElem_mem hi)
  obtain ⟨⟨g, kd, fr, to, tm, ix, lgt, cm, rd, okb, en, sn⟩, hye⟩ : ∃ y, l[i] = y := ⟨_, rfl⟩
  rw [hye] at hy ⊢
  clear hye
  obtain ⟨-, -, w2, w3, w4, w5, w6, -⟩ := hy
  have w2 := wf_i64 w2
  have w4 := wf_i64 w4
  conv => whnf
  refine And.intro (by first | exact Nat.le_of_ble_eq_true rfl | exact ⟨Nat.le_of_ble_eq_true rfl, rfl⟩ | exact rfl | decide | (simp [allP]; done)) ?_
  conv => whnf
  refine And.intro (by first | exact Nat.le_of_ble_eq_true rfl | exact ⟨Nat.le_of_ble_eq_true rfl, rfl⟩ | exact rfl | decide | (simp [allP]; done)) ?_
  conv => whnf
  refine ⟨(tm, 10), ?_⟩
  conv => whnf
  refine And.intro (by simp only [allP, List.nil_append, List.cons_append, true_and]; exact ⟨rfl, rfl, w4.1, w4.2, by decide, by decide⟩) ?_
  conv => whnf
  refine ⟨(fr, 5), ?_⟩
  conv => whnf
  refine And.intro (by simp only [allP, List.nil_append, List.cons_append, true_and]; exact ⟨rfl, rfl, w2.1, w2.2, by decide, by decide⟩) ?_
  conv => whnf
  have pm := pickV_bd (x := tm) (n := 10) (by decide)
  have pf := pickV_bd (x := fr) (n := 5) (by decide)
  have hwf : IntKind.i64.wrap (1 + pickV fr 5) = 1 + pickV fr 5 := wrap_i64 (by omega) (by omega)
  rw [hwf]
  obtain ⟨mt, hmt⟩ : ∃ mt : Nat, pickV tm 10 = (mt : Nat) := ⟨(pickV tm 10).toNat, by omega⟩
  obtain ⟨mf, hmf⟩ : ∃ mf, 1 + pickV fr 5 = mf := ⟨_, rfl⟩
  rw [hmt] at pm ⊢
  have pf : 1 ≤ mf ∧ mf ≤ 5 := by omega
  rw [hmf]
  clear hmt hmf hwf
  refine And.intro (by first | exact Nat.le_of_ble_eq_true rfl | exact ⟨Nat.le_of_ble_eq_true rfl, rfl⟩ | exact rfl | decide | (simp [allP]; done)) ?_
  conv => whnf
  refine And.intro (by first | exact Nat.le_of_ble_eq_true rfl | exact ⟨Nat.le_of_ble_eq_true rfl, rfl⟩ | exact rfl | decide | (simp [allP]; done)) ?_
  conv => whnf
  refine ⟨by rfl, ?_⟩
  conv => whnf
  refine And.intro (by first | exact Nat.le_of_ble_eq_true rfl | exact ⟨Nat.le_of_ble_eq_true rfl, rfl⟩ | exact rfl | decide | (simp [allP]; done)) ?_
  conv => whnf
  have hr := fun n : Nat => (pv28 (g, kd, fr, to, tm, ix, lgt, cm, rd, okb, en, sn)).getD n .nilsl
  refine ⟨(t, v, lt, li, mt, mf, ix, lgt, fun n : Nat => (pv28 (g, kd, fr, to, tm, ix, lgt, cm, rd, okb, en, sn)).getD n .nilsl), ?_⟩
  conv => whnf
  refine And.intro (by simp only [allP, List.nil_append, List.cons_append, true_and]; exact ⟨rfl, rfl, rfl, rfl, rfl, rfl, rfl, rfl, rfl, rfl, rfl, rfl, rfl, rfl, rfl, rfl, trivial⟩) ?_
  conv => whnf
  obtain ⟨t', v', ok, hv, e1, e2, e3⟩ := voteV_ok t v lt li mt mf ix lgt
  obtain ⟨T, rfl⟩ : ∃ T : Nat, t' = (T : Nat) := ⟨t'.toNat, by omega⟩
  rw [congrArg (fun x => x.1) hv, congrArg (fun x => x.2.1) hv, congrArg (fun x => x.2.2) hv]
  dsimp only
  have hmax : (if (t : Int) < (mt : Int) then (mt : Int) else (t : Int)) = (T : Int) := by split <;> omega
  have hT : T ≤ 9 := by omega
  have hidx : ∀ j : Nat, (il .i64 yes).getD (0 + ((j : Nat) : Int).toNat) (PV.int .i64 0) = PV.int .i64 (yes.getD j 0) := fun j => by rw [Nat.zero_add, Int.toNat_natCast, il_getD]
  have hw1 : IntKind.i64.wrap ((i : Int) + 1) = ((i + 1 : Nat) : Int) := by rw [wrap_i64 (by omega) (by omega)]; rfl
  cases ok
  · have hyes : yes.getD T 0 = v' := by
      by_cases h : mt ≤ t
      · have h7 := (e3 rfl).1 (by omega)
        obtain rfl : T = t := by omega
        rw [q5, h7]
      · have h7 := (e3 rfl).2 (by omega)
        rw [h7]
        exact q6 T (by omega)
    have hyz : ∀ s, T < s → yes.getD s 0 = 0 := fun s hs => q6 s (by omega)
    conv => whnf
    split <;> rename_i hb
    · exfalso; (try simp [] at hb) <;> omega
    rw [hb]
    clear hb
    conv => whnf
    split <;> rename_i hb
    · exfalso; (try simp [hmax] at hb) <;> omega
    rw [hb]
    clear hb
    conv => whnf
    by_cases hTt : T = t
    · have hvv : v' = v := (e3 rfl).1 (by omega)
      split <;> rename_i hb
      rotate_left
      · exfalso; (try simp [hTt] at hb) <;> omega
      rw [hb]
      clear hb
      conv => whnf
      split <;> rename_i hb
      · exfalso; (try simp [hvv] at hb) <;> omega
      rw [hb]
      clear hb
      conv => whnf
      refine And.intro (by simp only [allP, List.nil_append, List.cons_append, true_and]; omega) ?_
      conv => whnf
      refine And.intro (by simp only [allP, List.nil_append, List.cons_append, true_and]; rw [hidx]; rfl) ?_
      conv => whnf
      rw [hidx, hyes]
      conv => whnf
      split <;> rename_i hb
      · exfalso; (try simp [] at hb) <;> omega
      rw [hb]
      clear hb
      conv => whnf
      refine ⟨⟨(i + 1, T, v', yes), by simp only; omega, by simp only; omega, hT, q4, hyes, hyz⟩, by simp only; omega, ?_⟩
      conv => whnf
      simp only [allP, pvle_refl, Int.natCast_zero, hw1, and_self, and_true, true_and] <;> (try simp only [pvle, hw1, and_self, and_true, true_and])
    · split <;> rename_i hb
      · exfalso; (try simp [hTt] at hb) <;> omega
      rw [hb]
      clear hb
      conv => whnf
      refine And.intro (by simp only [allP, List.nil_append, List.cons_append, true_and]; omega) ?_
      conv => whnf
      refine And.intro (by simp only [allP, List.nil_append, List.cons_append, true_and]; rw [hidx]; rfl) ?_
      conv => whnf
      rw [hidx, hyes]
      conv => whnf
      split <;> rename_i hb
      · exfalso; (try simp [] at hb) <;> omega
      rw [hb]
      clear hb
      conv => whnf
      refine ⟨⟨(i + 1, T, v', yes), by simp only; omega, by simp only; omega, hT, q4, hyes, hyz⟩, by simp only; omega, ?_⟩
      conv => whnf
      simp only [allP, pvle_refl, Int.natCast_zero, hw1, and_self, and_true, true_and] <;> (try simp only [pvle, hw1, and_self, and_true, true_and])
  · obtain ⟨rfl, e5, e6, e7⟩ := e2 rfl
    conv => whnf
    split <;> rename_i hb
    · exfalso; (try simp [] at hb) <;> omega
    rw [hb]
    clear hb
    conv => whnf
    split <;> rename_i hb
    · exfalso; (try simp [hmax] at hb) <;> omega
    rw [hb]
    clear hb
    conv => whnf
    split <;> rename_i hb
    · exfalso; (try simp [] at hb) <;> omega
    rw [hb]
    clear hb
    conv => whnf
    split <;> rename_i hb
    · exfalso; (try simp [e5] at hb) <;> omega
    rw [hb]
    clear hb
    conv => whnf
    refine And.intro (by simp only [allP, List.nil_append, List.cons_append, true_and]; omega) ?_
    conv => whnf
    have hyT : yes.getD T 0 = 0 ∨ yes.getD T 0 = v' := by
      by_cases h : T = t
      · subst h
        rcases e7 (by omega) with h | h
        · left; rw [q5, h]
        · right; rw [q5, h]
      · exact .inl (q6 T (by omega))
    have hnew : lgt > lt ∨ lgt = lt ∧ ix ≥ li := by
      unfold newerV at e6
      simpa using e6
    have hset : (il .i64 yes).set (0 + ((T : Nat) : Int).toNat) (PV.int .i64 v') = il .i64 (yes.set T v') := by rw [Nat.zero_add, Int.toNat_natCast, il_set]
    have hsT : (yes.set T v').getD T 0 = v' := by rw [List.getD_eq_getElem?_getD, List.getElem?_set_self (by omega)]; rfl
    have hidx2 : (il .i64 (yes.set T v')).getD (0 + ((T : Nat) : Int).toNat) (PV.int .i64 0) = PV.int .i64 v' := by rw [Nat.zero_add, Int.toNat_natCast, il_getD, hsT]
    have hsz : ∀ s, T < s → (yes.set T v').getD s 0 = 0 := by
      intro s hs
      rw [List.getD_eq_getElem?_getD, List.getElem?_set_ne (by omega), ← List.getD_eq_getElem?_getD]
      exact q6 s (by omega)
    refine And.intro (by simp only [allP, List.nil_append, List.cons_append, true_and]; rw [hidx]; rfl) ?_
    conv => whnf
    rw [hidx]
    obtain ⟨yt, hyt⟩ : ∃ yt, yes.getD T 0 = yt := ⟨_, rfl⟩
    rw [hyt] at hyT ⊢
    rcases hyT with h0 | h0
    · subst h0
      conv => whnf
      rcases hnew with hn | ⟨hn, hn2⟩
      · split <;> rename_i hb
        rotate_left
        · exfalso; (try simp [hn] at hb) <;> omega
        rw [hb]
        clear hb
        conv => whnf
        refine ⟨by rfl, ?_⟩
        conv => whnf
        refine And.intro (by simp only [allP, List.nil_append, List.cons_append, true_and]; omega) ?_
        conv => whnf
        rw [hset]
        conv => whnf
        refine And.intro (by simp only [allP, List.nil_append, List.cons_append, true_and]; omega) ?_
        conv => whnf
        refine And.intro (by simp only [allP, List.nil_append, List.cons_append, true_and]; rw [hidx2]; rfl) ?_
        conv => whnf
        rw [hidx2]
        conv => whnf
        split <;> rename_i hb
        · exfalso; (try simp [] at hb) <;> omega
        rw [hb]
        clear hb
        conv => whnf
        refine ⟨⟨(i + 1, T, v', yes.set T v'), by simp only; omega, by simp only; omega, hT, by simp only [List.length_set]; exact q4, hsT, hsz⟩, by simp only; omega, ?_⟩
        conv => whnf
        simp only [allP, pvle_refl, Int.natCast_zero, hw1, and_self, and_true, true_and] <;> (try simp only [pvle, hw1, and_self, and_true, true_and])
      · split <;> rename_i hb
        · exfalso; (try simp [hn] at hb) <;> omega
        rw [hb]
        clear hb
        conv => whnf
        split <;> rename_i hb
        rotate_left
        · exfalso; (try simp [hn] at hb) <;> omega
        rw [hb]
        clear hb
        conv => whnf
        rw [decide_eq_true hn2]
        refine ⟨by rfl, ?_⟩
        conv => whnf
        refine And.intro (by simp only [allP, List.nil_append, List.cons_append, true_and]; omega) ?_
        conv => whnf
        rw [hset]
        conv => whnf
        refine And.intro (by simp only [allP, List.nil_append, List.cons_append, true_and]; omega) ?_
        conv => whnf
        refine And.intro (by simp only [allP, List.nil_append, List.cons_append, true_and]; rw [hidx2]; rfl) ?_
        conv => whnf
        rw [hidx2]
        conv => whnf
        split <;> rename_i hb
        · exfalso; (try simp [] at hb) <;> omega
        rw [hb]
        clear hb
        conv => whnf
        refine ⟨⟨(i + 1, T, v', yes.set T v'), by simp only; omega, by simp only; omega, hT, by simp only [List.length_set]; exact q4, hsT, hsz⟩, by simp only; omega, ?_⟩
        conv => whnf
        simp only [allP, pvle_refl, Int.natCast_zero, hw1, and_self, and_true, true_and] <;> (try simp only [pvle, hw1, and_self, and_true, true_and])
    · rw [h0] at hyt ⊢
      clear h0
      conv => whnf
      split <;> rename_i hb
      rotate_left
      · exfalso; (try simp [] at hb) <;> omega
      rw [hb]
      clear hb
      conv => whnf
      refine And.intro (by simp only [allP, List.nil_append, List.cons_append, true_and]; omega) ?_
      conv => whnf
      refine And.intro (by simp only [allP, List.nil_append, List.cons_append, true_and]; rw [hidx]; rfl) ?_
      conv => whnf
      rw [hidx, hyt]
      conv => whnf
      split <;> rename_i hb
      · exfalso; (try simp [] at hb) <;> omega
      rw [hb]
      clear hb
      conv => whnf
      rcases hnew with hn | ⟨hn, hn2⟩
      · split <;> rename_i hb
        rotate_left
        · exfalso; (try simp [hn] at hb) <;> omega
        rw [hb]
        clear hb
        conv => whnf
        refine ⟨by rfl, ?_⟩
        conv => whnf
        refine And.intro (by simp only [allP, List.nil_append, List.cons_append, true_and]; omega) ?_
        conv => whnf
        rw [hset]
        conv => whnf
        refine And.intro (by simp only [allP, List.nil_append, List.cons_append, true_and]; omega) ?_
        conv => whnf
        refine And.intro (by simp only [allP, List.nil_append, List.cons_append, true_and]; rw [hidx2]; rfl) ?_
        conv => whnf
        rw [hidx2]
        conv => whnf
        split <;> rename_i hb
        · exfalso; (try simp [] at hb) <;> omega
        rw [hb]
        clear hb
        conv => whnf
        refine ⟨⟨(i + 1, T, v', yes.set T v'), by simp only; omega, by simp only; omega, hT, by simp only [List.length_set]; exact q4, hsT, hsz⟩, by simp only; omega, ?_⟩
        conv => whnf
        simp only [allP, pvle_refl, Int.natCast_zero, hw1, and_self, and_true, true_and] <;> (try simp only [pvle, hw1, and_self, and_true, true_and])
      · split <;> rename_i hb
        · exfalso; (try simp [hn] at hb) <;> omega
        rw [hb]
        clear hb
        conv => whnf
        split <;> rename_i hb
        rotate_left
        · exfalso; (try simp [hn] at hb) <;> omega
        rw [hb]
        clear hb
        conv => whnf
        rw [decide_eq_true hn2]
        refine ⟨by rfl, ?_⟩
        conv => whnf
        refine And.intro (by simp only [allP, List.nil_append, List.cons_append, true_and]; omega) ?_
        conv => whnf
        rw [hset]
        conv => whnf
        refine And.intro (by simp only [allP, List.nil_append, List.cons_append, true_and]; omega) ?_
        conv => whnf
        refine And.intro (by simp only [allP, List.nil_append, List.cons_append, true_and]; rw [hidx2]; rfl) ?_
        conv => whnf
        rw [hidx2]
        conv => whnf
        split <;> rename_i hb
        · exfalso; (try simp [] at hb) <;> omega
        rw [hb]
        clear hb
        conv => whnf
        refine ⟨⟨(i + 1, T, v', yes.set T v'), by simp only; omega, by simp only; omega, hT, by simp only [List.length_set]; exact q4, hsT, hsz⟩, by simp only; omega, ?_⟩
        conv => whnf
        simp only [allP, pvle_refl, Int.natCast_zero, hw1, and_self, and_true, true_and] <;> (try simp only [pvle, hw1, and_self, and_true, true_and])
theorem BallotOnce_sound : Sound Try.prog 3 lawBallotOnce := does_sound mixed tabOk_prog gB3_ok Try.func3 ballotOnce_does
end Go.Proofs.Ytpoladincbkgiaa.Ev
