/- The document's reader of frames; lent bytes written over. No conditions. -/
import Derived.Test.YtjgmlkogppibfaaEvCuts
namespace Go.Proofs.Ytjgmlkogppibfaa.Ev
open Go
set_option linter.unusedVariables false
set_option linter.unusedSimpArgs false
set_option maxRecDepth 100000
set_option maxHeartbeats 4000000
theorem numN_drop (l : List UInt8) (a i : Nat) : ∀ n, numN (l.drop a) i n = numN l (a + i) n
  | 0 => rfl
  | n + 1 => by
    rw [numN, numN, numN_drop l a i n, List.getD_eq_getElem?_getD, List.getD_eq_getElem?_getD, List.getElem?_drop, Nat.add_assoc]
theorem ll_app (a b : List (List UInt8)) : ll (a ++ b) = ll a ++ ll b := by simp [ll]
abbrev cRFeed : Ctr := ⟨Nat × Bool × List UInt8 × List UInt8 × List (List UInt8) × List UInt8, 0, fun (g, o, l, b, fs, r) => [.agg [.p false (.sl 1 (bl l)), isB o], .p false (.sl 1 (bl b))], fun _ => [],
  fun (g, o, l, b, fs, r) => match g with
    | 0 => o = true
    | 1 => o = false ∧ l.length + b.length ≤ 1000000000 ∧ feedV l b = none
    | _ => o = false ∧ l.length + b.length ≤ 1000000000 ∧ feedV l b = some (fs, r),
  fun (g, o, l, b, fs, r) => match g with
    | 0 => .tuple [.agg [.p false (.sl 1 (bl l)), isB o], .p true .nilsl, isI .i64 30]
    | 1 => .tuple [.agg [.p true .nilsl, isB true], .p true .nilsl, isI .i64 30]
    | _ => .tuple [.agg [.rowf 0, isB false], .rowf 1, isI .i64 0],
  fun (g, o, l, b, fs, r) => match g with
    | 0 => []
    | 1 => []
    | _ => [(0, .row 5 1 true false (bl r)), (1, .row 22 1 true false (ll fs))]⟩
theorem rfeed_does : Does gF1 tab Try.f18 cRFeed := by
  rintro ⟨g, o, l, b, fs, r⟩ h
  have hex : (g = 0 ∧ o = true) ∨ (o = false ∧ l.length + b.length ≤ 1000000000 ∧ ((g = 1 ∧ feedV l b = none) ∨ (∃ k, g = k + 2 ∧ feedV l b = some (fs, r)))) := by
    rcases g with _ | _ | g
    · exact Or.inl ⟨rfl, h⟩
    · exact Or.inr ⟨h.1, h.2.1, Or.inl ⟨rfl, h.2.2⟩⟩
    · exact Or.inr ⟨h.1, h.2.1, Or.inr ⟨g, rfl, h.2.2⟩⟩
  clear h
  rcases hex with ⟨rfl, rfl⟩ | ⟨rfl, hlb, hex⟩
  · conv => whnf
    refine And.intro (by first | exact Nat.le_of_ble_eq_true rfl | exact ⟨Nat.le_of_ble_eq_true rfl, rfl⟩ | exact rfl | decide | (simp [allP]; done)) ?_
    conv => whnf
    refine And.intro (by first | exact Nat.le_of_ble_eq_true rfl | exact ⟨Nat.le_of_ble_eq_true rfl, rfl⟩ | exact rfl | decide | (simp [allP]; done)) ?_
    conv => whnf
    refine And.intro (by first | exact Nat.le_of_ble_eq_true rfl | exact ⟨Nat.le_of_ble_eq_true rfl, rfl⟩ | exact rfl | decide | (simp [allP]; done)) ?_
    conv => whnf
    exact ⟨rfl, rfl, rfl, rfl⟩
  conv => whnf
  refine ⟨l, ?_⟩
  conv => whnf
  refine And.intro (by simp only [allP, List.nil_append, List.cons_append, true_and]; exact ⟨rfl, by omega⟩) ?_
  conv => whnf
  refine And.intro (by simp only [allP, List.nil_append, List.cons_append, true_and]; rw [bl_length, bl_length]; omega) ?_
  conv => whnf
  rw [← bl_append]
  have hal : (l ++ b).length ≤ 1000000000 := by rw [List.length_append]; omega
  have hfv : feedV l b = unfA (l ++ b) := rfl
  rw [hfv] at hex
  generalize l ++ b = all at hal hex ⊢
  have hbl := bl_length all
  refine ⟨{s : List (List UInt8) × Nat // unfA all = ahead s.1 (unfA (all.drop s.2)) ∧ s.2 ≤ all.length ∧ 4 * s.1.length ≤ s.2}, fun s => ⟨[(4, .ptr 0 0), (7, .p false (.sl 1 (bl all))), (8, .rowf 1), (9, isI .i64 s.1.2)], [(0, .box [.p true .nilsl, isB false]), (1, .row 22 1 true false (ll s.1.1))], 99⟩,
    fun s => all.length - s.1.2, ⟨⟨([], 0), by rw [ahead_nil]; rfl, Nat.zero_le _, Nat.le_refl _⟩, ?_⟩, ?_⟩
  · conv => whnf
    exact ⟨rfl, rfl, rfl, rfl, rfl⟩
  rintro ⟨⟨gs, a⟩, hf, ha, hg4⟩
  simp only at hf ha hg4
  show aw _ _ _ _ _ _ ⟨[(4, .ptr 0 0), (7, .p false (.sl 1 (bl all))), (8, .rowf 1), (9, isI .i64 a)], [(0, .box [.p true .nilsl, isB false]), (1, .row 22 1 true false (ll gs))], 99⟩
  conv => whnf
  have hw1 : IntKind.i64.wrap ((a : Int) + 4) = ((a + 4 : Nat) : Int) := by rw [wrap_i64 (by omega) (by omega)]; rfl
  have hdl : (all.drop a).length = all.length - a := List.length_drop
  rw [hw1, hbl]
  by_cases h4 : a + 4 ≤ all.length
  · rw [decide_eq_true (show ((a + 4 : Nat) : Int) ≤ (all.length : Int) by omega)]
    conv => whnf
    refine ⟨(all, (a : Int), 4), ?_⟩
    conv => whnf
    refine And.intro (by simp only [allP, List.nil_append, List.cons_append, true_and]; exact ⟨rfl, rfl, rfl, by decide, by omega, by omega, by omega⟩) ?_
    conv => whnf
    have hnn : numN all a 4 = numN (all.drop a) 0 4 := by rw [numN_drop, Nat.add_zero]
    rw [show numV all (a : Int) 4 = (((numN (all.drop a) 0 4 : Nat) : Int), true) from by rw [numV_ok (by omega), Int.toNat_natCast, hnn]]
    conv => whnf
    by_cases h5 : 65536 < numN (all.drop a) 0 4
    · rw [unfA_bad (a := all.drop a) (by omega) h5] at hf
      rw [show decide (((numN (all.drop a) 0 4 : Nat) : Int) > 65536) = true from decide_eq_true (by omega)]
      conv => whnf
      refine And.intro (by first | exact Nat.le_of_ble_eq_true rfl | exact ⟨Nat.le_of_ble_eq_true rfl, rfl⟩ | exact rfl | decide | (simp [allP]; done)) ?_
      conv => whnf
      rcases hex with ⟨rfl, e⟩ | ⟨q, rfl, e⟩
      · conv => whnf
        refine And.intro (by first | exact Nat.le_of_ble_eq_true rfl | exact ⟨Nat.le_of_ble_eq_true rfl, rfl⟩ | exact rfl | decide | (simp [allP]; done)) ?_
        conv => whnf
        exact ⟨rfl, rfl, rfl, rfl⟩
      · rw [hf] at e; cases e
    rw [show decide (((numN (all.drop a) 0 4 : Nat) : Int) > 65536) = false from decide_eq_false (by omega)]
    conv => whnf
    generalize hN : numN (all.drop a) 0 4 = N at hf h5 ⊢
    have hw2 : IntKind.i64.wrap (IntKind.i64.wrap ((a : Int) + 4) + IntKind.i64.wrap ((N : Nat) : Int)) = ((a + 4 + N : Nat) : Int) := by
      rw [hw1, wrap_i64n (by omega), wrap_i64 (by omega) (by omega)]; rfl
    have hw3 : IntKind.i64.wrap (IntKind.i64.wrap ((a : Int) + 4) + IntKind.i64.wrap (((N : Nat) : Int), true).1) = ((a + 4 + N : Nat) : Int) := hw2
    rw [hw3, hbl]
    by_cases h6 : a + 4 + N ≤ all.length
    · rw [show decide (((a + 4 + N : Nat) : Int) > (all.length : Int)) = false from decide_eq_false (by omega)]
      conv => whnf
      have hw4 : IntKind.i64.wrap (((a + 4 : Nat) : Int) + IntKind.i64.wrap (((N : Nat) : Int), true).1) = ((a + 4 + N : Nat) : Int) := by rw [← hw1]; exact hw2
      rw [hw1, hw4]
      refine And.intro (by simp only [allP, List.nil_append, List.cons_append, true_and]; rw [hbl]; omega) ?_
      conv => whnf
      rw [show List.drop (((a + 4 : Nat) : Int)).toNat (List.take (((a + 4 + N : Nat) : Int)).toNat (bl all)) = bl ((all.drop (a + 4)).take N) from by rw [Int.toNat_natCast, Int.toNat_natCast, List.drop_take, Nat.add_sub_cancel_left, bl_drop, bl_take]]
      conv => whnf
      refine ⟨(all.drop (a + 4)).take N, ?_⟩
      conv => whnf
      refine And.intro (by simp only [allP, List.nil_append, List.cons_append, true_and]; exact ⟨rfl, by rw [List.length_take, List.length_drop]; omega⟩) ?_
      conv => whnf
      refine And.intro (by simp only [allP, List.nil_append, List.cons_append, true_and]; rw [ll_length]; simp only [List.length_cons, List.length_nil]; omega) ?_
      conv => whnf
      rw [unfA_more (a := all.drop a) (by omega) (by omega) (by omega), hN, ahead_ahead', List.drop_drop, List.drop_drop, ← Nat.add_assoc a 4 N] at hf
      refine ⟨⟨(gs ++ [(all.drop (a + 4)).take N], a + 4 + N), hf, h6, by simp only [List.length_append, List.length_cons, List.length_nil]; omega⟩, by simp only; omega, ?_⟩
      conv => whnf
      exact ⟨rfl, by rw [hw3]; rfl, rfl, rfl, by rw [ll_app]; rfl⟩
    · rw [unfA_short (a := all.drop a) (Or.inr ⟨by omega, by omega⟩)] at hf
      rw [show decide (((a + 4 + N : Nat) : Int) > (all.length : Int)) = true from decide_eq_true (by omega)]
      conv => whnf
      refine And.intro (by simp only [allP, List.nil_append, List.cons_append, true_and]; rw [hbl]; omega) ?_
      conv => whnf
      rw [show List.drop ((a : Int)).toNat (List.take (((bl all).length : Int)).toNat (bl all)) = bl (all.drop a) from by rw [Int.toNat_natCast, Int.toNat_natCast, List.take_length, bl_drop]]
      conv => whnf
      refine ⟨all.drop a, ?_⟩
      conv => whnf
      refine And.intro (by simp only [allP, List.nil_append, List.cons_append, true_and]; exact ⟨rfl, by omega⟩) ?_
      conv => whnf
      refine And.intro (by first | exact Nat.le_of_ble_eq_true rfl | exact ⟨Nat.le_of_ble_eq_true rfl, rfl⟩ | exact rfl | decide | (simp [allP]; done)) ?_
      conv => whnf
      rcases hex with ⟨rfl, e⟩ | ⟨q, rfl, e⟩
      · rw [hf] at e; cases e
      rw [hf] at e
      simp only [ahead, List.append_nil, Option.some.injEq, Prod.mk.injEq] at e
      obtain ⟨rfl, rfl⟩ := e
      conv => whnf
      refine And.intro (by first | exact Nat.le_of_ble_eq_true rfl | exact ⟨Nat.le_of_ble_eq_true rfl, rfl⟩ | exact rfl | decide | (simp [allP]; done)) ?_
      conv => whnf
      exact ⟨rfl, rfl, rfl, rfl⟩
  · rw [decide_eq_false (show ¬ ((a + 4 : Nat) : Int) ≤ (all.length : Int) by omega)]
    rw [unfA_short (a := all.drop a) (Or.inl (by omega))] at hf
    conv => whnf
    refine And.intro (by simp only [allP, List.nil_append, List.cons_append, true_and]; rw [hbl]; omega) ?_
    conv => whnf
    rw [show List.drop ((a : Int)).toNat (List.take (((bl all).length : Int)).toNat (bl all)) = bl (all.drop a) from by rw [Int.toNat_natCast, Int.toNat_natCast, List.take_length, bl_drop]]
    conv => whnf
    refine ⟨all.drop a, ?_⟩
    conv => whnf
    refine And.intro (by simp only [allP, List.nil_append, List.cons_append, true_and]; exact ⟨rfl, by omega⟩) ?_
    conv => whnf
    refine And.intro (by first | exact Nat.le_of_ble_eq_true rfl | exact ⟨Nat.le_of_ble_eq_true rfl, rfl⟩ | exact rfl | decide | (simp [allP]; done)) ?_
    conv => whnf
    rcases hex with ⟨rfl, e⟩ | ⟨q, rfl, e⟩
    · rw [hf] at e; cases e
    rw [hf] at e
    simp only [ahead, List.append_nil, Option.some.injEq, Prod.mk.injEq] at e
    obtain ⟨rfl, rfl⟩ := e
    conv => whnf
    refine And.intro (by first | exact Nat.le_of_ble_eq_true rfl | exact ⟨Nat.le_of_ble_eq_true rfl, rfl⟩ | exact rfl | decide | (simp [allP]; done)) ?_
    conv => whnf
    exact ⟨rfl, rfl, rfl, rfl⟩
theorem rfeed_sound : Sound Try.prog 18 cRFeed := does_sound mixed tabOk_prog gF1_ok Try.func18 rfeed_does
/-- What is told and what is left stood in the bytes. -/
theorem unfA_ln : ∀ (n : Nat) (a : List UInt8), a.length ≤ n → ∀ fs r, unfA a = some (fs, r) → 4 * fs.length + r.length ≤ a.length
  | n, a, hn, fs, r, h => by
    by_cases h4 : a.length < 4
    · rw [unfA_short (Or.inl h4)] at h
      cases h
      simp
    · by_cases h5 : 65536 < numN a 0 4
      · rw [unfA_bad (by omega) h5] at h
        cases h
      · by_cases h6 : a.length < 4 + numN a 0 4
        · rw [unfA_short (Or.inr ⟨by omega, h6⟩)] at h
          cases h
          simp
        · match n, hn with
          | 0, hn => omega
          | n + 1, hn =>
            rw [unfA_more (by omega) (by omega) (by omega)] at h
            rcases hu : unfA (a.drop (4 + numN a 0 4)) with _ | ⟨gs, q⟩
            · rw [hu] at h; cases h
            · rw [hu] at h
              have ih := unfA_ln n _ (by rw [List.length_drop]; omega) _ _ hu
              rw [List.length_drop] at ih
              cases h
              rw [List.length_append]
              simp only [List.length_cons, List.length_nil]
              omega
/-! ### Marks -/
theorem byte_wrap (x : Int) : PV.int .u8 (IntKind.u8.wrap x) = bv (UInt8.ofNat (IntKind.u8.wrap x).toNat) := by
  have h : 0 ≤ IntKind.u8.wrap x ∧ IntKind.u8.wrap x < 256 := by rw [IntKind.wrap_u8]; omega
  unfold bv
  congr 1
  simp
  omega
def markB (k i : Int) : UInt8 := UInt8.ofNat (IntKind.u8.wrap ((IntKind.u64.wrap (IntKind.u64.wrap (IntKind.i64.wrap (IntKind.i64.wrap (1000003 * IntKind.i64.wrap (k + 7)) + i)) * 11400714819323198485)).fdiv (2 ^ 56))).toNat
abbrev cMark : Ctr := ⟨Int × Int, 0, fun (k, i) => [isI .i64 k, isI .i64 i], fun _ => [], fun _ => True, fun (k, i) => .p true (bv (markB k i)), fun _ => []⟩
theorem mark_does : Does [] tab Try.f45 cMark := by
  rintro ⟨k, i⟩ -
  conv => whnf
  refine And.intro (by simp only [allP, List.nil_append, List.cons_append, true_and]; decide) ?_
  conv => whnf
  exact (byte_wrap _).symm
theorem mark_sound : Sound Try.prog 45 cMark := does_sound mixed tabOk_prog GamOk.nil Try.func45 mark_does
def gMark : List (FuncId × Ctr) := (45, cMark) :: []
theorem gMark_ok : GamOk Try.prog gMark := GamOk.cons GamOk.nil Try.func45 (by kernel_rfl) (by kernel_rfl) mark_sound
/-- Written over. -/
abbrev cOver : Ctr := ⟨List UInt8, 1, fun l => [.row 0 0 l.length], fun l => [(0, .row 5 1 true false (bl (l ++ [77, 78, 79])))], fun l => l.length ≤ 140737488355000, fun _ => .tuple [], fun _ => []⟩
theorem over_does : Does gMark tab Try.f20 cOver := by
  rintro l (h1 : l.length ≤ 140737488355000)
  have hw : IntKind.i64.wrap ((l.length : Int) + 3) = ((l.length + 3 : Nat) : Int) := by rw [wrap_i64 (by omega) (by omega)]; rfl
  have hl3 : (l ++ [77, 78, 79]).length = l.length + 3 := by simp
  conv => whnf
  rw [hw]
  refine And.intro (by simp only [allP, List.nil_append, List.cons_append, true_and]; rw [bl_length, hl3]; omega) ?_
  conv => whnf
  refine ⟨{s : List UInt8 × Nat // s.1.length = l.length + 3 ∧ s.2 ≤ l.length + 3}, fun s => ⟨[(2, .row 0 0 (l.length + 3)), (3, isI .i64 s.1.2)], [(0, .row 5 1 true false (bl s.1.1))], 99⟩,
    fun s => l.length + 3 - s.1.2, ⟨⟨(l ++ [77, 78, 79], 0), hl3, Nat.zero_le _⟩, ?_⟩, ?_⟩
  · conv => whnf
    exact ⟨rfl, by rw [Int.toNat_natCast]; rfl, rfl, rfl⟩
  rintro ⟨⟨z, j⟩, hz, hj⟩
  simp only at hz hj
  have hzl := bl_length z
  show aw _ _ _ _ _ _ ⟨[(2, .row 0 0 (l.length + 3)), (3, isI .i64 j)], [(0, .row 5 1 true false (bl z))], 99⟩
  conv => whnf
  split <;> rename_i hb <;> rw [hb] <;> conv => whnf
  · simp only [decide_eq_true_eq] at hb
    refine ⟨(9, (j : Int)), ?_⟩
    conv => whnf
    refine And.intro (by simp only [allP, List.nil_append, List.cons_append, true_and]; exact ⟨rfl, rfl, trivial⟩) ?_
    conv => whnf
    refine And.intro (by simp only [allP, List.nil_append, List.cons_append, true_and]; omega) ?_
    conv => whnf
    refine ⟨⟨(z.set (0 + ((j : Int)).toNat) (markB 9 j), j + 1), by simp only [List.length_set]; exact hz, by simp only; omega⟩, by simp only; omega, ?_⟩
    conv => whnf
    exact ⟨rfl, rfl, by rw [wrap_i64 (by omega) (by omega)]; rfl, by simp [bl, List.map_set, allP]⟩
  · trivial
theorem over_sound : Sound Try.prog 20 cOver := does_sound mixed tabOk_prog gMark_ok Try.func20 over_does
/-- A reader that has ended. -/
abbrev cFeedOver : Ctr := ⟨List UInt8, 1, fun b => [.ptr 0 0, .p false (.sl 1 (bl b))], fun _ => [(0, .box [isB true, isB true, .p true .nilsl])], fun _ => True, fun _ => .tuple [.p true .nilsl, isI .i64 30], fun _ => [(0, .box [isB true, isB true, .p true .nilsl])]⟩
theorem feedOver_does : Does [] tab Try.f13 cFeedOver := by
  rintro b -
  conv => whnf
  exact ⟨rfl, rfl, rfl, rfl, rfl⟩
theorem feedB_sound : Sound Try.prog 13 (cFeedOver.or cFeed) := Sound.or rfl (does_sound mixed tabOk_prog GamOk.nil Try.func13 feedOver_does) feed_sound
abbrev cLeftOver : Ctr := ⟨Unit, 1, fun _ => [.ptr 0 0], fun _ => [(0, .box [isB true, isB true, .p true .nilsl])], fun _ => True, fun _ => isI .i64 0, fun _ => [(0, .box [isB true, isB true, .p true .nilsl])]⟩
theorem leftOver_does : Does [] tab Try.f15 cLeftOver := by
  rintro b -
  conv => whnf
  exact ⟨rfl, rfl, rfl, rfl⟩
theorem leftB_sound : Sound Try.prog 15 (cLeftOver.or cFLeft) := Sound.or rfl (does_sound mixed tabOk_prog GamOk.nil Try.func15 leftOver_does) fleft_sound
/-- All that FrameTells calls. -/
def gF5 : List (FuncId × Ctr) := (18, cRFeed) :: (20, cOver) :: (13, (cFeedOver.or cFeed)) :: (15, (cLeftOver.or cFLeft)) :: (gMark ++ gF4)
theorem gF5_ok : GamOk Try.prog gF5 := GamOk.cons (GamOk.cons (GamOk.cons (GamOk.cons (GamOk.app gMark_ok gF4_ok) Try.func15 (by kernel_rfl) (by kernel_rfl) leftB_sound) Try.func13 (by kernel_rfl) (by kernel_rfl) feedB_sound) Try.func20 (by kernel_rfl) (by kernel_rfl) over_sound) Try.func18 (by kernel_rfl) (by kernel_rfl) rfeed_sound
end Go.Proofs.Ytjgmlkogppibfaa.Ev
