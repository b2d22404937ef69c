/- Frames: put, read. No conditions. -/
import Derived.Test.YtjgmlkogppibfaaEvBytes
import Derived.Test.YtjgmlkogppibfaaEvRef01
namespace Go.Proofs.Ytjgmlkogppibfaa.Ev
open Go
set_option linter.unusedVariables false
set_option linter.unusedSimpArgs false
set_option maxRecDepth 100000
set_option maxHeartbeats 4000000
def gF1 : List (FuncId × Ctr) := gBytes ++ (gOct ++ (gRef01 ++ gLow))
theorem gF1_ok : GamOk Try.prog gF1 := GamOk.app gBytes_ok (GamOk.app gOct_ok (GamOk.app gRef01_ok gLow_ok))
/-- A frame: its length in four bytes, its bytes. -/
def frB (l : List UInt8) : List UInt8 := beB 4 l.length ++ l
abbrev cFPut : Ctr := ⟨Bool × List UInt8, 0, fun (c, l) => [.p false (.sl 1 (bl l))], fun _ => [], fun (c, l) => c = decide (l.length ≤ 65536),
  fun (c, l) => match c with | true => .tuple [.rowf 0, isI .i64 0] | false => .tuple [.p true .nilsl, isI .i64 3],
  fun (c, l) => match c with | true => [(0, .row 5 1 true false (bl (frB l)))] | false => []⟩
theorem fput_does : Does gF1 tab Try.f11 cFPut := by
  rintro ⟨c, l⟩ (h1 : c = decide (l.length ≤ 65536))
  have hlen := bl_length l
  conv => whnf
  rw [hlen]
  cases c
  · have h := of_decide_eq_false h1.symm
    rw [show decide ((l.length : Int) > 65536) = true from decide_eq_true (by omega)]
    conv => whnf
    exact ⟨rfl, rfl⟩
  · have h := of_decide_eq_true h1.symm
    have hw : IntKind.u32.wrap ((l.length : Nat) : Int) = (l.length : Nat) := wrap_u32 (by omega) (by omega)
    rw [show decide ((l.length : Int) > 65536) = false from decide_eq_false (by omega)]
    conv => whnf
    rw [hlen, hw]
    refine ⟨([], l.length), ?_⟩
    conv => whnf
    refine And.intro (by simp only [allP, List.nil_append, List.cons_append, true_and]; exact ⟨rfl, rfl, by omega, by simp only [List.length_nil]; omega⟩) ?_
    conv => whnf
    refine And.intro (by simp only [allP, List.nil_append, List.cons_append, true_and]; rw [bl_length, hlen]; simp only [List.length_append, beB_length, List.length_nil]; omega) ?_
    conv => whnf
    rw [← bl_append]
    exact ⟨rfl, rfl, bl_isFlat _⟩
theorem rfput_does : Does gF1 tab Try.f22 cFPut := by
  rintro ⟨c, l⟩ (h1 : c = decide (l.length ≤ 65536))
  have hlen := bl_length l
  conv => whnf
  rw [hlen]
  cases c
  · have h := of_decide_eq_false h1.symm
    rw [show decide ((l.length : Int) > 65536) = true from decide_eq_true (by omega)]
    conv => whnf
    exact ⟨rfl, rfl⟩
  · have h := of_decide_eq_true h1.symm
    have hw : IntKind.u64.wrap ((l.length : Nat) : Int) = (l.length : Nat) := wrap_u64 (by omega) (by omega)
    rw [show decide ((l.length : Int) > 65536) = false from decide_eq_false (by omega)]
    conv => whnf
    rw [hlen, hw]
    refine ⟨([], l.length, 4), ?_⟩
    conv => whnf
    refine And.intro (by simp only [allP, List.nil_append, List.cons_append, true_and]; exact ⟨rfl, rfl, rfl, by decide, by omega, by simp only [List.length_nil]; omega⟩) ?_
    conv => whnf
    refine And.intro (by simp only [allP, List.nil_append, List.cons_append, true_and]; rw [bl_length, hlen]; simp only [List.length_append, beB_length, List.length_nil]; omega) ?_
    conv => whnf
    rw [← bl_append]
    exact ⟨rfl, rfl, bl_isFlat _⟩
theorem fput_sound : Sound Try.prog 11 cFPut := does_sound mixed tabOk_prog gF1_ok Try.func11 fput_does
theorem rfput_sound : Sound Try.prog 22 cFPut := does_sound mixed tabOk_prog gF1_ok Try.func22 rfput_does
/-- A new reader. -/
abbrev cFNew : Ctr := ⟨Unit, 0, fun _ => [], fun _ => [], fun _ => True, fun _ => .ptr 0 0, fun _ => [(0, .box [isB true, isB false, .p true .nilsl])]⟩
theorem fnew_does : Does [] tab Try.f12 cFNew := by
  rintro x -
  conv => whnf
  exact ⟨rfl, rfl, rfl⟩
theorem fnew_sound : Sound Try.prog 12 cFNew := does_sound mixed tabOk_prog GamOk.nil Try.func12 fnew_does
/-- Bytes as frames: those that are whole, and the rest; or one too long. -/
def unf : Nat → List UInt8 → Option (List (List UInt8) × List UInt8)
  | 0, a => some ([], a)
  | k + 1, a => match decide (a.length < 4) with
    | true => some ([], a)
    | false => match decide (65536 < numN a 0 4) with
      | true => none
      | false => match decide (a.length < 4 + numN a 0 4) with
        | true => some ([], a)
        | false => match unf k (a.drop (4 + numN a 0 4)) with
          | none => none
          | some (fs, r) => some ((a.drop 4).take (numN a 0 4) :: fs, r)
def feedV (left b : List UInt8) : Option (List (List UInt8) × List UInt8) := unf (left ++ b).length (left ++ b)
def ll (fs : List (List UInt8)) : List PV := fs.map fun f => .sl 1 (bl f)
abbrev cFeed : Ctr := ⟨Nat × Bool × List UInt8 × List UInt8 × List (List UInt8) × List UInt8, 1, fun (g, o, l, b, fs, r) => [.ptr 0 0, .p false (.sl 1 (bl b))], fun (g, o, l, b, fs, r) => [(0, .box [isB true, isB o, .p false (.sl 1 (bl l))])],
  fun (g, o, l, b, fs, r) => match g with
    | 0 => o = true
    | 1 => o = false ∧ l.length + b.length ≤ 1000000000 ∧ feedV l b = none
    | 2 => o = false ∧ l.length + b.length ≤ 1000000000 ∧ feedV l b = some ([], r)
    | _ => o = false ∧ l.length + b.length ≤ 1000000000 ∧ feedV l b = some (fs, r) ∧ fs ≠ [],
  fun (g, o, l, b, fs, r) => match g with
    | 0 => .tuple [.p true .nilsl, isI .i64 30]
    | 1 => .tuple [.p true .nilsl, isI .i64 30]
    | 2 => .tuple [.p true .nilsl, isI .i64 0]
    | _ => .tuple [.rowf 2, isI .i64 0],
  fun (g, o, l, b, fs, r) => match g with
    | 0 => [(0, .box [isB true, isB o, .p false (.sl 1 (bl l))])]
    | 1 => [(0, .box [isB true, isB true, .p true .nilsl])]
    | 2 => [(0, .box [isB true, isB false, .rowf 1]), (1, .row 5 1 true false (bl r))]
    | _ => [(0, .box [isB true, isB false, .rowf 1]), (1, .row 5 1 true false (bl r)), (2, .row 22 1 true false (ll fs))]⟩
theorem ll_length (fs : List (List UInt8)) : (ll fs).length = fs.length := by simp [ll]
theorem unf_short {k : Nat} {a : List UInt8} (hk : a.length ≤ k) (h : a.length < 4 ∨ (numN a 0 4 ≤ 65536 ∧ a.length < 4 + numN a 0 4)) : unf k a = some ([], a) := by
  cases k with
  | zero => rfl
  | succ k =>
    rw [unf]
    rcases h with h | ⟨h1, h2⟩
    · rw [decide_eq_true h]
    · by_cases h3 : a.length < 4
      · rw [decide_eq_true h3]
      · rw [decide_eq_false h3, decide_eq_false (show ¬ 65536 < numN a 0 4 by omega), decide_eq_true h2]
theorem unf_bad {k : Nat} {a : List UInt8} (hk : a.length ≤ k) (h : 4 ≤ a.length) (h2 : 65536 < numN a 0 4) : unf k a = none := by
  cases k with
  | zero => omega
  | succ k => rw [unf, decide_eq_false (by omega), decide_eq_true h2]
theorem unf_more {k : Nat} {a : List UInt8} (h : 4 ≤ a.length) (h1 : numN a 0 4 ≤ 65536) (h2 : 4 + numN a 0 4 ≤ a.length) :
    unf (k + 1) a = match unf k (a.drop (4 + numN a 0 4)) with | none => none | some (fs, r) => some ((a.drop 4).take (numN a 0 4) :: fs, r) := by
  rw [unf, decide_eq_false (by omega), decide_eq_false (by omega), decide_eq_false (by omega)]
/-- What came out ahead of it, put ahead. -/
def ahead (gs : List (List UInt8)) : Option (List (List UInt8) × List UInt8) → Option (List (List UInt8) × List UInt8)
  | none => none
  | some (fs, r) => some (gs ++ fs, r)
theorem ahead_ahead (gs : List (List UInt8)) (f : List UInt8) (o : Option (List (List UInt8) × List UInt8)) :
    ahead gs (match o with | none => none | some (fs, r) => some (f :: fs, r)) = ahead (gs ++ [f]) o := by
  rcases o with _ | ⟨fs, r⟩
  · rfl
  · show some (gs ++ f :: fs, r) = some (gs ++ [f] ++ fs, r)
    rw [List.append_assoc]; rfl
theorem feed_does : Does gF1 tab Try.f13 cFeed := by
  rintro ⟨g, o, l, b, fs, r⟩ h
  have hex : (g = 0 ∧ o = true) ∨ (o = false ∧ l.length + b.length ≤ 1000000000 ∧ ((g = 1 ∧ feedV l b = none) ∨ (g = 2 ∧ feedV l b = some ([], r)) ∨ (∃ k, g = k + 3 ∧ feedV l b = some (fs, r) ∧ fs ≠ []))) := by
    rcases g with _ | _ | _ | g
    · exact Or.inl ⟨rfl, h⟩
    · exact Or.inr ⟨h.1, h.2.1, Or.inl ⟨rfl, h.2.2⟩⟩
    · exact Or.inr ⟨h.1, h.2.1, Or.inr (Or.inl ⟨rfl, h.2.2⟩)⟩
    · exact Or.inr ⟨h.1, h.2.1, Or.inr (Or.inr ⟨g, rfl, h.2.2.1, h.2.2.2⟩)⟩
  clear h
  rcases hex with ⟨rfl, rfl⟩ | ⟨rfl, hlb, hex⟩
  · conv => whnf
    exact ⟨rfl, rfl, rfl, rfl, rfl⟩
  conv => whnf
  refine ⟨(l, b), ?_⟩
  conv => whnf
  refine And.intro (by simp only [allP, List.nil_append, List.cons_append, true_and]; exact ⟨rfl, by omega⟩) ?_
  conv => whnf
  refine ⟨{s : List (List UInt8) × List UInt8 × Nat // feedV l b = ahead s.1 (unf s.2.2 s.2.1) ∧ s.2.1.length ≤ s.2.2 ∧ 4 * s.1.length + s.2.1.length ≤ 1000000000}, fun s => match s.1.1 with
    | [] => ⟨[(0, .ptr 0 0), (6, .p false (.sl 1 (bl s.1.2.1))), (7, .p true .nilsl)], [(0, .box [isB true, isB false, .p false (.sl 1 (bl l))])], 99⟩
    | g0 :: gs => ⟨[(0, .ptr 0 0), (6, .p false (.sl 1 (bl s.1.2.1))), (7, .rowf 1)], [(0, .box [isB true, isB false, .p false (.sl 1 (bl l))]), (1, .row 22 1 true false (ll (g0 :: gs)))], 99⟩,
    fun s => s.1.2.2, ⟨⟨([], l ++ b, (l ++ b).length), by rw [feedV]; cases unf (l ++ b).length (l ++ b) <;> rfl, Nat.le_refl _, by rw [List.length_append]; show 4 * 0 + _ ≤ _; omega⟩, ?_⟩, ?_⟩
  · conv => whnf
    exact ⟨rfl, rfl, rfl, rfl, rfl⟩
  rintro ⟨⟨_ | ⟨g0, gs⟩, a, k⟩, hf, hk, ha9⟩
  · simp only at hf hk ha9
    show aw _ _ _ _ _ _ ⟨[(0, .ptr 0 0), (6, .p false (.sl 1 (bl a))), (7, .p true .nilsl)], [(0, .box [isB true, isB false, .p false (.sl 1 (bl l))])], 99⟩
    conv => whnf
    have ha : a.length ≤ 1000000000 := by omega
    have hla := bl_length a
    refine ⟨(a, 0), ?_⟩
    conv => whnf
    refine And.intro (by simp only [allP, List.nil_append, List.cons_append, true_and]; exact ⟨rfl, rfl, by omega, by decide, by decide⟩) ?_
    conv => whnf
    by_cases h4 : a.length < 4
    · have hu := unf_short (k := k) hk (Or.inl h4)
      rw [hu] at hf
      rw [show numV a 0 4 = (0, false) from numV_no (by omega)]
      conv => whnf
      refine ⟨a, ?_⟩
      conv => whnf
      refine And.intro (by simp only [allP, List.nil_append, List.cons_append, true_and]; exact ⟨rfl, by omega⟩) ?_
      conv => whnf
      refine And.intro (by first | exact Nat.le_of_ble_eq_true rfl | exact ⟨Nat.le_of_ble_eq_true rfl, rfl⟩ | exact rfl | decide | (simp [allP]; done)) ?_
      conv => whnf
      have hr : feedV l b = some ([], a) := hf
      rcases hex with ⟨rfl, e⟩ | ⟨rfl, e⟩ | ⟨q, rfl, e, e2⟩
      · rw [hr] at e; cases e
      · rw [hr] at e
        injection e with e
        injection e with _ e
        subst e
        conv => whnf
        exact ⟨rfl, rfl, rfl, rfl, rfl⟩
      · rw [hr] at e
        injection e with e
        injection e with e _
        exact absurd e.symm e2
    have hn : numV a 0 4 = (((numN a 0 4 : Nat) : Int), true) := numV_ok (by omega)
    rw [hn]
    conv => whnf
    by_cases h5 : 65536 < numN a 0 4
    · have hu := unf_bad (k := k) hk (by omega) h5
      rw [hu] at hf
      rw [show decide (((numN a 0 4 : Nat) : Int) > 65536) = true from decide_eq_true (by omega)]
      conv => whnf
      refine And.intro (by first | exact Nat.le_of_ble_eq_true rfl | exact ⟨Nat.le_of_ble_eq_true rfl, rfl⟩ | exact rfl | decide | (simp [allP]; done)) ?_
      conv => whnf
      refine And.intro (by first | exact Nat.le_of_ble_eq_true rfl | exact ⟨Nat.le_of_ble_eq_true rfl, rfl⟩ | exact rfl | decide | (simp [allP]; done)) ?_
      conv => whnf
      have hr : feedV l b = none := hf
      rcases hex with ⟨rfl, e⟩ | ⟨rfl, e⟩ | ⟨q, rfl, e, e2⟩
      · conv => whnf
        exact ⟨rfl, rfl, rfl, rfl, rfl⟩
      · rw [hr] at e; cases e
      · rw [hr] at e; cases e
    rw [show decide (((numN a 0 4 : Nat) : Int) > 65536) = false from decide_eq_false (by omega)]
    conv => whnf
    have hw1 : IntKind.i64.wrap (4 + IntKind.i64.wrap (((numN a 0 4 : Nat) : Int), true).1) = ((4 + numN a 0 4 : Nat) : Int) := by
      show IntKind.i64.wrap (4 + IntKind.i64.wrap ((numN a 0 4 : Nat) : Int)) = _
      rw [wrap_i64n (by omega), wrap_i64 (by omega) (by omega)]; omega
    rw [hla, hw1]
    by_cases h6 : a.length < 4 + numN a 0 4
    · have hu := unf_short (k := k) hk (Or.inr ⟨by omega, h6⟩)
      rw [hu] at hf
      rw [show decide ((a.length : Int) < ((4 + numN a 0 4 : Nat) : Int)) = true from decide_eq_true (by omega)]
      conv => whnf
      refine ⟨a, ?_⟩
      conv => whnf
      refine And.intro (by simp only [allP, List.nil_append, List.cons_append, true_and]; exact ⟨rfl, by omega⟩) ?_
      conv => whnf
      refine And.intro (by first | exact Nat.le_of_ble_eq_true rfl | exact ⟨Nat.le_of_ble_eq_true rfl, rfl⟩ | exact rfl | decide | (simp [allP]; done)) ?_
      conv => whnf
      have hr : feedV l b = some ([], a) := hf
      rcases hex with ⟨rfl, e⟩ | ⟨rfl, e⟩ | ⟨q, rfl, e, e2⟩
      · rw [hr] at e; cases e
      · rw [hr] at e
        injection e with e
        injection e with _ e
        subst e
        conv => whnf
        exact ⟨rfl, rfl, rfl, rfl, rfl⟩
      · rw [hr] at e
        injection e with e
        injection e with e _
        exact absurd e.symm e2
    rw [show decide ((a.length : Int) < ((4 + numN a 0 4 : Nat) : Int)) = false from decide_eq_false (by omega)]
    obtain ⟨m, rfl⟩ : ∃ m, k = m + 1 := ⟨k - 1, by omega⟩
    have hu := unf_more (k := m) (a := a) (by omega) (by omega) (by omega)
    rw [hu, ahead_ahead] at hf
    conv => whnf
    have hw2 : IntKind.u32.wrap (4 + (((numN a 0 4 : Nat) : Int), true).1) = ((4 + numN a 0 4 : Nat) : Int) := by
      show IntKind.u32.wrap (4 + ((numN a 0 4 : Nat) : Int)) = _
      rw [wrap_u32 (by omega) (by omega)]; omega
    rw [hw2]
    have hcut : List.drop (Int.toNat 4) (List.take (((4 + numN a 0 4 : Nat) : Int)).toNat (bl a)) = bl ((a.drop 4).take (numN a 0 4)) := by
      rw [Int.toNat_natCast, show Int.toNat 4 = 4 from rfl, List.drop_take, Nat.add_sub_cancel_left, bl_drop, bl_take]
    have hrest : List.drop (((4 + numN a 0 4 : Nat) : Int)).toNat (List.take (((bl a).length : Nat) : Int).toNat (bl a)) = bl (a.drop (4 + numN a 0 4)) := by
      rw [Int.toNat_natCast, Int.toNat_natCast, List.take_length, bl_drop]
    refine And.intro (by simp only [allP, List.nil_append, List.cons_append, true_and]; rw [hla]; omega) ?_
    conv => whnf
    rw [hcut]
    conv => whnf
    refine ⟨(a.drop 4).take (numN a 0 4), ?_⟩
    conv => whnf
    refine And.intro (by simp only [allP, List.nil_append, List.cons_append, true_and]; exact ⟨rfl, by rw [List.length_take, List.length_drop]; omega⟩) ?_
    conv => whnf
    refine And.intro (by simp only [allP, List.nil_append, List.cons_append, true_and]; simp only [List.length_nil, List.length_cons]; omega) ?_
    conv => whnf
    rw [hw2]
    refine And.intro (by simp only [allP, List.nil_append, List.cons_append, true_and]; rw [hla]; omega) ?_
    conv => whnf
    rw [hrest]
    refine ⟨⟨([] ++ [(a.drop 4).take (numN a 0 4)], a.drop (4 + numN a 0 4), m), hf, by show (a.drop (4 + numN a 0 4)).length ≤ m; rw [List.length_drop]; omega, by show 4 * ([] ++ [(a.drop 4).take (numN a 0 4)]).length + (a.drop (4 + numN a 0 4)).length ≤ _; rw [List.length_drop, List.length_append, List.length_nil]; simp only [List.length_cons, List.length_nil] at ha9 ⊢; omega⟩, Nat.lt_succ_self _, ?_⟩
    conv => whnf
    exact ⟨rfl, rfl, rfl, rfl, rfl⟩
  · simp only at hf hk ha9
    show aw _ _ _ _ _ _ ⟨[(0, .ptr 0 0), (6, .p false (.sl 1 (bl a))), (7, .rowf 1)], [(0, .box [isB true, isB false, .p false (.sl 1 (bl l))]), (1, .row 22 1 true false (ll (g0 :: gs)))], 99⟩
    conv => whnf
    have ha : a.length ≤ 1000000000 := by omega
    have hla := bl_length a
    refine ⟨(a, 0), ?_⟩
    conv => whnf
    refine And.intro (by simp only [allP, List.nil_append, List.cons_append, true_and]; exact ⟨rfl, rfl, by omega, by decide, by decide⟩) ?_
    conv => whnf
    by_cases h4 : a.length < 4
    · have hu := unf_short (k := k) hk (Or.inl h4)
      rw [hu] at hf
      rw [show numV a 0 4 = (0, false) from numV_no (by omega)]
      conv => whnf
      refine ⟨a, ?_⟩
      conv => whnf
      refine And.intro (by simp only [allP, List.nil_append, List.cons_append, true_and]; exact ⟨rfl, by omega⟩) ?_
      conv => whnf
      refine And.intro (by first | exact Nat.le_of_ble_eq_true rfl | exact ⟨Nat.le_of_ble_eq_true rfl, rfl⟩ | exact rfl | decide | (simp [allP]; done)) ?_
      conv => whnf
      have hr : feedV l b = some ((g0 :: gs), a) := by have e9 := hf; simp only [ahead, List.append_nil] at e9; exact e9
      rcases hex with ⟨rfl, e⟩ | ⟨rfl, e⟩ | ⟨q, rfl, e, e2⟩
      · rw [hr] at e; cases e
      · rw [hr] at e
        injection e with e
        injection e with e _
        cases e
      · rw [hr] at e
        injection e with e
        injection e with e e'
        subst e
        subst e'
        conv => whnf
        exact ⟨rfl, rfl, rfl, rfl, rfl⟩
    have hn : numV a 0 4 = (((numN a 0 4 : Nat) : Int), true) := numV_ok (by omega)
    rw [hn]
    conv => whnf
    by_cases h5 : 65536 < numN a 0 4
    · have hu := unf_bad (k := k) hk (by omega) h5
      rw [hu] at hf
      rw [show decide (((numN a 0 4 : Nat) : Int) > 65536) = true from decide_eq_true (by omega)]
      conv => whnf
      refine And.intro (by first | exact Nat.le_of_ble_eq_true rfl | exact ⟨Nat.le_of_ble_eq_true rfl, rfl⟩ | exact rfl | decide | (simp [allP]; done)) ?_
      conv => whnf
      refine And.intro (by first | exact Nat.le_of_ble_eq_true rfl | exact ⟨Nat.le_of_ble_eq_true rfl, rfl⟩ | exact rfl | decide | (simp [allP]; done)) ?_
      conv => whnf
      have hr : feedV l b = none := hf
      rcases hex with ⟨rfl, e⟩ | ⟨rfl, e⟩ | ⟨q, rfl, e, e2⟩
      · conv => whnf
        exact ⟨rfl, rfl, rfl, rfl, rfl⟩
      · rw [hr] at e; cases e
      · rw [hr] at e; cases e
    rw [show decide (((numN a 0 4 : Nat) : Int) > 65536) = false from decide_eq_false (by omega)]
    conv => whnf
    have hw1 : IntKind.i64.wrap (4 + IntKind.i64.wrap (((numN a 0 4 : Nat) : Int), true).1) = ((4 + numN a 0 4 : Nat) : Int) := by
      show IntKind.i64.wrap (4 + IntKind.i64.wrap ((numN a 0 4 : Nat) : Int)) = _
      rw [wrap_i64n (by omega), wrap_i64 (by omega) (by omega)]; omega
    rw [hla, hw1]
    by_cases h6 : a.length < 4 + numN a 0 4
    · have hu := unf_short (k := k) hk (Or.inr ⟨by omega, h6⟩)
      rw [hu] at hf
      rw [show decide ((a.length : Int) < ((4 + numN a 0 4 : Nat) : Int)) = true from decide_eq_true (by omega)]
      conv => whnf
      refine ⟨a, ?_⟩
      conv => whnf
      refine And.intro (by simp only [allP, List.nil_append, List.cons_append, true_and]; exact ⟨rfl, by omega⟩) ?_
      conv => whnf
      refine And.intro (by first | exact Nat.le_of_ble_eq_true rfl | exact ⟨Nat.le_of_ble_eq_true rfl, rfl⟩ | exact rfl | decide | (simp [allP]; done)) ?_
      conv => whnf
      have hr : feedV l b = some ((g0 :: gs), a) := by have e9 := hf; simp only [ahead, List.append_nil] at e9; exact e9
      rcases hex with ⟨rfl, e⟩ | ⟨rfl, e⟩ | ⟨q, rfl, e, e2⟩
      · rw [hr] at e; cases e
      · rw [hr] at e
        injection e with e
        injection e with e _
        cases e
      · rw [hr] at e
        injection e with e
        injection e with e e'
        subst e
        subst e'
        conv => whnf
        exact ⟨rfl, rfl, rfl, rfl, rfl⟩
    rw [show decide ((a.length : Int) < ((4 + numN a 0 4 : Nat) : Int)) = false from decide_eq_false (by omega)]
    obtain ⟨m, rfl⟩ : ∃ m, k = m + 1 := ⟨k - 1, by omega⟩
    have hu := unf_more (k := m) (a := a) (by omega) (by omega) (by omega)
    rw [hu, ahead_ahead] at hf
    conv => whnf
    have hw2 : IntKind.u32.wrap (4 + (((numN a 0 4 : Nat) : Int), true).1) = ((4 + numN a 0 4 : Nat) : Int) := by
      show IntKind.u32.wrap (4 + ((numN a 0 4 : Nat) : Int)) = _
      rw [wrap_u32 (by omega) (by omega)]; omega
    rw [hw2]
    have hcut : List.drop (Int.toNat 4) (List.take (((4 + numN a 0 4 : Nat) : Int)).toNat (bl a)) = bl ((a.drop 4).take (numN a 0 4)) := by
      rw [Int.toNat_natCast, show Int.toNat 4 = 4 from rfl, List.drop_take, Nat.add_sub_cancel_left, bl_drop, bl_take]
    have hrest : List.drop (((4 + numN a 0 4 : Nat) : Int)).toNat (List.take (((bl a).length : Nat) : Int).toNat (bl a)) = bl (a.drop (4 + numN a 0 4)) := by
      rw [Int.toNat_natCast, Int.toNat_natCast, List.take_length, bl_drop]
    refine And.intro (by simp only [allP, List.nil_append, List.cons_append, true_and]; rw [hla]; omega) ?_
    conv => whnf
    rw [hcut]
    conv => whnf
    refine ⟨(a.drop 4).take (numN a 0 4), ?_⟩
    conv => whnf
    refine And.intro (by simp only [allP, List.nil_append, List.cons_append, true_and]; exact ⟨rfl, by rw [List.length_take, List.length_drop]; omega⟩) ?_
    conv => whnf
    refine And.intro (by simp only [allP, List.nil_append, List.cons_append, true_and]; simp only [ll_length, List.length_nil, List.length_cons] at ha9 ⊢; omega) ?_
    conv => whnf
    rw [hw2]
    refine And.intro (by simp only [allP, List.nil_append, List.cons_append, true_and]; rw [hla]; omega) ?_
    conv => whnf
    rw [hrest]
    refine ⟨⟨((g0 :: gs) ++ [(a.drop 4).take (numN a 0 4)], a.drop (4 + numN a 0 4), m), hf, by show (a.drop (4 + numN a 0 4)).length ≤ m; rw [List.length_drop]; omega, by show 4 * ((g0 :: gs) ++ [(a.drop 4).take (numN a 0 4)]).length + (a.drop (4 + numN a 0 4)).length ≤ _; rw [List.length_drop, List.length_append, List.length_cons]; simp only [List.length_cons, List.length_nil] at ha9 ⊢; omega⟩, Nat.lt_succ_self _, ?_⟩
    conv => whnf
    exact ⟨rfl, rfl, rfl, rfl, by show List.map _ ((g0 :: gs) ++ [_]) = _; rw [List.map_append]; rfl⟩
theorem feed_sound : Sound Try.prog 13 cFeed := does_sound mixed tabOk_prog gF1_ok Try.func13 feed_does
end Go.Proofs.Ytjgmlkogppibfaa.Ev
