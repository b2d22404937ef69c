/- The functions of append: what they come to. No conditions. -/
import Derived.Test.YtdkclofgaiaclaaEvEnt
namespace Go.Proofs.Ytdkclofgaiaclaa.Ev
open Go
set_option linter.unusedVariables false
set_option linter.unusedSimpArgs false
set_option maxRecDepth 100000
abbrev small (x : Int) : Prop := -1152921504606846976 ≤ x ∧ x ≤ 1152921504606846976
abbrev entZ : Ent := (0, [])
/-- The term at an index. -/
def termV (base bt : Int) (l : List Ent) (ix : Int) : Int × Bool := match ix == base with
  | true => (bt, true)
  | false => match decide (base < ix ∧ ix ≤ base + l.length) with
    | true => ((l.getD (ix - base - 1).toNat entZ).1, true)
    | false => (0, false)
theorem termV_base (base bt : Int) (l : List Ent) : termV base bt l base = (bt, true) := by unfold termV; rw [beq_self_eq_true]
theorem termV_in {base bt : Int} {l : List Ent} {ix : Int} (h : base < ix ∧ ix ≤ base + l.length) : termV base bt l ix = ((l.getD (ix - base - 1).toNat entZ).1, true) := by
  unfold termV; rw [beq_false_of_ne (by omega), decide_eq_true h]
theorem termV_out {base bt : Int} {l : List Ent} {ix : Int} (h : ix < base ∨ base + l.length < ix) : termV base bt l ix = (0, false) := by
  unfold termV; rw [beq_false_of_ne (by omega), decide_eq_false (by omega)]
abbrev cLast : Ctr := ⟨Int × List Ent, 0, fun (b, l) => [isI .i64 b, .p false (.sl 2 (eL l))], fun _ => [], fun (b, l) => small b ∧ l.length ≤ 2000000000, fun (b, l) => isI .i64 (b + l.length), fun _ => []⟩
theorem last_does : Does [] tab Try.f16 cLast := by
  rintro ⟨b, l⟩ ⟨h1, h2⟩
  have hw : IntKind.i64.wrap (b + ((eL l).length : Int)) = b + l.length := by rw [eL_length]; exact wrap_i64 (by omega) (by omega)
  conv => whnf
  simp only [allP, pvle_refl, Int.natCast_zero, hw, and_self, and_true, true_and] <;> (try simp only [pvle, hw, and_self, and_true, true_and])
theorem last_sound : Sound Try.prog 16 cLast := does_sound mixed tabOk_prog GamOk.nil Try.func16 last_does
abbrev cTermAt : Ctr := ⟨Int × Int × List Ent × Int, 0, fun (b, t, l, i) => [isI .i64 b, isI .i64 t, .p false (.sl 2 (eL l)), isI .i64 i], fun _ => [], fun (b, t, l, i) => small b ∧ small i ∧ l.length ≤ 2000000000,
  fun (b, t, l, i) => .tuple [isI .i64 (termV b t l i).1, isB (termV b t l i).2], fun _ => []⟩
def gA1 : List (FuncId × Ctr) := (16, cLast) :: gEnt
theorem gA1_ok : GamOk Try.prog gA1 := GamOk.cons gEnt_ok Try.func16 (by kernel_rfl) (by kernel_rfl) last_sound
theorem termAt_does : Does gA1 tab Try.f11 cTermAt := by
  rintro ⟨b, t, l, i⟩ ⟨h1, h2, h3⟩
  conv => whnf
  cases he : i == b
  · conv => whnf
    have hne : i ≠ b := by simpa using he
    cases hlt : decide (i < b)
    · simp only [decide_eq_false_iff_not] at hlt
      conv => whnf
      refine ⟨(b, l), ?_⟩
      conv => whnf
      refine And.intro (by simp only [allP, List.nil_append, List.cons_append, true_and]; exact ⟨rfl, rfl, h1, h3⟩) ?_
      conv => whnf
      cases hgt : decide (i > b + l.length)
      · simp only [decide_eq_false_iff_not] at hgt
        conv => whnf
        have hj : (i - b - 1).toNat < l.length := by omega
        have hw : IntKind.i64.wrap (IntKind.i64.wrap (i - b) - 1) = i - b - 1 := by rw [wrap_i64 (x := i - b) (by omega) (by omega), wrap_i64 (by omega) (by omega)]
        refine And.intro (by simp only [allP, List.nil_append, List.cons_append, true_and]; rw [hw, eL_length]; omega) ?_
        conv => whnf
        rw [hw, eL_getD _ _ _ hj]
        conv => whnf
        rw [termV_in (by omega), List.getD_eq_getElem?_getD, List.getElem?_eq_getElem hj]
        simp only [allP, pvle_refl, Int.natCast_zero, and_self, and_true, true_and] <;> (try simp only [pvle, and_self, and_true, true_and])
        trivial
      · simp only [decide_eq_true_eq] at hgt
        conv => whnf
        rw [termV_out (by omega)]
        simp only [allP, pvle_refl, Int.natCast_zero, and_self, and_true, true_and] <;> (try simp only [pvle, and_self, and_true, true_and])
    · simp only [decide_eq_true_eq] at hlt
      conv => whnf
      rw [termV_out (by omega)]
      simp only [allP, pvle_refl, Int.natCast_zero, and_self, and_true, true_and] <;> (try simp only [pvle, and_self, and_true, true_and])
  · conv => whnf
    obtain rfl : i = b := by simpa using he
    rw [termV_base]
    simp only [allP, pvle_refl, Int.natCast_zero, and_self, and_true, true_and] <;> (try simp only [pvle, and_self, and_true, true_and])
theorem termAt_sound : Sound Try.prog 11 cTermAt := does_sound mixed tabOk_prog gA1_ok Try.func11 termAt_does
abbrev cGrow : Ctr := ⟨Bool × Nat, 0, fun (b, n) => [.p true .nilsl, isI .i64 n], fun _ => [], fun (b, n) => b = decide (0 < n) ∧ n ≤ 8000000000, fun (b, n) => match b with | true => .row 0 0 0 | false => .p true .nilsl,
  fun (b, n) => match b with | true => [(0, .row 34 2 true false (List.replicate n (.agg [.int .i64 0, .nilsl])))] | false => []⟩
theorem grow_does : Does [] tab Try.f28 cGrow := by
  rintro ⟨b, n⟩ ⟨h1, h2⟩
  have hw : IntKind.i64.wrap ((n : Int) - IntKind.i64.wrap (0 - ((0 : Nat) : Int))) = n := by
    rw [show IntKind.i64.wrap (0 - ((0 : Nat) : Int)) = 0 from rfl, Int.sub_zero, wrap_i64n (by omega)]
  cases b
  · have h0 : n = 0 := by simpa using h1.symm
    conv => whnf
    rw [hw]
    split <;> rename_i hb
    · exfalso; (try simp [h0] at hb) <;> omega
    rw [hb]
    clear hb
    conv => whnf
  · have h0 : 0 < n := by simpa using h1.symm
    conv => whnf
    rw [hw]
    split <;> rename_i hb
    rotate_left
    · exfalso; (try simp [h0] at hb) <;> omega
    rw [hb]
    clear hb
    conv => whnf
    refine And.intro (by simp only [allP, List.nil_append, List.cons_append, true_and]; decide) ?_
    conv => whnf
    refine And.intro (by simp only [allP, List.nil_append, List.cons_append, true_and]; omega) ?_
    conv => whnf
    refine And.intro (by simp only [allP, List.nil_append, List.cons_append, true_and]; simp) ?_
    conv => whnf
    exact ⟨rfl, rfl, rfl⟩
theorem grow_sound : Sound Try.prog 28 cGrow := does_sound mixed tabOk_prog GamOk.nil Try.func28 grow_does
/-- Two lists, one behind the other. -/
abbrev cConcat : Ctr := ⟨List Ent × List Ent, 0, fun (a, b) => [.p false (.sl 1 [.sl 2 (eL a), .sl 2 (eL b)])], fun _ => [], fun (a, b) => a.length ≤ 2000000000 ∧ b.length ≤ 2000000000, fun _ => .rowf 0, fun (a, b) => [(0, .row 34 2 false false (eL (a ++ b)))]⟩
def gA2 : List (FuncId × Ctr) := (28, cGrow) :: (11, cTermAt) :: gA1
theorem gA2_ok : GamOk Try.prog gA2 := GamOk.cons (GamOk.cons gA1_ok Try.func11 (by kernel_rfl) (by kernel_rfl) termAt_sound) Try.func28 (by kernel_rfl) (by kernel_rfl) grow_sound
theorem concat_does : Does gA2 tab Try.f24 cConcat := by
  rintro ⟨a, b⟩ ⟨h1, h2⟩
  have hla := eL_length a
  have hlb := eL_length b
  have hw0 : IntKind.i64.wrap (0 + ((eL a).length : Int)) = ((a.length : Nat) : Int) := by rw [hla, Int.zero_add, wrap_i64n (by omega)]
  have hw1 : IntKind.i64.wrap ((a.length : Int) + ((eL b).length : Int)) = ((a.length + b.length : Nat) : Int) := by rw [hlb, ← Int.natCast_add, wrap_i64n (by omega)]
  conv => whnf
  refine ⟨Option Bool, fun i => match i with
    | none => ⟨[(0, .p false (.sl 1 [.sl 2 (eL a), .sl 2 (eL b)])), (3, isI .i64 0), (9, .p false (.sl 1 [.sl 2 (eL a), .sl 2 (eL b)])), (10, isI .i64 2), (11, isI .i64 0)], [], 99⟩
    | some false => ⟨[(0, .p false (.sl 1 [.sl 2 (eL a), .sl 2 (eL b)])), (3, isI .i64 a.length), (9, .p false (.sl 1 [.sl 2 (eL a), .sl 2 (eL b)])), (10, isI .i64 2), (11, isI .i64 1)], [], 99⟩
    | some true => ⟨[(0, .p false (.sl 1 [.sl 2 (eL a), .sl 2 (eL b)])), (3, isI .i64 (a.length + b.length : Nat)), (9, .p false (.sl 1 [.sl 2 (eL a), .sl 2 (eL b)])), (10, isI .i64 2), (11, isI .i64 2)], [], 99⟩,
    fun i => match i with | none => 2 | some false => 1 | some true => 0, ⟨none, ?_⟩, ?_⟩
  · conv => whnf
    exact ⟨rfl, rfl, rfl, rfl, rfl⟩
  rintro (_ | _ | _)
  · conv => whnf
    refine And.intro (by simp only [allP, List.nil_append, List.cons_append, true_and]; simp) ?_
    conv => whnf
    rw [hw0]
    split <;> rename_i hb
    · exfalso; (try simp [] at hb) <;> omega
    rw [hb]
    clear hb
    conv => whnf
    refine ⟨some false, by decide, ?_⟩
    conv => whnf
    exact ⟨rfl, rfl, rfl, rfl, rfl⟩
  · conv => whnf
    refine And.intro (by simp only [allP, List.nil_append, List.cons_append, true_and]; simp) ?_
    conv => whnf
    rw [hw1]
    split <;> rename_i hb
    · exfalso; (try simp [] at hb) <;> omega
    rw [hb]
    clear hb
    conv => whnf
    refine ⟨some true, by decide, ?_⟩
    conv => whnf
    exact ⟨rfl, rfl, rfl, rfl, rfl⟩
  · conv => whnf
    cases hn : decide (0 < a.length + b.length)
    · refine ⟨(false, a.length + b.length), ?_⟩
      conv => whnf
      refine And.intro (by simp only [allP, List.nil_append, List.cons_append, true_and]; exact ⟨rfl, rfl, hn.symm, by omega⟩) ?_
      conv => whnf
      refine ⟨Option Bool, fun i => match i with
        | none => ⟨[(6, .p true .nilsl), (25, .p false (.sl 1 [.sl 2 (eL a), .sl 2 (eL b)])), (26, isI .i64 2), (27, isI .i64 0)], [], 99⟩
        | some false => ⟨[(6, .rowf 0), (25, .p false (.sl 1 [.sl 2 (eL a), .sl 2 (eL b)])), (26, isI .i64 2), (27, isI .i64 1)], [(0, .row 34 2 false false (eL a))], 99⟩
        | some true => ⟨[(6, .rowf 0), (25, .p false (.sl 1 [.sl 2 (eL a), .sl 2 (eL b)])), (26, isI .i64 2), (27, isI .i64 2)], [(0, .row 34 2 false false (eL (a ++ b)))], 99⟩,
        fun i => match i with | none => 2 | some false => 1 | some true => 0, ⟨none, ?_⟩, ?_⟩
      · conv => whnf
        exact ⟨rfl, rfl, rfl, rfl⟩
      rintro (_ | _ | _)
      · conv => whnf
        refine And.intro (by simp only [allP, List.nil_append, List.cons_append, true_and]; simp) ?_
        conv => whnf
        refine And.intro (by simp only [allP, List.nil_append, List.cons_append, true_and]; rw [hla, List.length_nil]; omega) ?_
        conv => whnf
        refine ⟨some false, by decide, ?_⟩
        conv => whnf
        exact ⟨rfl, rfl, rfl, rfl⟩
      · conv => whnf
        refine And.intro (by simp only [allP, List.nil_append, List.cons_append, true_and]; simp) ?_
        conv => whnf
        refine And.intro (by simp only [allP, List.nil_append, List.cons_append, true_and]; rw [hla, hlb]; omega) ?_
        conv => whnf
        refine ⟨some true, by decide, ?_⟩
        conv => whnf
        simp only [allP, eL_append]
        exact ⟨rfl, rfl, rfl, trivial⟩
      · conv => whnf
    · refine ⟨(true, a.length + b.length), ?_⟩
      conv => whnf
      refine And.intro (by simp only [allP, List.nil_append, List.cons_append, true_and]; exact ⟨rfl, rfl, hn.symm, by omega⟩) ?_
      conv => whnf
      refine ⟨Option Bool, fun i => match i with
        | none => ⟨[(6, .row 0 0 0), (25, .p false (.sl 1 [.sl 2 (eL a), .sl 2 (eL b)])), (26, isI .i64 2), (27, isI .i64 0)], [(0, .row 34 2 true false (List.replicate (a.length + b.length) (.agg [.int .i64 0, .nilsl])))], 99⟩
        | some false => ⟨[(6, .rowf 0), (25, .p false (.sl 1 [.sl 2 (eL a), .sl 2 (eL b)])), (26, isI .i64 2), (27, isI .i64 1)], [(0, .row 34 2 false false (eL a))], 99⟩
        | some true => ⟨[(6, .rowf 0), (25, .p false (.sl 1 [.sl 2 (eL a), .sl 2 (eL b)])), (26, isI .i64 2), (27, isI .i64 2)], [(0, .row 34 2 false false (eL (a ++ b)))], 99⟩,
        fun i => match i with | none => 2 | some false => 1 | some true => 0, ⟨none, ?_⟩, ?_⟩
      · conv => whnf
        exact ⟨rfl, rfl, rfl, rfl, rfl, rfl⟩
      rintro (_ | _ | _)
      · conv => whnf
        refine And.intro (by simp only [allP, List.nil_append, List.cons_append, true_and]; simp) ?_
        conv => whnf
        refine And.intro (by simp only [allP, List.nil_append, List.cons_append, true_and]; rw [hla, List.take_zero, List.length_nil]; omega) ?_
        conv => whnf
        refine ⟨some false, by decide, ?_⟩
        conv => whnf
        exact ⟨rfl, rfl, rfl, rfl⟩
      · conv => whnf
        refine And.intro (by simp only [allP, List.nil_append, List.cons_append, true_and]; simp) ?_
        conv => whnf
        refine And.intro (by simp only [allP, List.nil_append, List.cons_append, true_and]; rw [hla, hlb]; omega) ?_
        conv => whnf
        refine ⟨some true, by decide, ?_⟩
        conv => whnf
        simp only [allP, eL_append]
        exact ⟨rfl, rfl, rfl, trivial⟩
      · conv => whnf
theorem concat_sound : Sound Try.prog 24 cConcat := does_sound mixed tabOk_prog gA2_ok Try.func24 concat_does
/-- Do they part at a place? -/
def partsV (l es : List Ent) (at_ i : Nat) : Bool := decide (at_ + i ≥ l.length) || ((l.getD (at_ + i) entZ).1 != (es.getD i entZ).1)
abbrev cParts : Ctr := ⟨Nat × List Ent × List Ent × Nat, 3, fun (at_, l, es, i) => [isI .i64 i, .ptr 0 0, .ptr 1 0, .ptr 2 0],
  fun (at_, l, es, i) => [(0, .box [isI .i64 at_]), (1, .box [.p false (.sl 2 (eL l))]), (2, .box [.p false (.sl 2 (eL es))])], fun (at_, l, es, i) => i < es.length ∧ es.length ≤ 2000000000 ∧ l.length ≤ 2000000000 ∧ at_ ≤ 2000000000,
  fun (at_, l, es, i) => isB (partsV l es at_ i), fun (at_, l, es, i) => [(0, .box [isI .i64 at_]), (1, .box [.p false (.sl 2 (eL l))]), (2, .box [.p false (.sl 2 (eL es))])]⟩
theorem parts_does : Does [] tab Try.f23 cParts := by
  rintro ⟨at_, l, es, i⟩ ⟨h1, h2, h3, h4⟩
  have hla := eL_length l
  have hle := eL_length es
  have hw : IntKind.i64.wrap ((at_ : Int) + (i : Int)) = ((at_ + i : Nat) : Int) := by rw [← Int.natCast_add, wrap_i64n (by omega)]
  conv => whnf
  rw [hw, hla]
  cases hc : decide (((at_ + i : Nat) : Int) ≥ ((l.length : Nat) : Int))
  · simp only [decide_eq_false_iff_not] at hc
    conv => whnf
    have hi : at_ + i < l.length := by omega
    refine And.intro (by simp only [allP, List.nil_append, List.cons_append, true_and]; rw [hw, hla]; omega) ?_
    conv => whnf
    rw [hw, Int.toNat_natCast, eL_getD _ _ _ hi]
    conv => whnf
    refine And.intro (by simp only [allP, List.nil_append, List.cons_append, true_and]; rw [hle]; omega) ?_
    conv => whnf
    rw [Int.toNat_natCast, eL_getD _ _ _ h1]
    conv => whnf
    refine ⟨by rfl, ?_⟩
    conv => whnf
    have hp : partsV l es at_ i = (l[at_ + i].1 != es[i].1) := by
      unfold partsV
      rw [decide_eq_false (by omega), Bool.false_or, List.getD_eq_getElem?_getD, List.getD_eq_getElem?_getD, List.getElem?_eq_getElem hi, List.getElem?_eq_getElem h1]
      rfl
    rw [hp]
    exact ⟨rfl, rfl, rfl, rfl⟩
  · simp only [decide_eq_true_eq] at hc
    conv => whnf
    refine ⟨by rfl, ?_⟩
    conv => whnf
    have hp : partsV l es at_ i = true := by
      unfold partsV
      rw [decide_eq_true (by omega)]
      rfl
    rw [hp]
    exact ⟨rfl, rfl, rfl, rfl⟩
theorem parts_sound : Sound Try.prog 23 cParts := does_sound mixed tabOk_prog GamOk.nil Try.func23 parts_does
/-- Entries, with others come from their beginning on. -/
def mg : List Ent → List Ent → List Ent
  | xs, [] => xs
  | [], e :: es => e :: es
  | x :: xs, e :: es => match x.1 == e.1 with
    | true => x :: mg xs es
    | false => e :: es
theorem mg_nil (xs : List Ent) : mg xs [] = xs := by cases xs <;> rfl
theorem mg_nil' (es : List Ent) : mg [] es = es := by cases es <;> rfl
theorem partsV_lt {l es : List Ent} {at_ i : Nat} (h : partsV l es at_ i = false) : at_ + i < l.length ∧ (l.getD (at_ + i) entZ).1 = (es.getD i entZ).1 := by
  unfold partsV at h
  simp only [Bool.or_eq_false_iff, decide_eq_false_iff_not] at h
  exact ⟨by omega, by simpa using h.2⟩
theorem mg_parts {l es : List Ent} {at_ : Nat} : ∀ i, i ≤ es.length → (∀ j, j < i → partsV l es at_ j = false) → l.take at_ ++ mg (l.drop at_) es = l.take (at_ + i) ++ mg (l.drop (at_ + i)) (es.drop i)
  | 0, _, _ => by simp
  | i + 1, h, hj => by
    rw [mg_parts i (by omega) (fun j h => hj j (by omega))]
    obtain ⟨h1, h2⟩ := partsV_lt (hj i (by omega))
    have hd1 := List.drop_eq_getElem_cons h1
    have hd2 := List.drop_eq_getElem_cons (show i < es.length by omega)
    have ht : l.take (at_ + i + 1) = l.take (at_ + i) ++ [l[at_ + i]] := by rw [List.take_add_one, List.getElem?_eq_getElem h1]; rfl
    have h3 : (l[at_ + i].1 == es[i].1) = true := by
      rw [List.getD_eq_getElem?_getD, List.getD_eq_getElem?_getD, List.getElem?_eq_getElem h1, List.getElem?_eq_getElem (show i < es.length by omega)] at h2
      simpa using h2
    rw [hd1, hd2, mg, h3, ← Nat.add_assoc, ht, List.append_assoc]
    rfl
theorem mg_stop {l es : List Ent} {at_ i : Nat} (hi : i < es.length) (h : partsV l es at_ i = true) : mg (l.drop (at_ + i)) (es.drop i) = es.drop i := by
  have hd2 := List.drop_eq_getElem_cons hi
  by_cases h1 : at_ + i < l.length
  · have hd1 := List.drop_eq_getElem_cons h1
    unfold partsV at h
    rw [decide_eq_false (by omega), Bool.false_or, List.getD_eq_getElem?_getD, List.getD_eq_getElem?_getD, List.getElem?_eq_getElem h1, List.getElem?_eq_getElem hi] at h
    have h3 : (l[at_ + i].1 == es[i].1) = false := by simpa using h
    rw [hd1, hd2, mg, h3]
  · rw [List.drop_of_length_le (by omega), mg_nil']
def mergeAt (base bt : Int) (l : List Ent) (ix tm : Int) (es : List Ent) : List Ent × Int × Bool := match (termV base bt l ix).2 && ((termV base bt l ix).1 == tm) with
  | true => (l.take (ix - base).toNat ++ mg (l.drop (ix - base).toNat) es, ix + es.length, true)
  | false => (l, 0, false)
/-- Entries come. -/
def mergeV (base bt : Int) (l : List Ent) (ix tm : Int) (es : List Ent) : List Ent × Int × Bool := match decide (ix < base) with
  | true => match decide ((es.length : Int) < base - ix) with
    | true => (l, base, true)
    | false => mergeAt base bt l base bt (es.drop (base - ix).toNat)
  | false => mergeAt base bt l ix tm es
abbrev cMerge : Ctr := ⟨Int × Int × List Ent × Int × Int × List Ent, 0, fun (b, bt, l, i, t, es) => [isI .i64 b, isI .i64 bt, .p false (.sl 2 (eL l)), isI .i64 i, isI .i64 t, .p false (.sl 2 (eL es))], fun _ => [],
  fun (b, bt, l, i, t, es) => small b ∧ small i ∧ entsOk l ∧ entsOk es ∧ l.length + es.length ≤ 2000000000, fun (b, bt, l, i, t, es) => .tuple [.rowf 0, isI .i64 (mergeV b bt l i t es).2.1, isB (mergeV b bt l i t es).2.2],
  fun (b, bt, l, i, t, es) => [(0, .row 34 2 true false (eL (mergeV b bt l i t es).1))]⟩
def gA3 : List (FuncId × Ctr) := (23, cParts) :: (24, cConcat) :: gA2
theorem gA3_ok : GamOk Try.prog gA3 := GamOk.cons (GamOk.cons gA2_ok Try.func24 (by kernel_rfl) (by kernel_rfl) concat_sound) Try.func23 (by kernel_rfl) (by kernel_rfl) parts_sound
theorem termV_ok {base bt : Int} {l : List Ent} {ix : Int} (h : (termV base bt l ix).2 = true) : base ≤ ix ∧ ix ≤ base + l.length := by
  unfold termV at h
  split at h
  · rename_i hb
    have : ix = base := by simpa using hb
    omega
  · split at h
    · rename_i hb
      simp only [decide_eq_true_eq] at hb
      omega
    · cases h
theorem entsOk_app {a b : List Ent} (h : a.length + b.length ≤ 2000000000) (ha : entsOk a) (hb : entsOk b) : entsOk (a ++ b) := ⟨by rw [List.length_append]; exact h, fun e he => by rcases List.mem_append.1 he with h | h; exact ha.2 e h; exact hb.2 e h⟩
theorem merge_does : Does gA3 tab Try.f13 cMerge := by
  rintro ⟨b, bt, l, i, t, es⟩ ⟨h1, h2, h3, h4, h5⟩
  have hla := eL_length l
  have hlE := eL_length es
  conv => whnf
  cases hlt : decide (i < b)
  · simp only [decide_eq_false_iff_not] at hlt
    have hmv : mergeV b bt l i t es = mergeAt b bt l i t es := by unfold mergeV; rw [decide_eq_false hlt]
    conv => whnf
    refine ⟨(b, bt, l, i), ?_⟩
    conv => whnf
    refine And.intro (by simp only [allP, List.nil_append, List.cons_append, true_and]; exact ⟨rfl, rfl, rfl, rfl, h1, h2, h3.1⟩) ?_
    conv => whnf
    cases hok : (termV b bt l i).2
    · conv => whnf
      refine ⟨l, ?_⟩
      conv => whnf
      refine And.intro (by simp only [allP, List.nil_append, List.cons_append, true_and]; exact ⟨rfl, h3⟩) ?_
      conv => whnf
      have hm : mergeV b bt l i t es = (l, 0, false) := by rw [hmv]; unfold mergeAt; rw [hok]; rfl
      rw [hm]
      exact ⟨rfl, rfl, rfl⟩
    obtain ⟨k1, k2⟩ := termV_ok hok
    cases htm : (termV b bt l i).1 == t
    · have htn : ((termV b bt l i).1 != t) = true := by rw [bne, htm]; rfl
      conv => whnf
      rw [htn]
      conv => whnf
      refine ⟨l, ?_⟩
      conv => whnf
      refine And.intro (by simp only [allP, List.nil_append, List.cons_append, true_and]; exact ⟨rfl, h3⟩) ?_
      conv => whnf
      have hm : mergeV b bt l i t es = (l, 0, false) := by rw [hmv]; unfold mergeAt; rw [hok, htm]; rfl
      rw [hm]
      exact ⟨rfl, rfl, rfl⟩
    have htn : ((termV b bt l i).1 != t) = false := by rw [bne, htm]; rfl
    conv => whnf
    rw [htn]
    conv => whnf
    obtain ⟨A, hA⟩ : ∃ A : Nat, i - b = (A : Int) := ⟨(i - b).toNat, by omega⟩
    have hm : mergeV b bt l i t es = (l.take A ++ mg (l.drop A) es, i + (es).length, true) := by rw [hmv]; unfold mergeAt; rw [hok, htm, hA, Int.toNat_natCast]; rfl
    have hwA : IntKind.i64.wrap (i - b) = (A : Int) := by rw [hA, wrap_i64n (by omega)]
    rw [hwA]
    refine And.intro (by first | exact Nat.le_of_ble_eq_true rfl | exact ⟨Nat.le_of_ble_eq_true rfl, rfl⟩ | exact rfl | decide | (simp [allP]; done)) ?_
    conv => whnf
    refine ⟨{k : Nat // k ≤ (es).length ∧ ∀ j, j < k → partsV l es A j = false}, fun k => ⟨[(3, isI .i64 i), (8, .ptr 0 0), (11, .ptr 1 0), (17, .ptr 2 0), (18, .func 23 [] [.ptr 2 0, .ptr 0 0, .ptr 1 0]), (61, isI .i64 (es).length), (62, isI .i64 k.1)], [(0, .box [.p false (.sl 2 (eL l))]), (1, .box [.p false (.sl 2 (eL es))]), (2, .box [isI .i64 A])], 99⟩, fun k => (es).length - k.1, ⟨⟨0, by omega, fun j h => absurd h (Nat.not_lt_zero j)⟩, ?_⟩, ?_⟩
    · conv => whnf
      simp only [allP, pvle_refl, Int.natCast_zero, hlE, and_self, and_true, true_and] <;> (try simp only [pvle, hlE, and_self, and_true, true_and])
    rintro ⟨k, hk, hkp⟩
    show aw _ _ _ _ _ _ ⟨[(3, isI .i64 i), (8, .ptr 0 0), (11, .ptr 1 0), (17, .ptr 2 0), (18, .func 23 [] [.ptr 2 0, .ptr 0 0, .ptr 1 0]), (61, isI .i64 (es).length), (62, isI .i64 k)], [(0, .box [.p false (.sl 2 (eL l))]), (1, .box [.p false (.sl 2 (eL es))]), (2, .box [isI .i64 A])], 99⟩
    have hAk : A + k ≤ l.length := by
      cases k with
      | zero => omega
      | succ k => have := (partsV_lt (hkp k (by omega))).1; omega
    have hmg := mg_parts (l := l) (es := es) (at_ := A) k hk hkp
    rw [hmg] at hm
    have hE9 := h4.1
    have hl9 := h3.1
    have hwl : IntKind.i64.wrap (i + ((eL es).length : Int)) = i + (es).length := by rw [eL_length]; exact wrap_i64 (by omega) (by omega)
    conv => whnf
    split <;> rename_i hb <;> rw [hb] <;> conv => whnf
    · simp only [decide_eq_true_eq] at hb
      have hkE : k < (es).length := by omega
      refine ⟨(A, l, es, k), ?_⟩
      conv => whnf
      refine And.intro (by simp only [allP, List.nil_append, List.cons_append, true_and]; exact ⟨rfl, rfl, rfl, rfl, hkE, hE9, hl9, by omega⟩) ?_
      conv => whnf
      cases hp : partsV l es A k
      · conv => whnf
        have hwk : IntKind.i64.wrap ((k : Int) + 1) = ((k + 1 : Nat) : Int) := by rw [wrap_i64 (by omega) (by omega)]; rfl
        refine ⟨⟨k + 1, by omega, fun j hj => by rcases Nat.lt_succ_iff_lt_or_eq.1 hj with h | h; exact hkp j h; subst h; exact hp⟩, by simp only; omega, ?_⟩
        conv => whnf
        simp only [allP, pvle_refl, Int.natCast_zero, hwk, and_self, and_true, true_and] <;> (try simp only [pvle, hwk, and_self, and_true, true_and])
      · conv => whnf
        rw [mg_stop hkE hp] at hm
        have hwAk : IntKind.i64.wrap ((A : Int) + (k : Int)) = ((A + k : Nat) : Int) := by rw [← Int.natCast_add, wrap_i64n (by omega)]
        rw [hwAk]
        refine And.intro (by simp only [allP, List.nil_append, List.cons_append, true_and]; rw [hla]; omega) ?_
        conv => whnf
        rw [show List.drop (Int.toNat 0) (List.take ((A + k : Nat) : Int).toNat (eL l)) = eL (l.take (A + k)) from by rw [Int.toNat_natCast, show Int.toNat 0 = 0 from rfl, List.drop_zero, eL_take]]
        conv => whnf
        refine And.intro (by simp only [allP, List.nil_append, List.cons_append, true_and]; rw [hlE]; omega) ?_
        conv => whnf
        rw [show List.drop ((k : Nat) : Int).toNat (List.take ((eL es).length : Int).toNat (eL es)) = eL ((es).drop k) from by rw [Int.toNat_natCast, Int.toNat_natCast, List.take_length, eL_drop]]
        conv => whnf
        refine ⟨(l.take (A + k), (es).drop k), ?_⟩
        conv => whnf
        refine And.intro (by simp only [allP, List.nil_append, List.cons_append, true_and]; exact ⟨rfl, by rw [List.length_take]; omega, by rw [List.length_drop]; omega⟩) ?_
        conv => whnf
        refine ⟨l.take (A + k) ++ (es).drop k, ?_⟩
        conv => whnf
        refine And.intro (by simp only [allP, List.nil_append, List.cons_append, true_and]; exact ⟨rfl, entsOk_app (by rw [List.length_take, List.length_drop]; omega) (h3.take _) (h4.drop _)⟩) ?_
        conv => whnf
        refine ⟨by rfl, ?_⟩
        conv => whnf
        rw [hm]
        simp only [allP, pvle_refl, Int.natCast_zero, hwl, and_self, and_true, true_and] <;> (try simp only [pvle, hwl, and_self, and_true, true_and])
    · simp only [decide_eq_false_iff_not] at hb
      have hkE : k = (es).length := by omega
      rw [hkE, List.drop_length, mg_nil, List.take_append_drop] at hm
      refine ⟨l, ?_⟩
      conv => whnf
      refine And.intro (by simp only [allP, List.nil_append, List.cons_append, true_and]; exact ⟨rfl, h3⟩) ?_
      conv => whnf
      refine ⟨by rfl, ?_⟩
      conv => whnf
      rw [hm]
      simp only [allP, pvle_refl, Int.natCast_zero, hwl, and_self, and_true, true_and] <;> (try simp only [pvle, hwl, and_self, and_true, true_and])
  · simp only [decide_eq_true_eq] at hlt
    have hwb : IntKind.i64.wrap (b - i) = b - i := wrap_i64 (by omega) (by omega)
    conv => whnf
    cases hsh : decide (((eL es).length : Int) < IntKind.i64.wrap (b - i))
    · rw [hwb, hlE] at hsh
      simp only [decide_eq_false_iff_not] at hsh
      conv => whnf
      obtain ⟨D, hD⟩ : ∃ D : Nat, b - i = (D : Int) := ⟨(b - i).toNat, by omega⟩
      have hwD : IntKind.i64.wrap (b - i) = (D : Int) := by rw [hwb, hD]
      rw [hwD]
      refine And.intro (by simp only [allP, List.nil_append, List.cons_append, true_and]; rw [hlE]; omega) ?_
      (set_option smartUnfolding false in conv => whnf)
      rw [show List.drop (D : Int).toNat (List.take ((eL es).length : Int).toNat (eL es)) = eL (es.drop (b - i).toNat) from by rw [hD, Int.toNat_natCast, Int.toNat_natCast, List.take_length, eL_drop]]
      have hmv : mergeV b bt l i t es = mergeAt b bt l b bt (es.drop (b - i).toNat) := by unfold mergeV; rw [decide_eq_true hlt, decide_eq_false hsh]
      generalize hE0 : es.drop (b - i).toNat = E at hmv ⊢
      have hE4 : entsOk E := hE0 ▸ h4.drop _
      have hE5 : E.length ≤ es.length := by rw [← hE0, List.length_drop]; omega
      have h5 : l.length + E.length ≤ 2000000000 := by omega
      have hlE := eL_length E
      conv => whnf
      refine And.intro (by simp only [allP, List.nil_append, List.cons_append, true_and]; exact ⟨Nat.le_refl _, rfl⟩) ?_
      conv => whnf
      refine ⟨(b, bt, l, b), ?_⟩
      conv => whnf
      refine And.intro (by simp only [allP, List.nil_append, List.cons_append, true_and]; exact ⟨rfl, rfl, rfl, rfl, h1, h1, h3.1⟩) ?_
      conv => whnf
      cases hok : (termV b bt l b).2
      · conv => whnf
        refine ⟨l, ?_⟩
        conv => whnf
        refine And.intro (by simp only [allP, List.nil_append, List.cons_append, true_and]; exact ⟨rfl, h3⟩) ?_
        conv => whnf
        have hm : mergeV b bt l i t es = (l, 0, false) := by rw [hmv]; unfold mergeAt; rw [hok]; rfl
        rw [hm]
        exact ⟨rfl, rfl, rfl⟩
      obtain ⟨k1, k2⟩ := termV_ok hok
      cases htm : (termV b bt l b).1 == bt
      · have htn : ((termV b bt l b).1 != bt) = true := by rw [bne, htm]; rfl
        conv => whnf
        rw [htn]
        conv => whnf
        refine ⟨l, ?_⟩
        conv => whnf
        refine And.intro (by simp only [allP, List.nil_append, List.cons_append, true_and]; exact ⟨rfl, h3⟩) ?_
        conv => whnf
        have hm : mergeV b bt l i t es = (l, 0, false) := by rw [hmv]; unfold mergeAt; rw [hok, htm]; rfl
        rw [hm]
        exact ⟨rfl, rfl, rfl⟩
      have htn : ((termV b bt l b).1 != bt) = false := by rw [bne, htm]; rfl
      conv => whnf
      rw [htn]
      conv => whnf
      obtain ⟨A, hA⟩ : ∃ A : Nat, b - b = (A : Int) := ⟨(b - b).toNat, by omega⟩
      have hm : mergeV b bt l i t es = (l.take A ++ mg (l.drop A) E, b + (E).length, true) := by rw [hmv]; unfold mergeAt; rw [hok, htm, hA, Int.toNat_natCast]; rfl
      have hwA : IntKind.i64.wrap (b - b) = (A : Int) := by rw [hA, wrap_i64n (by omega)]
      rw [hwA]
      refine And.intro (by first | exact Nat.le_of_ble_eq_true rfl | exact ⟨Nat.le_of_ble_eq_true rfl, rfl⟩ | exact rfl | decide | (simp [allP]; done)) ?_
      conv => whnf
      refine ⟨{k : Nat // k ≤ (E).length ∧ ∀ j, j < k → partsV l E A j = false}, fun k => ⟨[(3, isI .i64 b), (8, .ptr 0 0), (11, .ptr 1 0), (17, .ptr 2 0), (18, .func 23 [] [.ptr 2 0, .ptr 0 0, .ptr 1 0]), (61, isI .i64 (E).length), (62, isI .i64 k.1)], [(0, .box [.p false (.sl 2 (eL l))]), (1, .box [.p false (.sl 2 (eL E))]), (2, .box [isI .i64 A])], 99⟩, fun k => (E).length - k.1, ⟨⟨0, by omega, fun j h => absurd h (Nat.not_lt_zero j)⟩, ?_⟩, ?_⟩
      · conv => whnf
        simp only [allP, pvle_refl, Int.natCast_zero, hlE, and_self, and_true, true_and] <;> (try simp only [pvle, hlE, and_self, and_true, true_and])
      rintro ⟨k, hk, hkp⟩
      show aw _ _ _ _ _ _ ⟨[(3, isI .i64 b), (8, .ptr 0 0), (11, .ptr 1 0), (17, .ptr 2 0), (18, .func 23 [] [.ptr 2 0, .ptr 0 0, .ptr 1 0]), (61, isI .i64 (E).length), (62, isI .i64 k)], [(0, .box [.p false (.sl 2 (eL l))]), (1, .box [.p false (.sl 2 (eL E))]), (2, .box [isI .i64 A])], 99⟩
      have hAk : A + k ≤ l.length := by
        cases k with
        | zero => omega
        | succ k => have := (partsV_lt (hkp k (by omega))).1; omega
      have hmg := mg_parts (l := l) (es := E) (at_ := A) k hk hkp
      rw [hmg] at hm
      have hE9 := hE4.1
      have hl9 := h3.1
      have hwl : IntKind.i64.wrap (b + ((eL E).length : Int)) = b + (E).length := by rw [eL_length]; exact wrap_i64 (by omega) (by omega)
      conv => whnf
      split <;> rename_i hb <;> rw [hb] <;> conv => whnf
      · simp only [decide_eq_true_eq] at hb
        have hkE : k < (E).length := by omega
        refine ⟨(A, l, E, k), ?_⟩
        conv => whnf
        refine And.intro (by simp only [allP, List.nil_append, List.cons_append, true_and]; exact ⟨rfl, rfl, rfl, rfl, hkE, hE9, hl9, by omega⟩) ?_
        conv => whnf
        cases hp : partsV l E A k
        · conv => whnf
          have hwk : IntKind.i64.wrap ((k : Int) + 1) = ((k + 1 : Nat) : Int) := by rw [wrap_i64 (by omega) (by omega)]; rfl
          refine ⟨⟨k + 1, by omega, fun j hj => by rcases Nat.lt_succ_iff_lt_or_eq.1 hj with h | h; exact hkp j h; subst h; exact hp⟩, by simp only; omega, ?_⟩
          conv => whnf
          simp only [allP, pvle_refl, Int.natCast_zero, hwk, and_self, and_true, true_and] <;> (try simp only [pvle, hwk, and_self, and_true, true_and])
        · conv => whnf
          rw [mg_stop hkE hp] at hm
          have hwAk : IntKind.i64.wrap ((A : Int) + (k : Int)) = ((A + k : Nat) : Int) := by rw [← Int.natCast_add, wrap_i64n (by omega)]
          rw [hwAk]
          refine And.intro (by simp only [allP, List.nil_append, List.cons_append, true_and]; rw [hla]; omega) ?_
          conv => whnf
          rw [show List.drop (Int.toNat 0) (List.take ((A + k : Nat) : Int).toNat (eL l)) = eL (l.take (A + k)) from by rw [Int.toNat_natCast, show Int.toNat 0 = 0 from rfl, List.drop_zero, eL_take]]
          conv => whnf
          refine And.intro (by simp only [allP, List.nil_append, List.cons_append, true_and]; rw [hlE]; omega) ?_
          conv => whnf
          rw [show List.drop ((k : Nat) : Int).toNat (List.take ((eL E).length : Int).toNat (eL E)) = eL ((E).drop k) from by rw [Int.toNat_natCast, Int.toNat_natCast, List.take_length, eL_drop]]
          conv => whnf
          refine ⟨(l.take (A + k), (E).drop k), ?_⟩
          conv => whnf
          refine And.intro (by simp only [allP, List.nil_append, List.cons_append, true_and]; exact ⟨rfl, by rw [List.length_take]; omega, by rw [List.length_drop]; omega⟩) ?_
          conv => whnf
          refine ⟨l.take (A + k) ++ (E).drop k, ?_⟩
          conv => whnf
          refine And.intro (by simp only [allP, List.nil_append, List.cons_append, true_and]; exact ⟨rfl, entsOk_app (by rw [List.length_take, List.length_drop]; omega) (h3.take _) (hE4.drop _)⟩) ?_
          conv => whnf
          refine ⟨by rfl, ?_⟩
          conv => whnf
          rw [hm]
          simp only [allP, pvle_refl, Int.natCast_zero, hwl, and_self, and_true, true_and] <;> (try simp only [pvle, hwl, and_self, and_true, true_and])
      · simp only [decide_eq_false_iff_not] at hb
        have hkE : k = (E).length := by omega
        rw [hkE, List.drop_length, mg_nil, List.take_append_drop] at hm
        refine ⟨l, ?_⟩
        conv => whnf
        refine And.intro (by simp only [allP, List.nil_append, List.cons_append, true_and]; exact ⟨rfl, h3⟩) ?_
        conv => whnf
        refine ⟨by rfl, ?_⟩
        conv => whnf
        rw [hm]
        simp only [allP, pvle_refl, Int.natCast_zero, hwl, and_self, and_true, true_and] <;> (try simp only [pvle, hwl, and_self, and_true, true_and])
    · rw [hwb, hlE] at hsh
      simp only [decide_eq_true_eq] at hsh
      have hm : mergeV b bt l i t es = (l, b, true) := by unfold mergeV; rw [decide_eq_true hlt, decide_eq_true hsh]
      conv => whnf
      refine ⟨l, ?_⟩
      conv => whnf
      refine And.intro (by simp only [allP, List.nil_append, List.cons_append, true_and]; exact ⟨rfl, h3⟩) ?_
      conv => whnf
      rw [hm]
      simp only [allP, pvle_refl, Int.natCast_zero, and_self, and_true, true_and] <;> (try simp only [pvle, and_self, and_true, true_and])
theorem merge_sound : Sound Try.prog 13 cMerge := does_sound mixed tabOk_prog gA3_ok Try.func13 merge_does
end Go.Proofs.Ytdkclofgaiaclaa.Ev
