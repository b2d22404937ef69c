/- conduitkit: rows of bytes and batches, copied and compared. No conditions. -/
import Derived.Test.YtjgmlkogppibfaaEvRecP
import Derived.Test.YtjgmlkogppibfaaEvFrame2
namespace Go.Proofs.Ytjgmlkogppibfaa.Ev
open Go
set_option linter.unusedVariables false
set_option linter.unusedSimpArgs false
set_option maxRecDepth 100000
set_option maxHeartbeats 4000000
abbrev cKSame : Ctr := ⟨List UInt8 × List UInt8, 0, fun (a, b) => [.p false (.sl 1 (bl a)), .p false (.sl 1 (bl b))], fun _ => [],
  fun (a, b) => a.length ≤ 4611686018427387904, fun (a, b) => isB (decide (a = b)), fun _ => []⟩
theorem ksame_does : Does [] tab Try.f74 cKSame := by
  rintro ⟨a, b⟩ (h1 : a.length ≤ 4611686018427387904)
  have hla := bl_length a
  have hlb := bl_length b
  conv => whnf
  rw [hla, hlb]
  by_cases hlen : a.length = b.length
  · rw [show ((a.length : Int) != (b.length : Int)) = false from by rw [hlen]; exact bne_self_eq_false _]
    conv => whnf
    refine ⟨{i : Nat // i ≤ a.length ∧ a.take i = b.take i}, fun i => ⟨[(0, .p false (.sl 1 (bl a))), (1, .p false (.sl 1 (bl b))), (5, isI .i64 i.1)], [], 99⟩, fun i => a.length - i.1, ⟨⟨0, by omega, rfl⟩, ?_⟩, ?_⟩
    · conv => whnf
      exact ⟨rfl, rfl, rfl⟩
    rintro ⟨i, hi, ht⟩
    show aw _ _ _ _ _ _ ⟨[(0, .p false (.sl 1 (bl a))), (1, .p false (.sl 1 (bl b))), (5, isI .i64 i)], [], 99⟩
    conv => whnf
    rw [hla]
    by_cases hia : i < a.length
    · have hib : i < b.length := by omega
      rw [decide_eq_true (show (i : Int) < (a.length : Int) by omega)]
      conv => whnf
      refine And.intro (by simp only [allP, List.nil_append, List.cons_append, true_and]; rw [hla]; omega) ?_
      conv => whnf
      rw [Int.toNat_natCast, bl_getD]
      conv => whnf
      refine And.intro (by simp only [allP, List.nil_append, List.cons_append, true_and]; rw [hlb]; omega) ?_
      conv => whnf
      rw [Int.toNat_natCast, bl_getD]
      conv => whnf
      have ta : a.take (i + 1) = a.take i ++ [a.getD i 0] := by rw [List.take_add_one, List.getD_eq_getElem?_getD, List.getElem?_eq_getElem hia]; rfl
      have tb : b.take (i + 1) = b.take i ++ [b.getD i 0] := by rw [List.take_add_one, List.getD_eq_getElem?_getD, List.getElem?_eq_getElem hib]; rfl
      generalize hca : a.getD i 0 = ca at ta ⊢
      generalize hcb : b.getD i 0 = cb at tb ⊢
      by_cases hc : ca = cb
      · subst hc
        rw [show (((ca.toNat : Nat) : Int) != ((ca.toNat : Nat) : Int)) = false from bne_self_eq_false _]
        conv => whnf
        refine ⟨by rfl, ?_⟩
        (set_option smartUnfolding false in conv => whnf)
        refine ⟨⟨i + 1, by omega, by rw [ta, tb, ht]⟩, by simp only; omega, ?_⟩
        conv => whnf
        exact ⟨rfl, rfl, by rw [wrap_i64 (by omega) (by omega)]; rfl⟩
      · rw [show (((ca.toNat : Nat) : Int) != ((cb.toNat : Nat) : Int)) = true from by rw [bne_iff_ne]; intro e; exact hc (UInt8.toNat_inj.1 (Int.ofNat.inj e))]
        conv => whnf
        refine ⟨by rfl, ?_⟩
        (set_option smartUnfolding false in conv => whnf)
        have hab : a ≠ b := fun e => by subst e; exact hc (hca.symm.trans hcb)
        rw [decide_eq_false hab]
    · rw [decide_eq_false (show ¬ (i : Int) < (a.length : Int) by omega)]
      conv => whnf
      have hab : a = b := by
        rw [List.take_of_length_le (by omega), List.take_of_length_le (by omega)] at ht
        exact ht
      rw [decide_eq_true hab]
  · rw [show ((a.length : Int) != (b.length : Int)) = true from by rw [bne_iff_ne]; omega]
    conv => whnf
    rw [decide_eq_false (fun e => hlen (by rw [e]))]
theorem ksame_sound : Sound Try.prog 74 cKSame := does_sound mixed tabOk_prog GamOk.nil Try.func74 ksame_does
theorem kcopy_does : Does [] tab Try.f66 cCopy := by
  rintro (l : List UInt8) (h1 : l.length ≤ 140737488355328)
  have hbl := bl_length l
  conv => whnf
  refine ⟨{i : Nat // i ≤ l.length}, fun i => ⟨[(0, .p false (.sl 1 (bl l))), (3, .rowf 0), (4, isI .i64 i.1)], [(0, .row 5 1 true false (bl (l.take i.1)))], 99⟩, fun i => l.length - i.1, ⟨⟨0, Nat.zero_le _⟩, ?_⟩, ?_⟩
  · conv => whnf
    exact ⟨rfl, rfl, rfl⟩
  rintro ⟨i, hi⟩
  show aw _ _ _ _ _ _ ⟨[(0, .p false (.sl 1 (bl l))), (3, .rowf 0), (4, isI .i64 i)], [(0, .row 5 1 true false (bl (l.take i)))], 99⟩
  have hil : (l.take i).length = i := by rw [List.length_take]; omega
  conv => whnf
  rw [hbl]
  by_cases hia : i < l.length
  · rw [decide_eq_true (show (i : Int) < (l.length : Int) by omega)]
    conv => whnf
    refine And.intro (by simp only [allP, List.nil_append, List.cons_append, true_and]; rw [hbl]; omega) ?_
    conv => whnf
    rw [Int.toNat_natCast, bl_getD]
    conv => whnf
    refine And.intro (by simp only [allP, List.nil_append, List.cons_append, true_and]; rw [bl_length, hil]; simp only [List.length_cons, List.length_nil]; omega) ?_
    conv => whnf
    have ta : l.take (i + 1) = l.take i ++ [l.getD i 0] := by rw [List.take_add_one, List.getD_eq_getElem?_getD, List.getElem?_eq_getElem hia]; rfl
    refine ⟨⟨i + 1, by omega⟩, by simp only; omega, ?_⟩
    conv => whnf
    exact ⟨rfl, by rw [wrap_i64 (by omega) (by omega)]; rfl, by rw [ta, bl_append]; rfl⟩
  · rw [decide_eq_false (show ¬ (i : Int) < (l.length : Int) by omega)]
    conv => whnf
    rw [List.take_of_length_le (by omega)]
theorem kcopy_sound : Sound Try.prog 66 cCopy := does_sound mixed tabOk_prog GamOk.nil Try.func66 kcopy_does
def gK1 : List (FuncId × Ctr) := (74, cKSame) :: (66, cCopy) :: []
theorem gK1_ok : GamOk Try.prog gK1 := GamOk.cons (GamOk.cons GamOk.nil Try.func66 (by kernel_rfl) (by kernel_rfl) kcopy_sound) Try.func74 (by kernel_rfl) (by kernel_rfl) ksame_sound
abbrev cKSameL : Ctr := ⟨List (List UInt8) × List (List UInt8), 0, fun (a, b) => [.p false (.sl 1 (ll a)), .p false (.sl 1 (ll b))], fun _ => [], fun (a, b) => a.length ≤ 1000000000 ∧ ∀ x ∈ a, x.length ≤ 4611686018427387904, fun (a, b) => isB (decide (a = b)), fun _ => []⟩
theorem ksameL_does : Does gK1 tab Try.f65 cKSameL := by
  rintro ⟨a, b⟩ ⟨h1, h2⟩
  have hla := ll_length a
  have hlb := ll_length b
  conv => whnf
  rw [hla, hlb]
  by_cases hlen : a.length = b.length
  · rw [show ((a.length : Int) != (b.length : Int)) = false from by rw [hlen]; exact bne_self_eq_false _]
    conv => whnf
    refine ⟨{i : Nat // i ≤ a.length ∧ a.take i = b.take i}, fun i => ⟨[(0, .p false (.sl 1 (ll a))), (1, .p false (.sl 1 (ll b))), (5, isI .i64 i.1)], [], 99⟩, fun i => a.length - i.1, ⟨⟨0, by omega, rfl⟩, ?_⟩, ?_⟩
    · conv => whnf
      exact ⟨rfl, rfl, rfl⟩
    rintro ⟨i, hi, ht⟩
    show aw _ _ _ _ _ _ ⟨[(0, .p false (.sl 1 (ll a))), (1, .p false (.sl 1 (ll b))), (5, isI .i64 i)], [], 99⟩
    conv => whnf
    rw [hla]
    by_cases hia : i < a.length
    · have hib : i < b.length := by omega
      rw [decide_eq_true (show (i : Int) < (a.length : Int) by omega)]
      conv => whnf
      refine And.intro (by simp only [allP, List.nil_append, List.cons_append, true_and]; rw [hla]; omega) ?_
      conv => whnf
      rw [Int.toNat_natCast, ll_getD _ _ _ hia]
      conv => whnf
      refine And.intro (by simp only [allP, List.nil_append, List.cons_append, true_and]; rw [hlb]; omega) ?_
      conv => whnf
      rw [Int.toNat_natCast, ll_getD _ _ _ hib]
      conv => whnf
      have ta : a.take (i + 1) = a.take i ++ [a[i]] := by rw [List.take_add_one, List.getElem?_eq_getElem hia]; rfl
      have tb : b.take (i + 1) = b.take i ++ [b[i]] := by rw [List.take_add_one, List.getElem?_eq_getElem hib]; rfl
      refine ⟨(a[i], b[i]), ?_⟩
      conv => whnf
      refine And.intro (by simp only [allP, List.nil_append, List.cons_append, true_and]; exact ⟨rfl, rfl, h2 _ (List.getElem_mem hia)⟩) ?_
      conv => whnf
      by_cases hc : a[i] = b[i]
      · rw [decide_eq_true hc]
        conv => whnf
        refine ⟨by rfl, ?_⟩
        (set_option smartUnfolding false in conv => whnf)
        refine ⟨⟨i + 1, by omega, by rw [ta, tb, ht, hc]⟩, by simp only; omega, ?_⟩
        conv => whnf
        exact ⟨rfl, rfl, by rw [wrap_i64 (by omega) (by omega)]; rfl⟩
      · rw [decide_eq_false hc]
        conv => whnf
        refine ⟨by rfl, ?_⟩
        (set_option smartUnfolding false in conv => whnf)
        have hab : a ≠ b := fun e => by subst e; exact hc rfl
        rw [decide_eq_false hab]
    · rw [decide_eq_false (show ¬ (i : Int) < (a.length : Int) by omega)]
      conv => whnf
      have hab : a = b := by
        rw [List.take_of_length_le (by omega), List.take_of_length_le (by omega)] at ht
        exact ht
      rw [decide_eq_true hab]
  · rw [show ((a.length : Int) != (b.length : Int)) = true from by rw [bne_iff_ne]; omega]
    conv => whnf
    rw [decide_eq_false (fun e => hlen (by rw [e]))]
theorem ksameL_sound : Sound Try.prog 65 cKSameL := does_sound mixed tabOk_prog gK1_ok Try.func65 ksameL_does
abbrev cKCopyL : Ctr := ⟨List (List UInt8), 0, fun l => [.p false (.sl 1 (ll l))], fun _ => [], fun l => l.length * 24 ≤ 140737488355328 ∧ ∀ x ∈ l, x.length ≤ 140737488355328, fun _ => .rowf 0, fun l => [(0, .row 22 1 true false (ll l))]⟩
theorem kcopyL_does : Does gK1 tab Try.f39 cKCopyL := by
  rintro (l : List (List UInt8)) ⟨h1, h2⟩
  have hbl := ll_length l
  conv => whnf
  refine ⟨{i : Nat // i ≤ l.length}, fun i => ⟨[(0, .p false (.sl 1 (ll l))), (3, .rowf 0), (4, isI .i64 i.1)], [(0, .row 22 1 true false (ll (l.take i.1)))], 99⟩, fun i => l.length - i.1, ⟨⟨0, Nat.zero_le _⟩, ?_⟩, ?_⟩
  · conv => whnf
    exact ⟨rfl, rfl, rfl⟩
  rintro ⟨i, hi⟩
  show aw _ _ _ _ _ _ ⟨[(0, .p false (.sl 1 (ll l))), (3, .rowf 0), (4, isI .i64 i)], [(0, .row 22 1 true false (ll (l.take i)))], 99⟩
  have hil : (l.take i).length = i := by rw [List.length_take]; omega
  conv => whnf
  rw [hbl]
  by_cases hia : i < l.length
  · rw [decide_eq_true (show (i : Int) < (l.length : Int) by omega)]
    conv => whnf
    refine And.intro (by simp only [allP, List.nil_append, List.cons_append, true_and]; rw [hbl]; omega) ?_
    conv => whnf
    rw [Int.toNat_natCast, ll_getD _ _ _ hia]
    conv => whnf
    refine ⟨l[i], ?_⟩
    conv => whnf
    refine And.intro (by simp only [allP, List.nil_append, List.cons_append, true_and]; exact ⟨rfl, h2 _ (List.getElem_mem hia)⟩) ?_
    conv => whnf
    refine And.intro (by simp only [allP, List.nil_append, List.cons_append, true_and]; rw [ll_length, hil]; simp only [List.length_cons, List.length_nil]; omega) ?_
    conv => whnf
    have ta : l.take (i + 1) = l.take i ++ [l[i]] := by rw [List.take_add_one, List.getElem?_eq_getElem hia]; rfl
    refine ⟨⟨i + 1, by omega⟩, by simp only; omega, ?_⟩
    conv => whnf
    exact ⟨rfl, by rw [wrap_i64 (by omega) (by omega)]; rfl, by rw [ta]; simp only [ll, List.map_append, allP]; rfl⟩
  · rw [decide_eq_false (show ¬ (i : Int) < (l.length : Int) by omega)]
    conv => whnf
    rw [List.take_of_length_le (by omega)]
theorem kcopyL_sound : Sound Try.prog 39 cKCopyL := does_sound mixed tabOk_prog gK1_ok Try.func39 kcopyL_does
def gK2 : List (FuncId × Ctr) := (65, cKSameL) :: (39, cKCopyL) :: gK1
theorem gK2_ok : GamOk Try.prog gK2 := GamOk.cons (GamOk.cons gK1_ok Try.func39 (by kernel_rfl) (by kernel_rfl) kcopyL_sound) Try.func65 (by kernel_rfl) (by kernel_rfl) ksameL_sound
/-- A batch: as an argument. -/
def btA (x : BT) : AV := .agg [isI .i64 x.1, isI .i64 x.2.1, isI .i64 x.2.2.1, .p false (.sl 1 (ll x.2.2.2))]
abbrev cKSameB : Ctr := ⟨BT × BT, 0, fun (x, y) => [btA x, btA y], fun _ => [], fun (x, y) => x.2.2.2.length ≤ 1000000000 ∧ ∀ r ∈ x.2.2.2, r.length ≤ 4611686018427387904, fun (x, y) => isB (decide (x = y)), fun _ => []⟩
theorem ksameB_does : Does gK2 tab Try.f38 cKSameB := by
  rintro ⟨x, y⟩ ⟨h1, h2⟩
  have key : decide (x = y) = (x.1 == y.1 && (x.2.1 == y.2.1 && (x.2.2.1 == y.2.2.1 && decide (x.2.2.2 = y.2.2.2)))) := by
    obtain ⟨p, e, f, rs⟩ := x
    obtain ⟨p', e', f', rs'⟩ := y
    simp only [Prod.mk.injEq, Bool.decide_and]
    rfl
  conv => whnf
  cases hp : (x.1 == y.1)
  · rw [hp] at key
    conv => whnf
    rw [key]
    rfl
  conv => whnf
  cases he : (x.2.1 == y.2.1)
  · rw [hp, he] at key
    conv => whnf
    rw [key]
    rfl
  conv => whnf
  cases hf : (x.2.2.1 == y.2.2.1)
  · rw [hp, he, hf] at key
    conv => whnf
    rw [key]
    rfl
  conv => whnf
  refine ⟨(x.2.2.2, y.2.2.2), ?_⟩
  conv => whnf
  refine And.intro (by simp only [allP, List.nil_append, List.cons_append, true_and]; exact ⟨rfl, rfl, h1, h2⟩) ?_
  conv => whnf
  rw [hp, he, hf] at key
  rw [key]
  rfl
theorem ksameB_sound : Sound Try.prog 38 cKSameB := does_sound mixed tabOk_prog gK2_ok Try.func38 ksameB_does
abbrev cKCopyB : Ctr := ⟨BT, 0, fun x => [btA x], fun _ => [], fun x => x.2.2.2.length * 24 ≤ 140737488355328 ∧ ∀ r ∈ x.2.2.2, r.length ≤ 140737488355328, fun x => .agg [isI .i64 x.1, isI .i64 x.2.1, isI .i64 x.2.2.1, .rowf 0], fun x => [(0, .row 22 1 true false (ll x.2.2.2))]⟩
theorem kcopyB_does : Does gK2 tab Try.f33 cKCopyB := by
  rintro ⟨p, e, f, rs⟩ ⟨h1, h2⟩
  conv => whnf
  refine ⟨rs, ?_⟩
  conv => whnf
  refine And.intro (by simp only [allP, List.nil_append, List.cons_append, true_and]; exact ⟨rfl, h1, h2⟩) ?_
  conv => whnf
  refine And.intro (by first | exact Nat.le_of_ble_eq_true rfl | exact ⟨Nat.le_of_ble_eq_true rfl, rfl⟩ | exact rfl | decide | (simp [allP]; done)) ?_
  conv => whnf
  refine And.intro (by first | exact Nat.le_of_ble_eq_true rfl | exact ⟨Nat.le_of_ble_eq_true rfl, rfl⟩ | exact rfl | decide | (simp [allP]; done)) ?_
  conv => whnf
  refine And.intro (by first | exact Nat.le_of_ble_eq_true rfl | exact ⟨Nat.le_of_ble_eq_true rfl, rfl⟩ | exact rfl | decide | (simp [allP]; done)) ?_
  conv => whnf
  refine And.intro (by first | exact Nat.le_of_ble_eq_true rfl | exact ⟨Nat.le_of_ble_eq_true rfl, rfl⟩ | exact rfl | decide | (simp [allP]; done)) ?_
  conv => whnf
  exact ⟨rfl, rfl, rfl, rfl⟩
theorem kcopyB_sound : Sound Try.prog 33 cKCopyB := does_sound mixed tabOk_prog gK2_ok Try.func33 kcopyB_does
/-- All of conduitkit that the laws of batches call. -/
def gKit : List (FuncId × Ctr) := (38, cKSameB) :: (33, cKCopyB) :: gK2
theorem gKit_ok : GamOk Try.prog gKit := GamOk.cons (GamOk.cons gK2_ok Try.func33 (by kernel_rfl) (by kernel_rfl) kcopyB_sound) Try.func38 (by kernel_rfl) (by kernel_rfl) ksameB_sound
end Go.Proofs.Ytjgmlkogppibfaa.Ev
