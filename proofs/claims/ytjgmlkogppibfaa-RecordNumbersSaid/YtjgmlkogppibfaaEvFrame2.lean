/- Frames: what is left, lists of bytes compared, the chapter's examples. No conditions. -/
import Derived.Test.YtjgmlkogppibfaaEvFrame
namespace Go.Proofs.Ytjgmlkogppibfaa.Ev
open Go
set_option linter.unusedVariables false
set_option linter.unusedSimpArgs false
set_option maxRecDepth 100000
set_option maxHeartbeats 4000000
abbrev cFLeft : Ctr := ⟨Bool × List UInt8, 1, fun (o, l) => [.ptr 0 0], fun (o, l) => [(0, .box [isB true, isB o, .p false (.sl 1 (bl l))])], fun _ => True, fun (o, l) => isI .i64 l.length, fun (o, l) => [(0, .box [isB true, isB o, .p false (.sl 1 (bl l))])]⟩
theorem fleft_does : Does [] tab Try.f15 cFLeft := by
  rintro ⟨o, l⟩ -
  have hl := bl_length l
  conv => whnf
  rw [hl]
  exact ⟨rfl, rfl, rfl, rfl⟩
theorem fleft_sound : Sound Try.prog 15 cFLeft := does_sound mixed tabOk_prog GamOk.nil Try.func15 fleft_does
abbrev cSameL : Ctr := ⟨List (List UInt8) × List (List UInt8), 0, fun (a, b) => [.p false (.sl 1 (ll a)), .p false (.sl 1 (ll b))], fun _ => [], fun (a, b) => a.length ≤ 1000000000, fun (a, b) => isB (decide (a = b)), fun _ => []⟩
theorem ll_getD (l : List (List UInt8)) (i : Nat) (z : PV) (h : i < l.length) : (ll l).getD i z = .sl 1 (bl l[i]) := map_getD (fun f => PV.sl 1 (bl f)) l i z h
theorem sameL_does : Does gF1 tab Try.f21 cSameL := by
  rintro ⟨a, b⟩ (h1 : a.length ≤ 1000000000)
  have hla := ll_length a
  have hlb := ll_length b
  conv => whnf
  rw [hla, hlb]
  cases hne : ((a.length : Int) != (b.length : Int))
  · have hlen : a.length = b.length := by have := bne_eq_false_iff_eq.1 hne; omega
    conv => whnf
    refine ⟨{i : Nat // i ≤ a.length ∧ a.take i = b.take i}, fun i => ⟨[(0, .p false (.sl 1 (ll a))), (1, .p false (.sl 1 (ll b))), (5, isI .i64 i.1)], [], 99⟩, fun i => a.length - i.1, ⟨⟨0, by omega, rfl⟩, ?_⟩, ?_⟩
    · conv => whnf
      exact ⟨rfl, rfl, rfl⟩
    rintro ⟨i, hi, ht⟩
    show aw _ _ _ _ _ _ ⟨[(0, .p false (.sl 1 (ll a))), (1, .p false (.sl 1 (ll b))), (5, isI .i64 i)], [], 99⟩
    conv => whnf
    split <;> rename_i hb <;> rw [hb] <;> conv => whnf
    · simp only [decide_eq_true_eq, hla] at hb
      have hia : i < a.length := by omega
      have hib : i < b.length := by omega
      have hw : IntKind.i64.wrap ((i : Int) + 1) = ((i + 1 : Nat) : Int) := by rw [wrap_i64 (by omega) (by omega)]; rfl
      have ta : a.take (i + 1) = a.take i ++ [a[i]] := by rw [List.take_add_one, List.getElem?_eq_getElem hia]; rfl
      have tb : b.take (i + 1) = b.take i ++ [b[i]] := by rw [List.take_add_one, List.getElem?_eq_getElem hib]; rfl
      refine And.intro (by simp only [allP, List.nil_append, List.cons_append, true_and]; rw [hla]; omega) ?_
      conv => whnf
      rw [Int.toNat_natCast, ll_getD _ _ _ hia]
      conv => whnf
      refine And.intro (by simp only [allP, List.nil_append, List.cons_append, true_and]; rw [hlb]; omega) ?_
      conv => whnf
      rw [Int.toNat_natCast, ll_getD _ _ _ hib]
      conv => whnf
      refine ⟨(a[i], b[i]), ?_⟩
      conv => whnf
      refine And.intro (by simp only [allP, List.nil_append, List.cons_append, true_and]; exact ⟨rfl, rfl, trivial⟩) ?_
      conv => whnf
      cases hs : decide (a[i] = b[i])
      · have hab : a ≠ b := fun e => by subst e; simp at hs
        conv => whnf
        refine ⟨by rfl, ?_⟩
        conv => whnf
        rw [decide_eq_false hab]
      · simp only [decide_eq_true_eq] at hs
        conv => whnf
        refine ⟨by rfl, ?_⟩
        conv => whnf
        refine ⟨⟨i + 1, by omega, by rw [ta, tb, ht, hs]⟩, by simp only; omega, ?_⟩
        conv => whnf
        simp only [allP, pvle_refl, Int.natCast_zero, hw, and_self, and_true, true_and] <;> (try simp only [pvle, hw, and_self, and_true, true_and])
    · simp only [decide_eq_false_iff_not, hla] at hb
      have hi9 : i = a.length := by omega
      have hab : a = b := by
        subst hi9
        rw [List.take_length, hlen, List.take_length] at ht
        exact ht
      rw [decide_eq_true hab]
  · have hab : a ≠ b := fun e => by subst e; simp at hne
    conv => whnf
    rw [decide_eq_false hab]
theorem sameL_sound : Sound Try.prog 21 cSameL := does_sound mixed tabOk_prog gF1_ok Try.func21 sameL_does
def gF2 : List (FuncId × Ctr) := (11, cFPut) :: (12, cFNew) :: (13, cFeed) :: (15, cFLeft) :: (21, cSameL) :: (22, cFPut) :: gF1
theorem gF2_ok : GamOk Try.prog gF2 := GamOk.cons (GamOk.cons (GamOk.cons (GamOk.cons (GamOk.cons (GamOk.cons gF1_ok Try.func22 (by kernel_rfl) (by kernel_rfl) rfput_sound) Try.func21 (by kernel_rfl) (by kernel_rfl) sameL_sound) Try.func15 (by kernel_rfl) (by kernel_rfl) fleft_sound) Try.func13 (by kernel_rfl) (by kernel_rfl) feed_sound) Try.func12 (by kernel_rfl) (by kernel_rfl) fnew_sound) Try.func11 (by kernel_rfl) (by kernel_rfl) fput_sound
end Go.Proofs.Ytjgmlkogppibfaa.Ev
