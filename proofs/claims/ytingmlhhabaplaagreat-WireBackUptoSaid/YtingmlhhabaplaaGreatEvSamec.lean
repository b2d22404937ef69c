/- Two things, the same? entries, messages of nodes. No conditions. -/
import Derived.Test.YtingmlhhabaplaaGreatEvSameb
namespace Go.Proofs.YtingmlhhabaplaaGreat.Ev
open Go
set_option linter.unusedVariables false
set_option linter.unusedSimpArgs false
set_option maxRecDepth 100000
set_option maxHeartbeats 4000000
abbrev cLSameEntries : Ctr := ⟨Bool × (List S153) × (List S153), 0, fun (g, a, b) => [.p false (.sl 2 (a.map fun x => elOf (pv153 x))), .p false (.sl 2 (b.map fun x => elOf (pv153 x)))], fun _ => [], fun (g, a, b) => (g = true ↔ a = b) ∧ ((a.length * 32 ≤ 140737488351232 ∧ a.length ≤ 9223372036854775807 ∧ ∀ e1 ∈ a, ok153 e1)), fun (g, a, b) => isB g, fun _ => []⟩
theorem LSameEntries_does : Does gSm12 tab Tryz.f77 cLSameEntries := by
  rintro ⟨g, a, b⟩ ⟨hg, h1, h1', h2⟩
  have hla : (a.map fun x => elOf (pv153 x)).length = a.length := List.length_map ..
  have hlb : (b.map fun x => elOf (pv153 x)).length = b.length := List.length_map ..
  conv => whnf
  rw [hla, hlb]
  by_cases hlen : a.length = b.length
  · rw [show ((a.length : Int) != (b.length : Int)) = false from by rw [hlen]; exact bne_self_eq_false _]
    conv => whnf
    refine ⟨{i : Nat // i ≤ a.length ∧ a.take i = b.take i}, fun i => ⟨[(0, .p false (.sl 2 (a.map fun x => elOf (pv153 x)))), (1, .p false (.sl 2 (b.map fun x => elOf (pv153 x)))), (5, isI .i64 i.1)], [], 99⟩, fun i => a.length - i.1, ⟨⟨0, by omega, rfl⟩, ?_⟩, ?_⟩
    · conv => whnf
      exact ⟨rfl, rfl, rfl⟩
    rintro ⟨i, hi, ht⟩
    show aw _ _ _ _ _ _ ⟨[(0, .p false (.sl 2 (a.map fun x => elOf (pv153 x)))), (1, .p false (.sl 2 (b.map fun x => elOf (pv153 x)))), (5, isI .i64 i)], [], 99⟩
    conv => whnf
    rw [hla]
    by_cases hia : i < a.length
    · have hib : i < b.length := by omega
      rw [decide_eq_true (show (i : Int) < (a.length : Int) by omega)]
      conv => whnf
      refine And.intro (by simp only [allP, List.nil_append, List.cons_append, true_and]; rw [hla]; omega) ?_
      conv => whnf
      rw [Int.toNat_natCast, map_getD (fun x => elOf (pv153 x)) a i _ hia]
      conv => whnf
      refine And.intro (by simp only [allP, List.nil_append, List.cons_append, true_and]; rw [hlb]; omega) ?_
      conv => whnf
      rw [Int.toNat_natCast, map_getD (fun x => elOf (pv153 x)) b i _ hib]
      conv => whnf
      have ta : a.take (i + 1) = a.take i ++ [a[i]] := by rw [List.take_add_one, List.getElem?_eq_getElem hia]; rfl
      have tb : b.take (i + 1) = b.take i ++ [b[i]] := by rw [List.take_add_one, List.getElem?_eq_getElem hib]; rfl
      have hok := h2 _ (List.getElem_mem hia)
      have hab0 : a[i] ≠ b[i] → a ≠ b := fun h e => by subst e; exact h rfl
      generalize hxa : a[i] = xa at ta hok hab0 ⊢
      generalize hxb : b[i] = xb at tb hab0 ⊢
      by_cases hc : xa.1 = xb.1
      · rw [show (xa.1 != xb.1) = false from by rw [hc]; exact bne_self_eq_false _]
        conv => whnf
        refine And.intro (by simp only [allP, List.nil_append, List.cons_append, true_and]; rw [hla]; omega) ?_
        conv => whnf
        rw [Int.toNat_natCast, map_getD (fun x => elOf (pv153 x)) a i _ hia, hxa]
        conv => whnf
        refine And.intro (by simp only [allP, List.nil_append, List.cons_append, true_and]; rw [hlb]; omega) ?_
        conv => whnf
        rw [Int.toNat_natCast, map_getD (fun x => elOf (pv153 x)) b i _ hib, hxb]
        conv => whnf
        refine ⟨(xa.2, xb.2), ?_⟩
        conv => whnf
        refine And.intro (by simp only [allP, List.nil_append, List.cons_append, true_and]; repeat' (first | exact trivial | rfl | refine And.intro ?_ ?_)) ?_
        conv => whnf
        by_cases hd : xa.2 = xb.2
        · rw [decide_eq_true hd]
          conv => whnf
          refine ⟨by rfl, ?_⟩
          (set_option smartUnfolding false in conv => whnf)
          refine ⟨⟨i + 1, by omega, by rw [ta, tb, ht, Prod.ext hc hd]⟩, by simp only; omega, ?_⟩
          conv => whnf
          exact ⟨rfl, rfl, by rw [wrap_i64 (by omega) (by omega)]; rfl⟩
        · rw [decide_eq_false hd]
          conv => whnf
          refine ⟨by rfl, ?_⟩
          (set_option smartUnfolding false in conv => whnf)
          rw [ffOf hg (hab0 fun e => hd (by rw [e]))]
      · rw [show (xa.1 != xb.1) = true from by rw [bne_iff_ne]; exact hc]
        conv => whnf
        refine ⟨by rfl, ?_⟩
        (set_option smartUnfolding false in conv => whnf)
        rw [ffOf hg (hab0 fun e => hc (by rw [e]))]
    · rw [decide_eq_false (show ¬ (i : Int) < (a.length : Int) by omega)]
      conv => whnf
      have hab : a = b := by
        rw [List.take_of_length_le (by omega), List.take_of_length_le (by omega)] at ht
        exact ht
      rw [hg.2 hab]
  · rw [show ((a.length : Int) != (b.length : Int)) = true from by rw [bne_iff_ne]; omega]
    conv => whnf
    rw [ffOf hg fun e => hlen (by rw [e])]
theorem LSameEntries_sound : Sound Tryz.prog 77 cLSameEntries := does_sound mixed tabOk_prog gSm12_ok Tryz.func77 LSameEntries_does
def gSm13 : List (FuncId × Ctr) := (77, cLSameEntries) :: gSm12
theorem gSm13_ok : GamOk Tryz.prog gSm13 := GamOk.cons gSm12_ok Tryz.func77 (by kernel_rfl) (by kernel_rfl) LSameEntries_sound
abbrev cLSameRaft : Ctr := ⟨Bool × S79 × S79, 0, fun (g, a, b) => [.agg ((pv79 a).map avOf), .agg ((pv79 b).map avOf)], fun _ => [], fun (g, a, b) => (g = true ↔ a = b) ∧ (ok79 a), fun (g, a, b) => isB g, fun _ => []⟩
theorem LSameRaft_does : Does gSm13 tab Tryz.f30 cLSameRaft := by
  rintro ⟨g, a, b⟩ ⟨hg, hk⟩
  obtain ⟨k0, k1, k2, k3, k4, k5, k6, k7, k8, k9, k10, k11⟩ := hk
  conv => whnf
  by_cases e0 : a.1 = b.1
  rotate_left
  · rw [show (a.1.data.toList == b.1.data.toList) = false from (by rw [beq_eq_false_iff_ne]; intro e; exact e0 (strNe e))]
    conv => whnf
    rw [ffOf hg fun e => e0 (by rw [e])]
    first | done | rfl | (and_intros <;> rfl)
  rw [show (a.1.data.toList == b.1.data.toList) = true from (by rw [e0]; simp)]
  conv => whnf
  by_cases e1 : a.2.1 = b.2.1
  rotate_left
  · rw [show ((a.2.1.toNat : Int) == (b.2.1.toNat : Int)) = false from (by rw [beq_eq_false_iff_ne]; intro e; exact e1 (UInt8.toNat_inj.1 (by omega)))]
    conv => whnf
    rw [ffOf hg fun e => e1 (by rw [e])]
    first | done | rfl | (and_intros <;> rfl)
  rw [show ((a.2.1.toNat : Int) == (b.2.1.toNat : Int)) = true from (by rw [e1]; simp)]
  conv => whnf
  by_cases e2 : a.2.2.1 = b.2.2.1
  rotate_left
  · rw [show (a.2.2.1 == b.2.2.1) = false from (by rw [beq_eq_false_iff_ne]; exact e2)]
    conv => whnf
    rw [ffOf hg fun e => e2 (by rw [e])]
    first | done | rfl | (and_intros <;> rfl)
  rw [show (a.2.2.1 == b.2.2.1) = true from (by rw [e2]; simp)]
  conv => whnf
  by_cases e3 : a.2.2.2.1 = b.2.2.2.1
  rotate_left
  · rw [show (a.2.2.2.1 == b.2.2.2.1) = false from (by rw [beq_eq_false_iff_ne]; exact e3)]
    conv => whnf
    rw [ffOf hg fun e => e3 (by rw [e])]
    first | done | rfl | (and_intros <;> rfl)
  rw [show (a.2.2.2.1 == b.2.2.2.1) = true from (by rw [e3]; simp)]
  conv => whnf
  by_cases e4 : a.2.2.2.2.1 = b.2.2.2.2.1
  rotate_left
  · rw [show (a.2.2.2.2.1 == b.2.2.2.2.1) = false from (by rw [beq_eq_false_iff_ne]; exact e4)]
    conv => whnf
    rw [ffOf hg fun e => e4 (by rw [e])]
    first | done | rfl | (and_intros <;> rfl)
  rw [show (a.2.2.2.2.1 == b.2.2.2.2.1) = true from (by rw [e4]; simp)]
  conv => whnf
  by_cases e5 : a.2.2.2.2.2.1 = b.2.2.2.2.2.1
  rotate_left
  · rw [show (a.2.2.2.2.2.1 == b.2.2.2.2.2.1) = false from (by rw [beq_eq_false_iff_ne]; exact e5)]
    conv => whnf
    rw [ffOf hg fun e => e5 (by rw [e])]
    first | done | rfl | (and_intros <;> rfl)
  rw [show (a.2.2.2.2.2.1 == b.2.2.2.2.2.1) = true from (by rw [e5]; simp)]
  conv => whnf
  by_cases e6 : a.2.2.2.2.2.2.1 = b.2.2.2.2.2.2.1
  rotate_left
  · rw [show (a.2.2.2.2.2.2.1 == b.2.2.2.2.2.2.1) = false from (by rw [beq_eq_false_iff_ne]; exact e6)]
    conv => whnf
    rw [ffOf hg fun e => e6 (by rw [e])]
    first | done | rfl | (and_intros <;> rfl)
  rw [show (a.2.2.2.2.2.2.1 == b.2.2.2.2.2.2.1) = true from (by rw [e6]; simp)]
  conv => whnf
  by_cases e7 : a.2.2.2.2.2.2.2.1 = b.2.2.2.2.2.2.2.1
  rotate_left
  · rw [show (a.2.2.2.2.2.2.2.1 == b.2.2.2.2.2.2.2.1) = false from (by rw [beq_eq_false_iff_ne]; exact e7)]
    conv => whnf
    rw [ffOf hg fun e => e7 (by rw [e])]
    first | done | rfl | (and_intros <;> rfl)
  rw [show (a.2.2.2.2.2.2.2.1 == b.2.2.2.2.2.2.2.1) = true from (by rw [e7]; simp)]
  conv => whnf
  by_cases e8 : a.2.2.2.2.2.2.2.2.1 = b.2.2.2.2.2.2.2.2.1
  rotate_left
  · rw [show (a.2.2.2.2.2.2.2.2.1 == b.2.2.2.2.2.2.2.2.1) = false from (by rw [beq_eq_false_iff_ne]; exact e8)]
    conv => whnf
    rw [ffOf hg fun e => e8 (by rw [e])]
    first | done | rfl | (and_intros <;> rfl)
  rw [show (a.2.2.2.2.2.2.2.2.1 == b.2.2.2.2.2.2.2.2.1) = true from (by rw [e8]; simp)]
  conv => whnf
  by_cases e9 : a.2.2.2.2.2.2.2.2.2.1 = b.2.2.2.2.2.2.2.2.2.1
  rotate_left
  · rw [show (a.2.2.2.2.2.2.2.2.2.1 == b.2.2.2.2.2.2.2.2.2.1) = false from (by rw [beq_eq_false_iff_ne]; exact e9)]
    conv => whnf
    rw [ffOf hg fun e => e9 (by rw [e])]
    first | done | rfl | (and_intros <;> rfl)
  rw [show (a.2.2.2.2.2.2.2.2.2.1 == b.2.2.2.2.2.2.2.2.2.1) = true from (by rw [e9]; simp)]
  conv => whnf
  by_cases e10 : a.2.2.2.2.2.2.2.2.2.2.1 = b.2.2.2.2.2.2.2.2.2.2.1
  rotate_left
  · refine ⟨(false, a.2.2.2.2.2.2.2.2.2.2.1, b.2.2.2.2.2.2.2.2.2.2.1), ?_⟩
    conv => whnf
    refine And.intro (by simp only [allP, List.nil_append, List.cons_append, true_and]; repeat' (first | exact iff_of_false Bool.false_ne_true e10 | exact iff_of_false id e10 | exact k10 | rfl | exact trivial | refine And.intro ?_ ?_)) ?_
    conv => whnf
    rw [ffOf hg fun e => e10 (by rw [e])]
    first | done | rfl | (and_intros <;> rfl)
  refine ⟨(true, a.2.2.2.2.2.2.2.2.2.2.1, b.2.2.2.2.2.2.2.2.2.2.1), ?_⟩
  conv => whnf
  refine And.intro (by simp only [allP, List.nil_append, List.cons_append, true_and]; repeat' (first | exact iff_of_true rfl e10 | exact iff_of_true trivial e10 | exact k10 | rfl | exact trivial | refine And.intro ?_ ?_)) ?_
  conv => whnf
  refine ⟨(a.2.2.2.2.2.2.2.2.2.2.2, b.2.2.2.2.2.2.2.2.2.2.2), ?_⟩
  conv => whnf
  refine And.intro (by simp only [allP, List.nil_append, List.cons_append, true_and]; repeat' (first | exact k11 | rfl | exact trivial | refine And.intro ?_ ?_)) ?_
  conv => whnf
  by_cases e11 : a.2.2.2.2.2.2.2.2.2.2.2 = b.2.2.2.2.2.2.2.2.2.2.2
  rotate_left
  · rw [decide_eq_false e11]
    conv => whnf
    rw [ffOf hg fun e => e11 (by rw [e])]
    first | done | rfl | (and_intros <;> rfl)
  rw [decide_eq_true e11]
  conv => whnf
  have hab : a = b := by
    obtain ⟨a0, a1, a2, a3, a4, a5, a6, a7, a8, a9, a10, a11⟩ := a
    obtain ⟨b0, b1, b2, b3, b4, b5, b6, b7, b8, b9, b10, b11⟩ := b
    simp only at e0 e1 e2 e3 e4 e5 e6 e7 e8 e9 e10 e11
    subst e0 e1 e2 e3 e4 e5 e6 e7 e8 e9 e10 e11
    rfl
  rw [hg.2 hab]
  first | done | rfl | (and_intros <;> rfl)
theorem LSameRaft_sound : Sound Tryz.prog 30 cLSameRaft := does_sound mixed tabOk_prog gSm13_ok Tryz.func30 LSameRaft_does
def gSm14 : List (FuncId × Ctr) := (30, cLSameRaft) :: gSm13
theorem gSm14_ok : GamOk Tryz.prog gSm14 := GamOk.cons gSm13_ok Tryz.func30 (by kernel_rfl) (by kernel_rfl) LSameRaft_sound
def gSame5 : List (FuncId × Ctr) := gSm14
theorem gSame5_ok : GamOk Tryz.prog gSame5 := gSm14_ok
end Go.Proofs.YtingmlhhabaplaaGreat.Ev
