/- Two things, the same? parts, members, shares, groups, callers. No conditions. -/
import Derived.Test.YtingmlhhabaplaaGreatEvSamea
namespace Go.Proofs.YtingmlhhabaplaaGreat.Ev
open Go
set_option linter.unusedVariables false
set_option linter.unusedSimpArgs false
set_option maxRecDepth 100000
set_option maxHeartbeats 4000000
theorem eqS111 (x y : S111) (h : ((x.1 == y.1) && ((x.2.1 == y.2.1) && ((x.2.2 == y.2.2) && true))) = true) : x = y := by
  obtain ⟨a1, a2, a3⟩ := x
  obtain ⟨a4, a5, a6⟩ := y
  simp only [Bool.and_eq_true, beq_iff_eq, and_true, strL] at h
  simp only [Prod.mk.injEq]
  exact h
abbrev cKSameRecents : Ctr := ⟨Bool × (List S111) × (List S111), 0, fun (g, a, b) => [.p false (.sl 3 (a.map fun x => elOf (pv111 x))), .p false (.sl 3 (b.map fun x => elOf (pv111 x)))], fun _ => [], fun (g, a, b) => (g = true ↔ a = b) ∧ ((a.length * 24 ≤ 140737488351232 ∧ a.length ≤ 9223372036854775807 ∧ ∀ e1 ∈ a, ok111 e1)), fun (g, a, b) => isB g, fun _ => []⟩
theorem KSameRecents_does : Does gSm10 tab Tryz.f160 cKSameRecents := by
  rintro ⟨g, a, b⟩ ⟨hg, h1, h1', h2⟩
  have hla : (a.map fun x => elOf (pv111 x)).length = a.length := List.length_map ..
  have hlb : (b.map fun x => elOf (pv111 x)).length = b.length := List.length_map ..
  conv => whnf
  rw [hla, hlb]
  by_cases hlen : a.length = b.length
  · rw [show ((a.length : Int) != (b.length : Int)) = false from by rw [hlen]; exact bne_self_eq_false _]
    conv => whnf
    refine ⟨{i : Nat // i ≤ a.length ∧ a.take i = b.take i}, fun i => ⟨[(0, .p false (.sl 3 (a.map fun x => elOf (pv111 x)))), (1, .p false (.sl 3 (b.map fun x => elOf (pv111 x)))), (5, isI .i64 i.1)], [], 99⟩, fun i => a.length - i.1, ⟨⟨0, by omega, rfl⟩, ?_⟩, ?_⟩
    · conv => whnf
      exact ⟨rfl, rfl, rfl⟩
    rintro ⟨i, hi, ht⟩
    show aw _ _ _ _ _ _ ⟨[(0, .p false (.sl 3 (a.map fun x => elOf (pv111 x)))), (1, .p false (.sl 3 (b.map fun x => elOf (pv111 x)))), (5, isI .i64 i)], [], 99⟩
    conv => whnf
    rw [hla]
    by_cases hia : i < a.length
    · have hib : i < b.length := by omega
      rw [decide_eq_true (show (i : Int) < (a.length : Int) by omega)]
      conv => whnf
      refine And.intro (by simp only [allP, List.nil_append, List.cons_append, true_and]; rw [hla]; omega) ?_
      conv => whnf
      rw [Int.toNat_natCast, map_getD (fun x => elOf (pv111 x)) a i _ hia]
      conv => whnf
      refine dI (k := ?_)
      conv => whnf
      refine And.intro (by simp only [allP, List.nil_append, List.cons_append, true_and]; rw [hlb]; omega) ?_
      conv => whnf
      rw [Int.toNat_natCast, map_getD (fun x => elOf (pv111 x)) b i _ hib]
      conv => whnf
      refine dI (k := ?_)
      conv => whnf
      have ta : a.take (i + 1) = a.take i ++ [a[i]] := by rw [List.take_add_one, List.getElem?_eq_getElem hia]; rfl
      have tb : b.take (i + 1) = b.take i ++ [b[i]] := by rw [List.take_add_one, List.getElem?_eq_getElem hib]; rfl
      have hok := h2 _ (List.getElem_mem hia)
      have hab0 : a[i] ≠ b[i] → a ≠ b := fun h e => by subst e; exact h rfl
      generalize hxa : a[i] = xa at ta hok hab0 ⊢
      generalize hxb : b[i] = xb at tb hab0 ⊢
      by_cases hc : xa = xb
      · rw [show ((xa.1 == xb.1) && ((xa.2.1 == xb.2.1) && ((xa.2.2 == xb.2.2) && true))) = true from (by rw [hc]; simp)]
        conv => whnf
        refine ⟨by rfl, ?_⟩
        (set_option smartUnfolding false in conv => whnf)
        refine ⟨⟨i + 1, by omega, by rw [ta, tb, ht, hc]⟩, by simp only; omega, ?_⟩
        conv => whnf
        exact ⟨rfl, rfl, by rw [wrap_i64 (by omega) (by omega)]; rfl⟩
      · rw [show ((xa.1 == xb.1) && ((xa.2.1 == xb.2.1) && ((xa.2.2 == xb.2.2) && true))) = false from (Bool.eq_false_iff.2 fun q => hc (eqS111 _ _ q))]
        conv => whnf
        refine ⟨by rfl, ?_⟩
        (set_option smartUnfolding false in conv => whnf)
        rw [ffOf hg (hab0 hc)]
    · rw [decide_eq_false (show ¬ (i : Int) < (a.length : Int) by omega)]
      conv => whnf
      have hab : a = b := by
        rw [List.take_of_length_le (by omega), List.take_of_length_le (by omega)] at ht
        exact ht
      rw [hg.2 hab]
  · rw [show ((a.length : Int) != (b.length : Int)) = true from by rw [bne_iff_ne]; omega]
    conv => whnf
    rw [ffOf hg fun e => hlen (by rw [e])]
theorem KSameRecents_sound : Sound Tryz.prog 160 cKSameRecents := does_sound mixed tabOk_prog gSm10_ok Tryz.func160 KSameRecents_does
def gSn1 : List (FuncId × Ctr) := (160, cKSameRecents) :: gSm10
theorem gSn1_ok : GamOk Tryz.prog gSn1 := GamOk.cons gSm10_ok Tryz.func160 (by kernel_rfl) (by kernel_rfl) KSameRecents_sound
abbrev cKSameProducer : Ctr := ⟨Bool × S109 × S109, 0, fun (g, a, b) => [.agg ((pv109 a).map avOf), .agg ((pv109 b).map avOf)], fun _ => [], fun (g, a, b) => (g = true ↔ a = b) ∧ (ok109 a), fun (g, a, b) => isB g, fun _ => []⟩
theorem KSameProducer_does : Does gSn1 tab Tryz.f112 cKSameProducer := by
  rintro ⟨g, a, b⟩ ⟨hg, hk⟩
  obtain ⟨k0, k1, k2, k3⟩ := hk
  conv => whnf
  by_cases e0 : a.1 = b.1
  rotate_left
  · rw [show (a.1 == b.1) = false from (by rw [beq_eq_false_iff_ne]; exact e0)]
    conv => whnf
    rw [ffOf hg fun e => e0 (by rw [e])]
    first | done | rfl | (and_intros <;> rfl)
  rw [show (a.1 == b.1) = true from (by rw [e0]; simp)]
  conv => whnf
  by_cases e1 : a.2.1 = b.2.1
  rotate_left
  · rw [show (a.2.1 == b.2.1) = false from (by rw [beq_eq_false_iff_ne]; exact e1)]
    conv => whnf
    rw [ffOf hg fun e => e1 (by rw [e])]
    first | done | rfl | (and_intros <;> rfl)
  rw [show (a.2.1 == b.2.1) = true from (by rw [e1]; simp)]
  conv => whnf
  by_cases e2 : a.2.2.1 = b.2.2.1
  rotate_left
  · rw [show (a.2.2.1 == b.2.2.1) = false from (by rw [beq_eq_false_iff_ne]; exact e2)]
    conv => whnf
    rw [ffOf hg fun e => e2 (by rw [e])]
    first | done | rfl | (and_intros <;> rfl)
  rw [show (a.2.2.1 == b.2.2.1) = true from (by rw [e2]; simp)]
  conv => whnf
  by_cases e3 : a.2.2.2 = b.2.2.2
  rotate_left
  · refine ⟨(false, a.2.2.2, b.2.2.2), ?_⟩
    conv => whnf
    refine And.intro (by simp only [allP, List.nil_append, List.cons_append, true_and]; repeat' (first | exact iff_of_false Bool.false_ne_true e3 | exact iff_of_false id e3 | exact k3 | rfl | exact trivial | refine And.intro ?_ ?_)) ?_
    conv => whnf
    rw [ffOf hg fun e => e3 (by rw [e])]
    first | done | rfl | (and_intros <;> rfl)
  refine ⟨(true, a.2.2.2, b.2.2.2), ?_⟩
  conv => whnf
  refine And.intro (by simp only [allP, List.nil_append, List.cons_append, true_and]; repeat' (first | exact iff_of_true rfl e3 | exact iff_of_true trivial e3 | exact k3 | rfl | exact trivial | refine And.intro ?_ ?_)) ?_
  conv => whnf
  have hab : a = b := by
    obtain ⟨a0, a1, a2, a3⟩ := a
    obtain ⟨b0, b1, b2, b3⟩ := b
    simp only at e0 e1 e2 e3
    subst e0 e1 e2 e3
    rfl
  rw [hg.2 hab]
  first | done | rfl | (and_intros <;> rfl)
theorem KSameProducer_sound : Sound Tryz.prog 112 cKSameProducer := does_sound mixed tabOk_prog gSn1_ok Tryz.func112 KSameProducer_does
def gSn2 : List (FuncId × Ctr) := (112, cKSameProducer) :: gSn1
theorem gSn2_ok : GamOk Tryz.prog gSn2 := GamOk.cons gSn1_ok Tryz.func112 (by kernel_rfl) (by kernel_rfl) KSameProducer_sound
abbrev cKSameProducers : Ctr := ⟨Bool × (List S109) × (List S109), 0, fun (g, a, b) => [.p false (.sl 4 (a.map fun x => elOf (pv109 x))), .p false (.sl 4 (b.map fun x => elOf (pv109 x)))], fun _ => [], fun (g, a, b) => (g = true ↔ a = b) ∧ ((a.length * 48 ≤ 140737488351232 ∧ a.length ≤ 9223372036854775807 ∧ ∀ e1 ∈ a, ok109 e1)), fun (g, a, b) => isB g, fun _ => []⟩
theorem KSameProducers_does : Does gSn2 tab Tryz.f54 cKSameProducers := by
  rintro ⟨g, a, b⟩ ⟨hg, h1, h1', h2⟩
  have hla : (a.map fun x => elOf (pv109 x)).length = a.length := List.length_map ..
  have hlb : (b.map fun x => elOf (pv109 x)).length = b.length := List.length_map ..
  conv => whnf
  rw [hla, hlb]
  by_cases hlen : a.length = b.length
  · rw [show ((a.length : Int) != (b.length : Int)) = false from by rw [hlen]; exact bne_self_eq_false _]
    conv => whnf
    refine ⟨{i : Nat // i ≤ a.length ∧ a.take i = b.take i}, fun i => ⟨[(0, .p false (.sl 4 (a.map fun x => elOf (pv109 x)))), (1, .p false (.sl 4 (b.map fun x => elOf (pv109 x)))), (5, isI .i64 i.1)], [], 99⟩, fun i => a.length - i.1, ⟨⟨0, by omega, rfl⟩, ?_⟩, ?_⟩
    · conv => whnf
      exact ⟨rfl, rfl, rfl⟩
    rintro ⟨i, hi, ht⟩
    show aw _ _ _ _ _ _ ⟨[(0, .p false (.sl 4 (a.map fun x => elOf (pv109 x)))), (1, .p false (.sl 4 (b.map fun x => elOf (pv109 x)))), (5, isI .i64 i)], [], 99⟩
    conv => whnf
    rw [hla]
    by_cases hia : i < a.length
    · have hib : i < b.length := by omega
      rw [decide_eq_true (show (i : Int) < (a.length : Int) by omega)]
      conv => whnf
      refine And.intro (by simp only [allP, List.nil_append, List.cons_append, true_and]; rw [hla]; omega) ?_
      conv => whnf
      rw [Int.toNat_natCast, map_getD (fun x => elOf (pv109 x)) a i _ hia]
      conv => whnf
      refine dI (k := ?_)
      conv => whnf
      refine And.intro (by simp only [allP, List.nil_append, List.cons_append, true_and]; rw [hlb]; omega) ?_
      conv => whnf
      rw [Int.toNat_natCast, map_getD (fun x => elOf (pv109 x)) b i _ hib]
      conv => whnf
      refine dI (k := ?_)
      conv => whnf
      have ta : a.take (i + 1) = a.take i ++ [a[i]] := by rw [List.take_add_one, List.getElem?_eq_getElem hia]; rfl
      have tb : b.take (i + 1) = b.take i ++ [b[i]] := by rw [List.take_add_one, List.getElem?_eq_getElem hib]; rfl
      have hok := h2 _ (List.getElem_mem hia)
      have hab0 : a[i] ≠ b[i] → a ≠ b := fun h e => by subst e; exact h rfl
      generalize hxa : a[i] = xa at ta hok hab0 ⊢
      generalize hxb : b[i] = xb at tb hab0 ⊢
      by_cases hc : xa = xb
      · refine ⟨(true, xa, xb), ?_⟩
        conv => whnf
        refine And.intro (by simp only [allP, List.nil_append, List.cons_append, true_and]; repeat' (first | exact iff_of_true rfl hc | exact iff_of_true trivial hc | exact hok | rfl | exact trivial | refine And.intro ?_ ?_)) ?_
        conv => whnf
        refine ⟨by rfl, ?_⟩
        (set_option smartUnfolding false in conv => whnf)
        refine ⟨⟨i + 1, by omega, by rw [ta, tb, ht, hc]⟩, by simp only; omega, ?_⟩
        conv => whnf
        exact ⟨rfl, rfl, by rw [wrap_i64 (by omega) (by omega)]; rfl⟩
      · refine ⟨(false, xa, xb), ?_⟩
        conv => whnf
        refine And.intro (by simp only [allP, List.nil_append, List.cons_append, true_and]; repeat' (first | exact iff_of_false Bool.false_ne_true hc | exact iff_of_false id hc | exact hok | rfl | exact trivial | refine And.intro ?_ ?_)) ?_
        conv => whnf
        refine ⟨by rfl, ?_⟩
        (set_option smartUnfolding false in conv => whnf)
        rw [ffOf hg (hab0 hc)]
    · rw [decide_eq_false (show ¬ (i : Int) < (a.length : Int) by omega)]
      conv => whnf
      have hab : a = b := by
        rw [List.take_of_length_le (by omega), List.take_of_length_le (by omega)] at ht
        exact ht
      rw [hg.2 hab]
  · rw [show ((a.length : Int) != (b.length : Int)) = true from by rw [bne_iff_ne]; omega]
    conv => whnf
    rw [ffOf hg fun e => hlen (by rw [e])]
theorem KSameProducers_sound : Sound Tryz.prog 54 cKSameProducers := does_sound mixed tabOk_prog gSn2_ok Tryz.func54 KSameProducers_does
def gSn3 : List (FuncId × Ctr) := (54, cKSameProducers) :: gSn2
theorem gSn3_ok : GamOk Tryz.prog gSn3 := GamOk.cons gSn2_ok Tryz.func54 (by kernel_rfl) (by kernel_rfl) KSameProducers_sound
abbrev cKSamePart : Ctr := ⟨Bool × S28 × S28, 0, fun (g, a, b) => [.agg ((pv28 a).map avOf), .agg ((pv28 b).map avOf)], fun _ => [], fun (g, a, b) => (g = true ↔ a = b) ∧ (ok28 a), fun (g, a, b) => isB g, fun _ => []⟩
theorem KSamePart_does : Does gSn3 tab Tryz.f13 cKSamePart := by
  rintro ⟨g, a, b⟩ ⟨hg, hk⟩
  obtain ⟨k0, k1, k2, k3⟩ := hk
  conv => whnf
  by_cases e0 : a.1 = b.1
  rotate_left
  · rw [show (a.1 == b.1) = false from (by rw [beq_eq_false_iff_ne]; exact e0)]
    conv => whnf
    rw [ffOf hg fun e => e0 (by rw [e])]
    first | done | rfl | (and_intros <;> rfl)
  rw [show (a.1 == b.1) = true from (by rw [e0]; simp)]
  conv => whnf
  by_cases e1 : a.2.1 = b.2.1
  rotate_left
  · rw [show (a.2.1 == b.2.1) = false from (by rw [beq_eq_false_iff_ne]; exact e1)]
    conv => whnf
    rw [ffOf hg fun e => e1 (by rw [e])]
    first | done | rfl | (and_intros <;> rfl)
  rw [show (a.2.1 == b.2.1) = true from (by rw [e1]; simp)]
  conv => whnf
  by_cases e2 : a.2.2.1 = b.2.2.1
  rotate_left
  · refine ⟨(false, a.2.2.1, b.2.2.1), ?_⟩
    conv => whnf
    refine And.intro (by simp only [allP, List.nil_append, List.cons_append, true_and]; repeat' (first | exact iff_of_false Bool.false_ne_true e2 | exact iff_of_false id e2 | exact k2 | rfl | exact trivial | refine And.intro ?_ ?_)) ?_
    conv => whnf
    rw [ffOf hg fun e => e2 (by rw [e])]
    first | done | rfl | (and_intros <;> rfl)
  refine ⟨(true, a.2.2.1, b.2.2.1), ?_⟩
  conv => whnf
  refine And.intro (by simp only [allP, List.nil_append, List.cons_append, true_and]; repeat' (first | exact iff_of_true rfl e2 | exact iff_of_true trivial e2 | exact k2 | rfl | exact trivial | refine And.intro ?_ ?_)) ?_
  conv => whnf
  by_cases e3 : a.2.2.2 = b.2.2.2
  rotate_left
  · refine ⟨(false, a.2.2.2, b.2.2.2), ?_⟩
    conv => whnf
    refine And.intro (by simp only [allP, List.nil_append, List.cons_append, true_and]; repeat' (first | exact iff_of_false Bool.false_ne_true e3 | exact iff_of_false id e3 | exact k3 | rfl | exact trivial | refine And.intro ?_ ?_)) ?_
    conv => whnf
    rw [ffOf hg fun e => e3 (by rw [e])]
    first | done | rfl | (and_intros <;> rfl)
  refine ⟨(true, a.2.2.2, b.2.2.2), ?_⟩
  conv => whnf
  refine And.intro (by simp only [allP, List.nil_append, List.cons_append, true_and]; repeat' (first | exact iff_of_true rfl e3 | exact iff_of_true trivial e3 | exact k3 | rfl | exact trivial | refine And.intro ?_ ?_)) ?_
  conv => whnf
  have hab : a = b := by
    obtain ⟨a0, a1, a2, a3⟩ := a
    obtain ⟨b0, b1, b2, b3⟩ := b
    simp only at e0 e1 e2 e3
    subst e0 e1 e2 e3
    rfl
  rw [hg.2 hab]
  first | done | rfl | (and_intros <;> rfl)
theorem KSamePart_sound : Sound Tryz.prog 13 cKSamePart := does_sound mixed tabOk_prog gSn3_ok Tryz.func13 KSamePart_does
def gSn4 : List (FuncId × Ctr) := (13, cKSamePart) :: gSn3
theorem gSn4_ok : GamOk Tryz.prog gSn4 := GamOk.cons gSn3_ok Tryz.func13 (by kernel_rfl) (by kernel_rfl) KSamePart_sound
theorem eqS117 (x y : S117) (h : ((x.1.data.toList == y.1.data.toList) && ((x.2 == y.2) && true)) = true) : x = y := by
  obtain ⟨a1, a2⟩ := x
  obtain ⟨a3, a4⟩ := y
  simp only [Bool.and_eq_true, beq_iff_eq, and_true, strL] at h
  simp only [Prod.mk.injEq]
  exact h
abbrev cKSameTopics : Ctr := ⟨Bool × (List S117) × (List S117), 0, fun (g, a, b) => [.p false (.sl 2 (a.map fun x => elOf (pv117 x))), .p false (.sl 2 (b.map fun x => elOf (pv117 x)))], fun _ => [], fun (g, a, b) => (g = true ↔ a = b) ∧ ((a.length * 24 ≤ 140737488351232 ∧ a.length ≤ 9223372036854775807 ∧ ∀ e1 ∈ a, ok117 e1)), fun (g, a, b) => isB g, fun _ => []⟩
theorem KSameTopics_does : Does gSn4 tab Tryz.f55 cKSameTopics := by
  rintro ⟨g, a, b⟩ ⟨hg, h1, h1', h2⟩
  have hla : (a.map fun x => elOf (pv117 x)).length = a.length := List.length_map ..
  have hlb : (b.map fun x => elOf (pv117 x)).length = b.length := List.length_map ..
  conv => whnf
  rw [hla, hlb]
  by_cases hlen : a.length = b.length
  · rw [show ((a.length : Int) != (b.length : Int)) = false from by rw [hlen]; exact bne_self_eq_false _]
    conv => whnf
    refine ⟨{i : Nat // i ≤ a.length ∧ a.take i = b.take i}, fun i => ⟨[(0, .p false (.sl 2 (a.map fun x => elOf (pv117 x)))), (1, .p false (.sl 2 (b.map fun x => elOf (pv117 x)))), (5, isI .i64 i.1)], [], 99⟩, fun i => a.length - i.1, ⟨⟨0, by omega, rfl⟩, ?_⟩, ?_⟩
    · conv => whnf
      exact ⟨rfl, rfl, rfl⟩
    rintro ⟨i, hi, ht⟩
    show aw _ _ _ _ _ _ ⟨[(0, .p false (.sl 2 (a.map fun x => elOf (pv117 x)))), (1, .p false (.sl 2 (b.map fun x => elOf (pv117 x)))), (5, isI .i64 i)], [], 99⟩
    conv => whnf
    rw [hla]
    by_cases hia : i < a.length
    · have hib : i < b.length := by omega
      rw [decide_eq_true (show (i : Int) < (a.length : Int) by omega)]
      conv => whnf
      refine And.intro (by simp only [allP, List.nil_append, List.cons_append, true_and]; rw [hla]; omega) ?_
      conv => whnf
      rw [Int.toNat_natCast, map_getD (fun x => elOf (pv117 x)) a i _ hia]
      conv => whnf
      refine dI (k := ?_)
      conv => whnf
      refine And.intro (by simp only [allP, List.nil_append, List.cons_append, true_and]; rw [hlb]; omega) ?_
      conv => whnf
      rw [Int.toNat_natCast, map_getD (fun x => elOf (pv117 x)) b i _ hib]
      conv => whnf
      refine dI (k := ?_)
      conv => whnf
      have ta : a.take (i + 1) = a.take i ++ [a[i]] := by rw [List.take_add_one, List.getElem?_eq_getElem hia]; rfl
      have tb : b.take (i + 1) = b.take i ++ [b[i]] := by rw [List.take_add_one, List.getElem?_eq_getElem hib]; rfl
      have hok := h2 _ (List.getElem_mem hia)
      have hab0 : a[i] ≠ b[i] → a ≠ b := fun h e => by subst e; exact h rfl
      generalize hxa : a[i] = xa at ta hok hab0 ⊢
      generalize hxb : b[i] = xb at tb hab0 ⊢
      by_cases hc : xa = xb
      · rw [show ((xa.1.data.toList == xb.1.data.toList) && ((xa.2 == xb.2) && true)) = true from (by rw [hc]; simp)]
        conv => whnf
        refine ⟨by rfl, ?_⟩
        (set_option smartUnfolding false in conv => whnf)
        refine ⟨⟨i + 1, by omega, by rw [ta, tb, ht, hc]⟩, by simp only; omega, ?_⟩
        conv => whnf
        exact ⟨rfl, rfl, by rw [wrap_i64 (by omega) (by omega)]; rfl⟩
      · rw [show ((xa.1.data.toList == xb.1.data.toList) && ((xa.2 == xb.2) && true)) = false from (Bool.eq_false_iff.2 fun q => hc (eqS117 _ _ q))]
        conv => whnf
        refine ⟨by rfl, ?_⟩
        (set_option smartUnfolding false in conv => whnf)
        rw [ffOf hg (hab0 hc)]
    · rw [decide_eq_false (show ¬ (i : Int) < (a.length : Int) by omega)]
      conv => whnf
      have hab : a = b := by
        rw [List.take_of_length_le (by omega), List.take_of_length_le (by omega)] at ht
        exact ht
      rw [hg.2 hab]
  · rw [show ((a.length : Int) != (b.length : Int)) = true from by rw [bne_iff_ne]; omega]
    conv => whnf
    rw [ffOf hg fun e => hlen (by rw [e])]
theorem KSameTopics_sound : Sound Tryz.prog 55 cKSameTopics := does_sound mixed tabOk_prog gSn4_ok Tryz.func55 KSameTopics_does
def gSn5 : List (FuncId × Ctr) := (55, cKSameTopics) :: gSn4
theorem gSn5_ok : GamOk Tryz.prog gSn5 := GamOk.cons gSn4_ok Tryz.func55 (by kernel_rfl) (by kernel_rfl) KSameTopics_sound
theorem eqS119 (x y : S119) (h : ((x.1.data.toList == y.1.data.toList) && ((x.2.1 == y.2.1) && ((x.2.2 == y.2.2) && true))) = true) : x = y := by
  obtain ⟨a1, a2, a3⟩ := x
  obtain ⟨a4, a5, a6⟩ := y
  simp only [Bool.and_eq_true, beq_iff_eq, and_true, strL] at h
  simp only [Prod.mk.injEq]
  exact h
abbrev cKSameWriters : Ctr := ⟨Bool × (List S119) × (List S119), 0, fun (g, a, b) => [.p false (.sl 3 (a.map fun x => elOf (pv119 x))), .p false (.sl 3 (b.map fun x => elOf (pv119 x)))], fun _ => [], fun (g, a, b) => (g = true ↔ a = b) ∧ ((a.length * 32 ≤ 140737488351232 ∧ a.length ≤ 9223372036854775807 ∧ ∀ e1 ∈ a, ok119 e1)), fun (g, a, b) => isB g, fun _ => []⟩
theorem KSameWriters_does : Does gSn5 tab Tryz.f56 cKSameWriters := by
  rintro ⟨g, a, b⟩ ⟨hg, h1, h1', h2⟩
  have hla : (a.map fun x => elOf (pv119 x)).length = a.length := List.length_map ..
  have hlb : (b.map fun x => elOf (pv119 x)).length = b.length := List.length_map ..
  conv => whnf
  rw [hla, hlb]
  by_cases hlen : a.length = b.length
  · rw [show ((a.length : Int) != (b.length : Int)) = false from by rw [hlen]; exact bne_self_eq_false _]
    conv => whnf
    refine ⟨{i : Nat // i ≤ a.length ∧ a.take i = b.take i}, fun i => ⟨[(0, .p false (.sl 3 (a.map fun x => elOf (pv119 x)))), (1, .p false (.sl 3 (b.map fun x => elOf (pv119 x)))), (5, isI .i64 i.1)], [], 99⟩, fun i => a.length - i.1, ⟨⟨0, by omega, rfl⟩, ?_⟩, ?_⟩
    · conv => whnf
      exact ⟨rfl, rfl, rfl⟩
    rintro ⟨i, hi, ht⟩
    show aw _ _ _ _ _ _ ⟨[(0, .p false (.sl 3 (a.map fun x => elOf (pv119 x)))), (1, .p false (.sl 3 (b.map fun x => elOf (pv119 x)))), (5, isI .i64 i)], [], 99⟩
    conv => whnf
    rw [hla]
    by_cases hia : i < a.length
    · have hib : i < b.length := by omega
      rw [decide_eq_true (show (i : Int) < (a.length : Int) by omega)]
      conv => whnf
      refine And.intro (by simp only [allP, List.nil_append, List.cons_append, true_and]; rw [hla]; omega) ?_
      conv => whnf
      rw [Int.toNat_natCast, map_getD (fun x => elOf (pv119 x)) a i _ hia]
      conv => whnf
      refine dI (k := ?_)
      conv => whnf
      refine And.intro (by simp only [allP, List.nil_append, List.cons_append, true_and]; rw [hlb]; omega) ?_
      conv => whnf
      rw [Int.toNat_natCast, map_getD (fun x => elOf (pv119 x)) b i _ hib]
      conv => whnf
      refine dI (k := ?_)
      conv => whnf
      have ta : a.take (i + 1) = a.take i ++ [a[i]] := by rw [List.take_add_one, List.getElem?_eq_getElem hia]; rfl
      have tb : b.take (i + 1) = b.take i ++ [b[i]] := by rw [List.take_add_one, List.getElem?_eq_getElem hib]; rfl
      have hok := h2 _ (List.getElem_mem hia)
      have hab0 : a[i] ≠ b[i] → a ≠ b := fun h e => by subst e; exact h rfl
      generalize hxa : a[i] = xa at ta hok hab0 ⊢
      generalize hxb : b[i] = xb at tb hab0 ⊢
      by_cases hc : xa = xb
      · rw [show ((xa.1.data.toList == xb.1.data.toList) && ((xa.2.1 == xb.2.1) && ((xa.2.2 == xb.2.2) && true))) = true from (by rw [hc]; simp)]
        conv => whnf
        refine ⟨by rfl, ?_⟩
        (set_option smartUnfolding false in conv => whnf)
        refine ⟨⟨i + 1, by omega, by rw [ta, tb, ht, hc]⟩, by simp only; omega, ?_⟩
        conv => whnf
        exact ⟨rfl, rfl, by rw [wrap_i64 (by omega) (by omega)]; rfl⟩
      · rw [show ((xa.1.data.toList == xb.1.data.toList) && ((xa.2.1 == xb.2.1) && ((xa.2.2 == xb.2.2) && true))) = false from (Bool.eq_false_iff.2 fun q => hc (eqS119 _ _ q))]
        conv => whnf
        refine ⟨by rfl, ?_⟩
        (set_option smartUnfolding false in conv => whnf)
        rw [ffOf hg (hab0 hc)]
    · rw [decide_eq_false (show ¬ (i : Int) < (a.length : Int) by omega)]
      conv => whnf
      have hab : a = b := by
        rw [List.take_of_length_le (by omega), List.take_of_length_le (by omega)] at ht
        exact ht
      rw [hg.2 hab]
  · rw [show ((a.length : Int) != (b.length : Int)) = true from by rw [bne_iff_ne]; omega]
    conv => whnf
    rw [ffOf hg fun e => hlen (by rw [e])]
theorem KSameWriters_sound : Sound Tryz.prog 56 cKSameWriters := does_sound mixed tabOk_prog gSn5_ok Tryz.func56 KSameWriters_does
def gSn6 : List (FuncId × Ctr) := (56, cKSameWriters) :: gSn5
theorem gSn6_ok : GamOk Tryz.prog gSn6 := GamOk.cons gSn5_ok Tryz.func56 (by kernel_rfl) (by kernel_rfl) KSameWriters_sound
abbrev cKSameSub : Ctr := ⟨Bool × S190 × S190, 0, fun (g, a, b) => [.agg ((pv190 a).map avOf), .agg ((pv190 b).map avOf)], fun _ => [], fun (g, a, b) => (g = true ↔ a = b) ∧ (ok190 a), fun (g, a, b) => isB g, fun _ => []⟩
theorem KSameSub_does : Does gSn6 tab Tryz.f207 cKSameSub := by
  rintro ⟨g, a, b⟩ ⟨hg, hk⟩
  obtain ⟨k0, k1⟩ := hk
  conv => whnf
  by_cases e0 : a.1 = b.1
  rotate_left
  · rw [show (a.1.data.toList == b.1.data.toList) = false from (by rw [beq_eq_false_iff_ne]; intro e; exact e0 (strNe e))]
    conv => whnf
    rw [ffOf hg fun e => e0 (by rw [e])]
    first | done | rfl | (and_intros <;> rfl)
  rw [show (a.1.data.toList == b.1.data.toList) = true from (by rw [e0]; simp)]
  conv => whnf
  by_cases e1 : a.2 = b.2
  rotate_left
  · refine ⟨(false, a.2, b.2), ?_⟩
    conv => whnf
    refine And.intro (by simp only [allP, List.nil_append, List.cons_append, true_and]; repeat' (first | exact iff_of_false Bool.false_ne_true e1 | exact iff_of_false id e1 | exact k1 | rfl | exact trivial | refine And.intro ?_ ?_)) ?_
    conv => whnf
    rw [ffOf hg fun e => e1 (by rw [e])]
    first | done | rfl | (and_intros <;> rfl)
  refine ⟨(true, a.2, b.2), ?_⟩
  conv => whnf
  refine And.intro (by simp only [allP, List.nil_append, List.cons_append, true_and]; repeat' (first | exact iff_of_true rfl e1 | exact iff_of_true trivial e1 | exact k1 | rfl | exact trivial | refine And.intro ?_ ?_)) ?_
  conv => whnf
  have hab : a = b := by
    obtain ⟨a0, a1⟩ := a
    obtain ⟨b0, b1⟩ := b
    simp only at e0 e1
    subst e0 e1
    rfl
  rw [hg.2 hab]
  first | done | rfl | (and_intros <;> rfl)
theorem KSameSub_sound : Sound Tryz.prog 207 cKSameSub := does_sound mixed tabOk_prog gSn6_ok Tryz.func207 KSameSub_does
def gSn7 : List (FuncId × Ctr) := (207, cKSameSub) :: gSn6
theorem gSn7_ok : GamOk Tryz.prog gSn7 := GamOk.cons gSn6_ok Tryz.func207 (by kernel_rfl) (by kernel_rfl) KSameSub_sound
abbrev cKSameMember : Ctr := ⟨Bool × S192 × S192, 0, fun (g, a, b) => [.agg ((pv192 a).map avOf), .agg ((pv192 b).map avOf)], fun _ => [], fun (g, a, b) => (g = true ↔ a = b) ∧ (ok192 a), fun (g, a, b) => isB g, fun _ => []⟩
theorem KSameMember_does : Does gSn7 tab Tryz.f191 cKSameMember := by
  rintro ⟨g, a, b⟩ ⟨hg, hk⟩
  obtain ⟨k0, k1, k2⟩ := hk
  conv => whnf
  refine dI (k := ?_)
  conv => whnf
  refine dI (k := ?_)
  conv => whnf
  by_cases e0 : a.1 = b.1
  rotate_left
  · refine ⟨(false, a.1, b.1), ?_⟩
    conv => whnf
    refine And.intro (by simp only [allP, List.nil_append, List.cons_append, true_and]; repeat' (first | exact iff_of_false Bool.false_ne_true e0 | exact iff_of_false id e0 | exact k0 | rfl | exact trivial | refine And.intro ?_ ?_)) ?_
    conv => whnf
    rw [ffOf hg fun e => e0 (by rw [e])]
    first | done | rfl | (and_intros <;> rfl)
  refine ⟨(true, a.1, b.1), ?_⟩
  conv => whnf
  refine And.intro (by simp only [allP, List.nil_append, List.cons_append, true_and]; repeat' (first | exact iff_of_true rfl e0 | exact iff_of_true trivial e0 | exact k0 | rfl | exact trivial | refine And.intro ?_ ?_)) ?_
  conv => whnf
  by_cases e1 : a.2.1 = b.2.1
  rotate_left
  · rw [show (a.2.1 == b.2.1) = false from (by rw [beq_eq_false_iff_ne]; exact e1)]
    conv => whnf
    rw [ffOf hg fun e => e1 (by rw [e])]
    first | done | rfl | (and_intros <;> rfl)
  rw [show (a.2.1 == b.2.1) = true from (by rw [e1]; simp)]
  conv => whnf
  by_cases e2 : a.2.2 = b.2.2
  rotate_left
  · rw [show (a.2.2 == b.2.2) = false from (by rw [beq_eq_false_iff_ne]; exact e2)]
    conv => whnf
    rw [ffOf hg fun e => e2 (by rw [e])]
    first | done | rfl | (and_intros <;> rfl)
  rw [show (a.2.2 == b.2.2) = true from (by rw [e2]; simp)]
  conv => whnf
  have hab : a = b := by
    obtain ⟨a0, a1, a2⟩ := a
    obtain ⟨b0, b1, b2⟩ := b
    simp only at e0 e1 e2
    subst e0 e1 e2
    rfl
  rw [hg.2 hab]
  first | done | rfl | (and_intros <;> rfl)
theorem KSameMember_sound : Sound Tryz.prog 191 cKSameMember := does_sound mixed tabOk_prog gSn7_ok Tryz.func191 KSameMember_does
def gSn8 : List (FuncId × Ctr) := (191, cKSameMember) :: gSn7
theorem gSn8_ok : GamOk Tryz.prog gSn8 := GamOk.cons gSn7_ok Tryz.func191 (by kernel_rfl) (by kernel_rfl) KSameMember_sound
abbrev cKSameMembers : Ctr := ⟨Bool × (List S192) × (List S192), 0, fun (g, a, b) => [.p false (.sl 4 (a.map fun x => elOf (pv192 x))), .p false (.sl 4 (b.map fun x => elOf (pv192 x)))], fun _ => [], fun (g, a, b) => (g = true ↔ a = b) ∧ ((a.length * 56 ≤ 140737488351232 ∧ a.length ≤ 9223372036854775807 ∧ ∀ e1 ∈ a, ok192 e1)), fun (g, a, b) => isB g, fun _ => []⟩
theorem KSameMembers_does : Does gSn8 tab Tryz.f161 cKSameMembers := by
  rintro ⟨g, a, b⟩ ⟨hg, h1, h1', h2⟩
  have hla : (a.map fun x => elOf (pv192 x)).length = a.length := List.length_map ..
  have hlb : (b.map fun x => elOf (pv192 x)).length = b.length := List.length_map ..
  conv => whnf
  rw [hla, hlb]
  by_cases hlen : a.length = b.length
  · rw [show ((a.length : Int) != (b.length : Int)) = false from by rw [hlen]; exact bne_self_eq_false _]
    conv => whnf
    refine ⟨{i : Nat // i ≤ a.length ∧ a.take i = b.take i}, fun i => ⟨[(0, .p false (.sl 4 (a.map fun x => elOf (pv192 x)))), (1, .p false (.sl 4 (b.map fun x => elOf (pv192 x)))), (5, isI .i64 i.1)], [], 99⟩, fun i => a.length - i.1, ⟨⟨0, by omega, rfl⟩, ?_⟩, ?_⟩
    · conv => whnf
      exact ⟨rfl, rfl, rfl⟩
    rintro ⟨i, hi, ht⟩
    show aw _ _ _ _ _ _ ⟨[(0, .p false (.sl 4 (a.map fun x => elOf (pv192 x)))), (1, .p false (.sl 4 (b.map fun x => elOf (pv192 x)))), (5, isI .i64 i)], [], 99⟩
    conv => whnf
    rw [hla]
    by_cases hia : i < a.length
    · have hib : i < b.length := by omega
      rw [decide_eq_true (show (i : Int) < (a.length : Int) by omega)]
      conv => whnf
      refine And.intro (by simp only [allP, List.nil_append, List.cons_append, true_and]; rw [hla]; omega) ?_
      conv => whnf
      rw [Int.toNat_natCast, map_getD (fun x => elOf (pv192 x)) a i _ hia]
      conv => whnf
      refine dI (k := ?_)
      conv => whnf
      refine And.intro (by simp only [allP, List.nil_append, List.cons_append, true_and]; rw [hlb]; omega) ?_
      conv => whnf
      rw [Int.toNat_natCast, map_getD (fun x => elOf (pv192 x)) b i _ hib]
      conv => whnf
      refine dI (k := ?_)
      conv => whnf
      have ta : a.take (i + 1) = a.take i ++ [a[i]] := by rw [List.take_add_one, List.getElem?_eq_getElem hia]; rfl
      have tb : b.take (i + 1) = b.take i ++ [b[i]] := by rw [List.take_add_one, List.getElem?_eq_getElem hib]; rfl
      have hok := h2 _ (List.getElem_mem hia)
      have hab0 : a[i] ≠ b[i] → a ≠ b := fun h e => by subst e; exact h rfl
      generalize hxa : a[i] = xa at ta hok hab0 ⊢
      generalize hxb : b[i] = xb at tb hab0 ⊢
      by_cases hc : xa = xb
      · refine ⟨(true, xa, xb), ?_⟩
        conv => whnf
        refine And.intro (by simp only [allP, List.nil_append, List.cons_append, true_and]; repeat' (first | exact iff_of_true rfl hc | exact iff_of_true trivial hc | exact hok | rfl | exact trivial | refine And.intro ?_ ?_)) ?_
        conv => whnf
        refine ⟨by rfl, ?_⟩
        (set_option smartUnfolding false in conv => whnf)
        refine ⟨⟨i + 1, by omega, by rw [ta, tb, ht, hc]⟩, by simp only; omega, ?_⟩
        conv => whnf
        exact ⟨rfl, rfl, by rw [wrap_i64 (by omega) (by omega)]; rfl⟩
      · refine ⟨(false, xa, xb), ?_⟩
        conv => whnf
        refine And.intro (by simp only [allP, List.nil_append, List.cons_append, true_and]; repeat' (first | exact iff_of_false Bool.false_ne_true hc | exact iff_of_false id hc | exact hok | rfl | exact trivial | refine And.intro ?_ ?_)) ?_
        conv => whnf
        refine ⟨by rfl, ?_⟩
        (set_option smartUnfolding false in conv => whnf)
        rw [ffOf hg (hab0 hc)]
    · rw [decide_eq_false (show ¬ (i : Int) < (a.length : Int) by omega)]
      conv => whnf
      have hab : a = b := by
        rw [List.take_of_length_le (by omega), List.take_of_length_le (by omega)] at ht
        exact ht
      rw [hg.2 hab]
  · rw [show ((a.length : Int) != (b.length : Int)) = true from by rw [bne_iff_ne]; omega]
    conv => whnf
    rw [ffOf hg fun e => hlen (by rw [e])]
theorem KSameMembers_sound : Sound Tryz.prog 161 cKSameMembers := does_sound mixed tabOk_prog gSn8_ok Tryz.func161 KSameMembers_does
def gSn9 : List (FuncId × Ctr) := (161, cKSameMembers) :: gSn8
theorem gSn9_ok : GamOk Tryz.prog gSn9 := GamOk.cons gSn8_ok Tryz.func161 (by kernel_rfl) (by kernel_rfl) KSameMembers_sound
abbrev cKSameShare : Ctr := ⟨Bool × S195 × S195, 0, fun (g, a, b) => [.agg ((pv195 a).map avOf), .agg ((pv195 b).map avOf)], fun _ => [], fun (g, a, b) => (g = true ↔ a = b) ∧ (ok195 a), fun (g, a, b) => isB g, fun _ => []⟩
theorem KSameShare_does : Does gSn9 tab Tryz.f192 cKSameShare := by
  rintro ⟨g, a, b⟩ ⟨hg, hk⟩
  obtain ⟨k0, k1⟩ := hk
  conv => whnf
  by_cases e0 : a.1 = b.1
  rotate_left
  · rw [show (a.1.data.toList == b.1.data.toList) = false from (by rw [beq_eq_false_iff_ne]; intro e; exact e0 (strNe e))]
    conv => whnf
    rw [ffOf hg fun e => e0 (by rw [e])]
    first | done | rfl | (and_intros <;> rfl)
  rw [show (a.1.data.toList == b.1.data.toList) = true from (by rw [e0]; simp)]
  conv => whnf
  by_cases e1 : a.2 = b.2
  rotate_left
  · refine ⟨(false, a.2, b.2), ?_⟩
    conv => whnf
    refine And.intro (by simp only [allP, List.nil_append, List.cons_append, true_and]; repeat' (first | exact iff_of_false Bool.false_ne_true e1 | exact iff_of_false id e1 | exact k1 | rfl | exact trivial | refine And.intro ?_ ?_)) ?_
    conv => whnf
    rw [ffOf hg fun e => e1 (by rw [e])]
    first | done | rfl | (and_intros <;> rfl)
  refine ⟨(true, a.2, b.2), ?_⟩
  conv => whnf
  refine And.intro (by simp only [allP, List.nil_append, List.cons_append, true_and]; repeat' (first | exact iff_of_true rfl e1 | exact iff_of_true trivial e1 | exact k1 | rfl | exact trivial | refine And.intro ?_ ?_)) ?_
  conv => whnf
  have hab : a = b := by
    obtain ⟨a0, a1⟩ := a
    obtain ⟨b0, b1⟩ := b
    simp only at e0 e1
    subst e0 e1
    rfl
  rw [hg.2 hab]
  first | done | rfl | (and_intros <;> rfl)
theorem KSameShare_sound : Sound Tryz.prog 192 cKSameShare := does_sound mixed tabOk_prog gSn9_ok Tryz.func192 KSameShare_does
def gSn10 : List (FuncId × Ctr) := (192, cKSameShare) :: gSn9
theorem gSn10_ok : GamOk Tryz.prog gSn10 := GamOk.cons gSn9_ok Tryz.func192 (by kernel_rfl) (by kernel_rfl) KSameShare_sound
abbrev cKSameShares : Ctr := ⟨Bool × (List S195) × (List S195), 0, fun (g, a, b) => [.p false (.sl 2 (a.map fun x => elOf (pv195 x))), .p false (.sl 2 (b.map fun x => elOf (pv195 x)))], fun _ => [], fun (g, a, b) => (g = true ↔ a = b) ∧ ((a.length * 40 ≤ 140737488351232 ∧ a.length ≤ 9223372036854775807 ∧ ∀ e1 ∈ a, ok195 e1)), fun (g, a, b) => isB g, fun _ => []⟩
theorem KSameShares_does : Does gSn10 tab Tryz.f162 cKSameShares := by
  rintro ⟨g, a, b⟩ ⟨hg, h1, h1', h2⟩
  have hla : (a.map fun x => elOf (pv195 x)).length = a.length := List.length_map ..
  have hlb : (b.map fun x => elOf (pv195 x)).length = b.length := List.length_map ..
  conv => whnf
  rw [hla, hlb]
  by_cases hlen : a.length = b.length
  · rw [show ((a.length : Int) != (b.length : Int)) = false from by rw [hlen]; exact bne_self_eq_false _]
    conv => whnf
    refine ⟨{i : Nat // i ≤ a.length ∧ a.take i = b.take i}, fun i => ⟨[(0, .p false (.sl 2 (a.map fun x => elOf (pv195 x)))), (1, .p false (.sl 2 (b.map fun x => elOf (pv195 x)))), (5, isI .i64 i.1)], [], 99⟩, fun i => a.length - i.1, ⟨⟨0, by omega, rfl⟩, ?_⟩, ?_⟩
    · conv => whnf
      exact ⟨rfl, rfl, rfl⟩
    rintro ⟨i, hi, ht⟩
    show aw _ _ _ _ _ _ ⟨[(0, .p false (.sl 2 (a.map fun x => elOf (pv195 x)))), (1, .p false (.sl 2 (b.map fun x => elOf (pv195 x)))), (5, isI .i64 i)], [], 99⟩
    conv => whnf
    rw [hla]
    by_cases hia : i < a.length
    · have hib : i < b.length := by omega
      rw [decide_eq_true (show (i : Int) < (a.length : Int) by omega)]
      conv => whnf
      refine And.intro (by simp only [allP, List.nil_append, List.cons_append, true_and]; rw [hla]; omega) ?_
      conv => whnf
      rw [Int.toNat_natCast, map_getD (fun x => elOf (pv195 x)) a i _ hia]
      conv => whnf
      refine dI (k := ?_)
      conv => whnf
      refine And.intro (by simp only [allP, List.nil_append, List.cons_append, true_and]; rw [hlb]; omega) ?_
      conv => whnf
      rw [Int.toNat_natCast, map_getD (fun x => elOf (pv195 x)) b i _ hib]
      conv => whnf
      refine dI (k := ?_)
      conv => whnf
      have ta : a.take (i + 1) = a.take i ++ [a[i]] := by rw [List.take_add_one, List.getElem?_eq_getElem hia]; rfl
      have tb : b.take (i + 1) = b.take i ++ [b[i]] := by rw [List.take_add_one, List.getElem?_eq_getElem hib]; rfl
      have hok := h2 _ (List.getElem_mem hia)
      have hab0 : a[i] ≠ b[i] → a ≠ b := fun h e => by subst e; exact h rfl
      generalize hxa : a[i] = xa at ta hok hab0 ⊢
      generalize hxb : b[i] = xb at tb hab0 ⊢
      by_cases hc : xa = xb
      · refine ⟨(true, xa, xb), ?_⟩
        conv => whnf
        refine And.intro (by simp only [allP, List.nil_append, List.cons_append, true_and]; repeat' (first | exact iff_of_true rfl hc | exact iff_of_true trivial hc | exact hok | rfl | exact trivial | refine And.intro ?_ ?_)) ?_
        conv => whnf
        refine ⟨by rfl, ?_⟩
        (set_option smartUnfolding false in conv => whnf)
        refine ⟨⟨i + 1, by omega, by rw [ta, tb, ht, hc]⟩, by simp only; omega, ?_⟩
        conv => whnf
        exact ⟨rfl, rfl, by rw [wrap_i64 (by omega) (by omega)]; rfl⟩
      · refine ⟨(false, xa, xb), ?_⟩
        conv => whnf
        refine And.intro (by simp only [allP, List.nil_append, List.cons_append, true_and]; repeat' (first | exact iff_of_false Bool.false_ne_true hc | exact iff_of_false id hc | exact hok | rfl | exact trivial | refine And.intro ?_ ?_)) ?_
        conv => whnf
        refine ⟨by rfl, ?_⟩
        (set_option smartUnfolding false in conv => whnf)
        rw [ffOf hg (hab0 hc)]
    · rw [decide_eq_false (show ¬ (i : Int) < (a.length : Int) by omega)]
      conv => whnf
      have hab : a = b := by
        rw [List.take_of_length_le (by omega), List.take_of_length_le (by omega)] at ht
        exact ht
      rw [hg.2 hab]
  · rw [show ((a.length : Int) != (b.length : Int)) = true from by rw [bne_iff_ne]; omega]
    conv => whnf
    rw [ffOf hg fun e => hlen (by rw [e])]
theorem KSameShares_sound : Sound Tryz.prog 162 cKSameShares := does_sound mixed tabOk_prog gSn10_ok Tryz.func162 KSameShares_does
def gSn11 : List (FuncId × Ctr) := (162, cKSameShares) :: gSn10
theorem gSn11_ok : GamOk Tryz.prog gSn11 := GamOk.cons gSn10_ok Tryz.func162 (by kernel_rfl) (by kernel_rfl) KSameShares_sound
theorem eqS199 (x y : S199) (h : ((x.1.1.data.toList == y.1.1.data.toList) && ((x.1.2 == y.1.2) && ((x.2 == y.2) && true))) = true) : x = y := by
  obtain ⟨⟨a1, a2⟩, a3⟩ := x
  obtain ⟨⟨a4, a5⟩, a6⟩ := y
  simp only [Bool.and_eq_true, beq_iff_eq, and_true, strL] at h
  simp only [Prod.mk.injEq]
  simp [h]
abbrev cKSameKepts : Ctr := ⟨Bool × (List S199) × (List S199), 0, fun (g, a, b) => [.p false (.sl 3 (a.map fun x => elOf (pv199 x))), .p false (.sl 3 (b.map fun x => elOf (pv199 x)))], fun _ => [], fun (g, a, b) => (g = true ↔ a = b) ∧ ((a.length * 32 ≤ 140737488351232 ∧ a.length ≤ 9223372036854775807 ∧ ∀ e1 ∈ a, ok199 e1)), fun (g, a, b) => isB g, fun _ => []⟩
theorem KSameKepts_does : Does gSn11 tab Tryz.f163 cKSameKepts := by
  rintro ⟨g, a, b⟩ ⟨hg, h1, h1', h2⟩
  have hla : (a.map fun x => elOf (pv199 x)).length = a.length := List.length_map ..
  have hlb : (b.map fun x => elOf (pv199 x)).length = b.length := List.length_map ..
  conv => whnf
  rw [hla, hlb]
  by_cases hlen : a.length = b.length
  · rw [show ((a.length : Int) != (b.length : Int)) = false from by rw [hlen]; exact bne_self_eq_false _]
    conv => whnf
    refine ⟨{i : Nat // i ≤ a.length ∧ a.take i = b.take i}, fun i => ⟨[(0, .p false (.sl 3 (a.map fun x => elOf (pv199 x)))), (1, .p false (.sl 3 (b.map fun x => elOf (pv199 x)))), (5, isI .i64 i.1)], [], 99⟩, fun i => a.length - i.1, ⟨⟨0, by omega, rfl⟩, ?_⟩, ?_⟩
    · conv => whnf
      exact ⟨rfl, rfl, rfl⟩
    rintro ⟨i, hi, ht⟩
    show aw _ _ _ _ _ _ ⟨[(0, .p false (.sl 3 (a.map fun x => elOf (pv199 x)))), (1, .p false (.sl 3 (b.map fun x => elOf (pv199 x)))), (5, isI .i64 i)], [], 99⟩
    conv => whnf
    rw [hla]
    by_cases hia : i < a.length
    · have hib : i < b.length := by omega
      rw [decide_eq_true (show (i : Int) < (a.length : Int) by omega)]
      conv => whnf
      refine And.intro (by simp only [allP, List.nil_append, List.cons_append, true_and]; rw [hla]; omega) ?_
      conv => whnf
      rw [Int.toNat_natCast, map_getD (fun x => elOf (pv199 x)) a i _ hia]
      conv => whnf
      refine dI (k := ?_)
      conv => whnf
      refine And.intro (by simp only [allP, List.nil_append, List.cons_append, true_and]; rw [hlb]; omega) ?_
      conv => whnf
      rw [Int.toNat_natCast, map_getD (fun x => elOf (pv199 x)) b i _ hib]
      conv => whnf
      refine dI (k := ?_)
      conv => whnf
      have ta : a.take (i + 1) = a.take i ++ [a[i]] := by rw [List.take_add_one, List.getElem?_eq_getElem hia]; rfl
      have tb : b.take (i + 1) = b.take i ++ [b[i]] := by rw [List.take_add_one, List.getElem?_eq_getElem hib]; rfl
      have hok := h2 _ (List.getElem_mem hia)
      have hab0 : a[i] ≠ b[i] → a ≠ b := fun h e => by subst e; exact h rfl
      generalize hxa : a[i] = xa at ta hok hab0 ⊢
      generalize hxb : b[i] = xb at tb hab0 ⊢
      by_cases hc : xa = xb
      · rw [show ((xa.1.1.data.toList == xb.1.1.data.toList) && ((xa.1.2 == xb.1.2) && ((xa.2 == xb.2) && true))) = true from (by rw [hc]; simp)]
        conv => whnf
        refine ⟨by rfl, ?_⟩
        (set_option smartUnfolding false in conv => whnf)
        refine ⟨⟨i + 1, by omega, by rw [ta, tb, ht, hc]⟩, by simp only; omega, ?_⟩
        conv => whnf
        exact ⟨rfl, rfl, by rw [wrap_i64 (by omega) (by omega)]; rfl⟩
      · rw [show ((xa.1.1.data.toList == xb.1.1.data.toList) && ((xa.1.2 == xb.1.2) && ((xa.2 == xb.2) && true))) = false from (Bool.eq_false_iff.2 fun q => hc (eqS199 _ _ q))]
        conv => whnf
        refine ⟨by rfl, ?_⟩
        (set_option smartUnfolding false in conv => whnf)
        rw [ffOf hg (hab0 hc)]
    · rw [decide_eq_false (show ¬ (i : Int) < (a.length : Int) by omega)]
      conv => whnf
      have hab : a = b := by
        rw [List.take_of_length_le (by omega), List.take_of_length_le (by omega)] at ht
        exact ht
      rw [hg.2 hab]
  · rw [show ((a.length : Int) != (b.length : Int)) = true from by rw [bne_iff_ne]; omega]
    conv => whnf
    rw [ffOf hg fun e => hlen (by rw [e])]
theorem KSameKepts_sound : Sound Tryz.prog 163 cKSameKepts := does_sound mixed tabOk_prog gSn11_ok Tryz.func163 KSameKepts_does
def gSn12 : List (FuncId × Ctr) := (163, cKSameKepts) :: gSn11
theorem gSn12_ok : GamOk Tryz.prog gSn12 := GamOk.cons gSn11_ok Tryz.func163 (by kernel_rfl) (by kernel_rfl) KSameKepts_sound
abbrev cKSameGroup : Ctr := ⟨Bool × S124 × S124, 0, fun (g, a, b) => [.agg ((pv124 a).map avOf), .agg ((pv124 b).map avOf)], fun _ => [], fun (g, a, b) => (g = true ↔ a = b) ∧ (ok124 a), fun (g, a, b) => isB g, fun _ => []⟩
theorem KSameGroup_does : Does gSn12 tab Tryz.f113 cKSameGroup := by
  rintro ⟨g, a, b⟩ ⟨hg, hk⟩
  obtain ⟨k0, k1, k2, k3, k4, k5, k6⟩ := hk
  conv => whnf
  by_cases e0 : a.1 = b.1
  rotate_left
  · rw [show (a.1.data.toList == b.1.data.toList) = false from (by rw [beq_eq_false_iff_ne]; intro e; exact e0 (strNe e))]
    conv => whnf
    rw [ffOf hg fun e => e0 (by rw [e])]
    first | done | rfl | (and_intros <;> rfl)
  rw [show (a.1.data.toList == b.1.data.toList) = true from (by rw [e0]; simp)]
  conv => whnf
  by_cases e1 : a.2.1 = b.2.1
  rotate_left
  · rw [show (a.2.1 == b.2.1) = false from (by rw [beq_eq_false_iff_ne]; exact e1)]
    conv => whnf
    rw [ffOf hg fun e => e1 (by rw [e])]
    first | done | rfl | (and_intros <;> rfl)
  rw [show (a.2.1 == b.2.1) = true from (by rw [e1]; simp)]
  conv => whnf
  by_cases e2 : a.2.2.1 = b.2.2.1
  rotate_left
  · rw [show ((a.2.2.1.toNat : Int) == (b.2.2.1.toNat : Int)) = false from (by rw [beq_eq_false_iff_ne]; intro e; exact e2 (UInt8.toNat_inj.1 (by omega)))]
    conv => whnf
    rw [ffOf hg fun e => e2 (by rw [e])]
    first | done | rfl | (and_intros <;> rfl)
  rw [show ((a.2.2.1.toNat : Int) == (b.2.2.1.toNat : Int)) = true from (by rw [e2]; simp)]
  conv => whnf
  by_cases e3 : a.2.2.2.1 = b.2.2.2.1
  rotate_left
  · rw [show (a.2.2.2.1 == b.2.2.2.1) = false from (by rw [beq_eq_false_iff_ne]; exact e3)]
    conv => whnf
    rw [ffOf hg fun e => e3 (by rw [e])]
    first | done | rfl | (and_intros <;> rfl)
  rw [show (a.2.2.2.1 == b.2.2.2.1) = true from (by rw [e3]; simp)]
  conv => whnf
  by_cases e4 : a.2.2.2.2.1 = b.2.2.2.2.1
  rotate_left
  · refine ⟨(false, a.2.2.2.2.1, b.2.2.2.2.1), ?_⟩
    conv => whnf
    refine And.intro (by simp only [allP, List.nil_append, List.cons_append, true_and]; repeat' (first | exact iff_of_false Bool.false_ne_true e4 | exact iff_of_false id e4 | exact k4 | rfl | exact trivial | refine And.intro ?_ ?_)) ?_
    conv => whnf
    rw [ffOf hg fun e => e4 (by rw [e])]
    first | done | rfl | (and_intros <;> rfl)
  refine ⟨(true, a.2.2.2.2.1, b.2.2.2.2.1), ?_⟩
  conv => whnf
  refine And.intro (by simp only [allP, List.nil_append, List.cons_append, true_and]; repeat' (first | exact iff_of_true rfl e4 | exact iff_of_true trivial e4 | exact k4 | rfl | exact trivial | refine And.intro ?_ ?_)) ?_
  conv => whnf
  by_cases e5 : a.2.2.2.2.2.1 = b.2.2.2.2.2.1
  rotate_left
  · refine ⟨(false, a.2.2.2.2.2.1, b.2.2.2.2.2.1), ?_⟩
    conv => whnf
    refine And.intro (by simp only [allP, List.nil_append, List.cons_append, true_and]; repeat' (first | exact iff_of_false Bool.false_ne_true e5 | exact iff_of_false id e5 | exact k5 | rfl | exact trivial | refine And.intro ?_ ?_)) ?_
    conv => whnf
    rw [ffOf hg fun e => e5 (by rw [e])]
    first | done | rfl | (and_intros <;> rfl)
  refine ⟨(true, a.2.2.2.2.2.1, b.2.2.2.2.2.1), ?_⟩
  conv => whnf
  refine And.intro (by simp only [allP, List.nil_append, List.cons_append, true_and]; repeat' (first | exact iff_of_true rfl e5 | exact iff_of_true trivial e5 | exact k5 | rfl | exact trivial | refine And.intro ?_ ?_)) ?_
  conv => whnf
  by_cases e6 : a.2.2.2.2.2.2 = b.2.2.2.2.2.2
  rotate_left
  · refine ⟨(false, a.2.2.2.2.2.2, b.2.2.2.2.2.2), ?_⟩
    conv => whnf
    refine And.intro (by simp only [allP, List.nil_append, List.cons_append, true_and]; repeat' (first | exact iff_of_false Bool.false_ne_true e6 | exact iff_of_false id e6 | exact k6 | rfl | exact trivial | refine And.intro ?_ ?_)) ?_
    conv => whnf
    rw [ffOf hg fun e => e6 (by rw [e])]
    first | done | rfl | (and_intros <;> rfl)
  refine ⟨(true, a.2.2.2.2.2.2, b.2.2.2.2.2.2), ?_⟩
  conv => whnf
  refine And.intro (by simp only [allP, List.nil_append, List.cons_append, true_and]; repeat' (first | exact iff_of_true rfl e6 | exact iff_of_true trivial e6 | exact k6 | rfl | exact trivial | refine And.intro ?_ ?_)) ?_
  conv => whnf
  have hab : a = b := by
    obtain ⟨a0, a1, a2, a3, a4, a5, a6⟩ := a
    obtain ⟨b0, b1, b2, b3, b4, b5, b6⟩ := b
    simp only at e0 e1 e2 e3 e4 e5 e6
    subst e0 e1 e2 e3 e4 e5 e6
    rfl
  rw [hg.2 hab]
  first | done | rfl | (and_intros <;> rfl)
theorem KSameGroup_sound : Sound Tryz.prog 113 cKSameGroup := does_sound mixed tabOk_prog gSn12_ok Tryz.func113 KSameGroup_does
def gSn13 : List (FuncId × Ctr) := (113, cKSameGroup) :: gSn12
theorem gSn13_ok : GamOk Tryz.prog gSn13 := GamOk.cons gSn12_ok Tryz.func113 (by kernel_rfl) (by kernel_rfl) KSameGroup_sound
abbrev cKSameGroups : Ctr := ⟨Bool × (List S124) × (List S124), 0, fun (g, a, b) => [.p false (.sl 7 (a.map fun x => elOf (pv124 x))), .p false (.sl 7 (b.map fun x => elOf (pv124 x)))], fun _ => [], fun (g, a, b) => (g = true ↔ a = b) ∧ ((a.length * 112 ≤ 140737488351232 ∧ a.length ≤ 9223372036854775807 ∧ ∀ e1 ∈ a, ok124 e1)), fun (g, a, b) => isB g, fun _ => []⟩
theorem KSameGroups_does : Does gSn13 tab Tryz.f57 cKSameGroups := by
  rintro ⟨g, a, b⟩ ⟨hg, h1, h1', h2⟩
  have hla : (a.map fun x => elOf (pv124 x)).length = a.length := List.length_map ..
  have hlb : (b.map fun x => elOf (pv124 x)).length = b.length := List.length_map ..
  conv => whnf
  rw [hla, hlb]
  by_cases hlen : a.length = b.length
  · rw [show ((a.length : Int) != (b.length : Int)) = false from by rw [hlen]; exact bne_self_eq_false _]
    conv => whnf
    refine ⟨{i : Nat // i ≤ a.length ∧ a.take i = b.take i}, fun i => ⟨[(0, .p false (.sl 7 (a.map fun x => elOf (pv124 x)))), (1, .p false (.sl 7 (b.map fun x => elOf (pv124 x)))), (5, isI .i64 i.1)], [], 99⟩, fun i => a.length - i.1, ⟨⟨0, by omega, rfl⟩, ?_⟩, ?_⟩
    · conv => whnf
      exact ⟨rfl, rfl, rfl⟩
    rintro ⟨i, hi, ht⟩
    show aw _ _ _ _ _ _ ⟨[(0, .p false (.sl 7 (a.map fun x => elOf (pv124 x)))), (1, .p false (.sl 7 (b.map fun x => elOf (pv124 x)))), (5, isI .i64 i)], [], 99⟩
    conv => whnf
    rw [hla]
    by_cases hia : i < a.length
    · have hib : i < b.length := by omega
      rw [decide_eq_true (show (i : Int) < (a.length : Int) by omega)]
      conv => whnf
      refine And.intro (by simp only [allP, List.nil_append, List.cons_append, true_and]; rw [hla]; omega) ?_
      conv => whnf
      rw [Int.toNat_natCast, map_getD (fun x => elOf (pv124 x)) a i _ hia]
      conv => whnf
      refine dI (k := ?_)
      conv => whnf
      refine And.intro (by simp only [allP, List.nil_append, List.cons_append, true_and]; rw [hlb]; omega) ?_
      conv => whnf
      rw [Int.toNat_natCast, map_getD (fun x => elOf (pv124 x)) b i _ hib]
      conv => whnf
      refine dI (k := ?_)
      conv => whnf
      have ta : a.take (i + 1) = a.take i ++ [a[i]] := by rw [List.take_add_one, List.getElem?_eq_getElem hia]; rfl
      have tb : b.take (i + 1) = b.take i ++ [b[i]] := by rw [List.take_add_one, List.getElem?_eq_getElem hib]; rfl
      have hok := h2 _ (List.getElem_mem hia)
      have hab0 : a[i] ≠ b[i] → a ≠ b := fun h e => by subst e; exact h rfl
      generalize hxa : a[i] = xa at ta hok hab0 ⊢
      generalize hxb : b[i] = xb at tb hab0 ⊢
      by_cases hc : xa = xb
      · refine ⟨(true, xa, xb), ?_⟩
        conv => whnf
        refine And.intro (by simp only [allP, List.nil_append, List.cons_append, true_and]; repeat' (first | exact iff_of_true rfl hc | exact iff_of_true trivial hc | exact hok | rfl | exact trivial | refine And.intro ?_ ?_)) ?_
        conv => whnf
        refine ⟨by rfl, ?_⟩
        (set_option smartUnfolding false in conv => whnf)
        refine ⟨⟨i + 1, by omega, by rw [ta, tb, ht, hc]⟩, by simp only; omega, ?_⟩
        conv => whnf
        exact ⟨rfl, rfl, by rw [wrap_i64 (by omega) (by omega)]; rfl⟩
      · refine ⟨(false, xa, xb), ?_⟩
        conv => whnf
        refine And.intro (by simp only [allP, List.nil_append, List.cons_append, true_and]; repeat' (first | exact iff_of_false Bool.false_ne_true hc | exact iff_of_false id hc | exact hok | rfl | exact trivial | refine And.intro ?_ ?_)) ?_
        conv => whnf
        refine ⟨by rfl, ?_⟩
        (set_option smartUnfolding false in conv => whnf)
        rw [ffOf hg (hab0 hc)]
    · rw [decide_eq_false (show ¬ (i : Int) < (a.length : Int) by omega)]
      conv => whnf
      have hab : a = b := by
        rw [List.take_of_length_le (by omega), List.take_of_length_le (by omega)] at ht
        exact ht
      rw [hg.2 hab]
  · rw [show ((a.length : Int) != (b.length : Int)) = true from by rw [bne_iff_ne]; omega]
    conv => whnf
    rw [ffOf hg fun e => hlen (by rw [e])]
theorem KSameGroups_sound : Sound Tryz.prog 57 cKSameGroups := does_sound mixed tabOk_prog gSn13_ok Tryz.func57 KSameGroups_does
def gSn14 : List (FuncId × Ctr) := (57, cKSameGroups) :: gSn13
theorem gSn14_ok : GamOk Tryz.prog gSn14 := GamOk.cons gSn13_ok Tryz.func57 (by kernel_rfl) (by kernel_rfl) KSameGroups_sound
abbrev cKSameTold : Ctr := ⟨Bool × S130 × S130, 0, fun (g, a, b) => [.agg ((pv130 a).map avOf), .agg ((pv130 b).map avOf)], fun _ => [], fun (g, a, b) => (g = true ↔ a = b) ∧ (ok130 a), fun (g, a, b) => isB g, fun _ => []⟩
theorem KSameTold_does : Does gSn14 tab Tryz.f193 cKSameTold := by
  rintro ⟨g, a, b⟩ ⟨hg, hk⟩
  obtain ⟨k0, k1⟩ := hk
  conv => whnf
  by_cases e0 : a.1 = b.1
  rotate_left
  · rw [show (a.1 == b.1) = false from (by rw [beq_eq_false_iff_ne]; exact e0)]
    conv => whnf
    rw [ffOf hg fun e => e0 (by rw [e])]
    first | done | rfl | (and_intros <;> rfl)
  rw [show (a.1 == b.1) = true from (by rw [e0]; simp)]
  conv => whnf
  refine dI (k := ?_)
  conv => whnf
  refine dI (k := ?_)
  conv => whnf
  by_cases e1 : a.2 = b.2
  rotate_left
  · refine ⟨(false, a.2, b.2), ?_⟩
    conv => whnf
    refine And.intro (by simp only [allP, List.nil_append, List.cons_append, true_and]; repeat' (first | exact iff_of_false Bool.false_ne_true e1 | exact iff_of_false id e1 | exact k1 | rfl | exact trivial | refine And.intro ?_ ?_)) ?_
    conv => whnf
    rw [ffOf hg fun e => e1 (by rw [e])]
    first | done | rfl | (and_intros <;> rfl)
  refine ⟨(true, a.2, b.2), ?_⟩
  conv => whnf
  refine And.intro (by simp only [allP, List.nil_append, List.cons_append, true_and]; repeat' (first | exact iff_of_true rfl e1 | exact iff_of_true trivial e1 | exact k1 | rfl | exact trivial | refine And.intro ?_ ?_)) ?_
  conv => whnf
  have hab : a = b := by
    obtain ⟨a0, a1⟩ := a
    obtain ⟨b0, b1⟩ := b
    simp only at e0 e1
    subst e0 e1
    rfl
  rw [hg.2 hab]
  first | done | rfl | (and_intros <;> rfl)
theorem KSameTold_sound : Sound Tryz.prog 193 cKSameTold := does_sound mixed tabOk_prog gSn14_ok Tryz.func193 KSameTold_does
def gSn15 : List (FuncId × Ctr) := (193, cKSameTold) :: gSn14
theorem gSn15_ok : GamOk Tryz.prog gSn15 := GamOk.cons gSn14_ok Tryz.func193 (by kernel_rfl) (by kernel_rfl) KSameTold_sound
abbrev cKSameTolds : Ctr := ⟨Bool × (List S130) × (List S130), 0, fun (g, a, b) => [.p false (.sl 7 (a.map fun x => elOf (pv130 x))), .p false (.sl 7 (b.map fun x => elOf (pv130 x)))], fun _ => [], fun (g, a, b) => (g = true ↔ a = b) ∧ ((a.length * 72 ≤ 140737488351232 ∧ a.length ≤ 9223372036854775807 ∧ ∀ e1 ∈ a, ok130 e1)), fun (g, a, b) => isB g, fun _ => []⟩
theorem KSameTolds_does : Does gSn15 tab Tryz.f164 cKSameTolds := by
  rintro ⟨g, a, b⟩ ⟨hg, h1, h1', h2⟩
  have hla : (a.map fun x => elOf (pv130 x)).length = a.length := List.length_map ..
  have hlb : (b.map fun x => elOf (pv130 x)).length = b.length := List.length_map ..
  conv => whnf
  rw [hla, hlb]
  by_cases hlen : a.length = b.length
  · rw [show ((a.length : Int) != (b.length : Int)) = false from by rw [hlen]; exact bne_self_eq_false _]
    conv => whnf
    refine ⟨{i : Nat // i ≤ a.length ∧ a.take i = b.take i}, fun i => ⟨[(0, .p false (.sl 7 (a.map fun x => elOf (pv130 x)))), (1, .p false (.sl 7 (b.map fun x => elOf (pv130 x)))), (5, isI .i64 i.1)], [], 99⟩, fun i => a.length - i.1, ⟨⟨0, by omega, rfl⟩, ?_⟩, ?_⟩
    · conv => whnf
      exact ⟨rfl, rfl, rfl⟩
    rintro ⟨i, hi, ht⟩
    show aw _ _ _ _ _ _ ⟨[(0, .p false (.sl 7 (a.map fun x => elOf (pv130 x)))), (1, .p false (.sl 7 (b.map fun x => elOf (pv130 x)))), (5, isI .i64 i)], [], 99⟩
    conv => whnf
    rw [hla]
    by_cases hia : i < a.length
    · have hib : i < b.length := by omega
      rw [decide_eq_true (show (i : Int) < (a.length : Int) by omega)]
      conv => whnf
      refine And.intro (by simp only [allP, List.nil_append, List.cons_append, true_and]; rw [hla]; omega) ?_
      conv => whnf
      rw [Int.toNat_natCast, map_getD (fun x => elOf (pv130 x)) a i _ hia]
      conv => whnf
      refine dI (k := ?_)
      conv => whnf
      refine And.intro (by simp only [allP, List.nil_append, List.cons_append, true_and]; rw [hlb]; omega) ?_
      conv => whnf
      rw [Int.toNat_natCast, map_getD (fun x => elOf (pv130 x)) b i _ hib]
      conv => whnf
      refine dI (k := ?_)
      conv => whnf
      have ta : a.take (i + 1) = a.take i ++ [a[i]] := by rw [List.take_add_one, List.getElem?_eq_getElem hia]; rfl
      have tb : b.take (i + 1) = b.take i ++ [b[i]] := by rw [List.take_add_one, List.getElem?_eq_getElem hib]; rfl
      have hok := h2 _ (List.getElem_mem hia)
      have hab0 : a[i] ≠ b[i] → a ≠ b := fun h e => by subst e; exact h rfl
      generalize hxa : a[i] = xa at ta hok hab0 ⊢
      generalize hxb : b[i] = xb at tb hab0 ⊢
      by_cases hc : xa = xb
      · refine ⟨(true, xa, xb), ?_⟩
        conv => whnf
        refine And.intro (by simp only [allP, List.nil_append, List.cons_append, true_and]; repeat' (first | exact iff_of_true rfl hc | exact iff_of_true trivial hc | exact hok | rfl | exact trivial | refine And.intro ?_ ?_)) ?_
        conv => whnf
        refine ⟨by rfl, ?_⟩
        (set_option smartUnfolding false in conv => whnf)
        refine ⟨⟨i + 1, by omega, by rw [ta, tb, ht, hc]⟩, by simp only; omega, ?_⟩
        conv => whnf
        exact ⟨rfl, rfl, by rw [wrap_i64 (by omega) (by omega)]; rfl⟩
      · refine ⟨(false, xa, xb), ?_⟩
        conv => whnf
        refine And.intro (by simp only [allP, List.nil_append, List.cons_append, true_and]; repeat' (first | exact iff_of_false Bool.false_ne_true hc | exact iff_of_false id hc | exact hok | rfl | exact trivial | refine And.intro ?_ ?_)) ?_
        conv => whnf
        refine ⟨by rfl, ?_⟩
        (set_option smartUnfolding false in conv => whnf)
        rw [ffOf hg (hab0 hc)]
    · rw [decide_eq_false (show ¬ (i : Int) < (a.length : Int) by omega)]
      conv => whnf
      have hab : a = b := by
        rw [List.take_of_length_le (by omega), List.take_of_length_le (by omega)] at ht
        exact ht
      rw [hg.2 hab]
  · rw [show ((a.length : Int) != (b.length : Int)) = true from by rw [bne_iff_ne]; omega]
    conv => whnf
    rw [ffOf hg fun e => hlen (by rw [e])]
theorem KSameTolds_sound : Sound Tryz.prog 164 cKSameTolds := does_sound mixed tabOk_prog gSn15_ok Tryz.func164 KSameTolds_does
def gSn16 : List (FuncId × Ctr) := (164, cKSameTolds) :: gSn15
theorem gSn16_ok : GamOk Tryz.prog gSn16 := GamOk.cons gSn15_ok Tryz.func164 (by kernel_rfl) (by kernel_rfl) KSameTolds_sound
abbrev cKSameCaller : Ctr := ⟨Bool × S128 × S128, 0, fun (g, a, b) => [.agg ((pv128 a).map avOf), .agg ((pv128 b).map avOf)], fun _ => [], fun (g, a, b) => (g = true ↔ a = b) ∧ (ok128 a), fun (g, a, b) => isB g, fun _ => []⟩
theorem KSameCaller_does : Does gSn16 tab Tryz.f114 cKSameCaller := by
  rintro ⟨g, a, b⟩ ⟨hg, hk⟩
  obtain ⟨k0, k1, k2⟩ := hk
  conv => whnf
  by_cases e0 : a.1 = b.1
  rotate_left
  · rw [show (a.1 == b.1) = false from (by rw [beq_eq_false_iff_ne]; exact e0)]
    conv => whnf
    rw [ffOf hg fun e => e0 (by rw [e])]
    first | done | rfl | (and_intros <;> rfl)
  rw [show (a.1 == b.1) = true from (by rw [e0]; simp)]
  conv => whnf
  by_cases e1 : a.2.1 = b.2.1
  rotate_left
  · rw [show (a.2.1 == b.2.1) = false from (by rw [beq_eq_false_iff_ne]; exact e1)]
    conv => whnf
    rw [ffOf hg fun e => e1 (by rw [e])]
    first | done | rfl | (and_intros <;> rfl)
  rw [show (a.2.1 == b.2.1) = true from (by rw [e1]; simp)]
  conv => whnf
  by_cases e2 : a.2.2 = b.2.2
  rotate_left
  · refine ⟨(false, a.2.2, b.2.2), ?_⟩
    conv => whnf
    refine And.intro (by simp only [allP, List.nil_append, List.cons_append, true_and]; repeat' (first | exact iff_of_false Bool.false_ne_true e2 | exact iff_of_false id e2 | exact k2 | rfl | exact trivial | refine And.intro ?_ ?_)) ?_
    conv => whnf
    rw [ffOf hg fun e => e2 (by rw [e])]
    first | done | rfl | (and_intros <;> rfl)
  refine ⟨(true, a.2.2, b.2.2), ?_⟩
  conv => whnf
  refine And.intro (by simp only [allP, List.nil_append, List.cons_append, true_and]; repeat' (first | exact iff_of_true rfl e2 | exact iff_of_true trivial e2 | exact k2 | rfl | exact trivial | refine And.intro ?_ ?_)) ?_
  conv => whnf
  have hab : a = b := by
    obtain ⟨a0, a1, a2⟩ := a
    obtain ⟨b0, b1, b2⟩ := b
    simp only at e0 e1 e2
    subst e0 e1 e2
    rfl
  rw [hg.2 hab]
  first | done | rfl | (and_intros <;> rfl)
theorem KSameCaller_sound : Sound Tryz.prog 114 cKSameCaller := does_sound mixed tabOk_prog gSn16_ok Tryz.func114 KSameCaller_does
def gSn17 : List (FuncId × Ctr) := (114, cKSameCaller) :: gSn16
theorem gSn17_ok : GamOk Tryz.prog gSn17 := GamOk.cons gSn16_ok Tryz.func114 (by kernel_rfl) (by kernel_rfl) KSameCaller_sound
abbrev cKSameCallers : Ctr := ⟨Bool × (List S128) × (List S128), 0, fun (g, a, b) => [.p false (.sl 3 (a.map fun x => elOf (pv128 x))), .p false (.sl 3 (b.map fun x => elOf (pv128 x)))], fun _ => [], fun (g, a, b) => (g = true ↔ a = b) ∧ ((a.length * 40 ≤ 140737488351232 ∧ a.length ≤ 9223372036854775807 ∧ ∀ e1 ∈ a, ok128 e1)), fun (g, a, b) => isB g, fun _ => []⟩
theorem KSameCallers_does : Does gSn17 tab Tryz.f58 cKSameCallers := by
  rintro ⟨g, a, b⟩ ⟨hg, h1, h1', h2⟩
  have hla : (a.map fun x => elOf (pv128 x)).length = a.length := List.length_map ..
  have hlb : (b.map fun x => elOf (pv128 x)).length = b.length := List.length_map ..
  conv => whnf
  rw [hla, hlb]
  by_cases hlen : a.length = b.length
  · rw [show ((a.length : Int) != (b.length : Int)) = false from by rw [hlen]; exact bne_self_eq_false _]
    conv => whnf
    refine ⟨{i : Nat // i ≤ a.length ∧ a.take i = b.take i}, fun i => ⟨[(0, .p false (.sl 3 (a.map fun x => elOf (pv128 x)))), (1, .p false (.sl 3 (b.map fun x => elOf (pv128 x)))), (5, isI .i64 i.1)], [], 99⟩, fun i => a.length - i.1, ⟨⟨0, by omega, rfl⟩, ?_⟩, ?_⟩
    · conv => whnf
      exact ⟨rfl, rfl, rfl⟩
    rintro ⟨i, hi, ht⟩
    show aw _ _ _ _ _ _ ⟨[(0, .p false (.sl 3 (a.map fun x => elOf (pv128 x)))), (1, .p false (.sl 3 (b.map fun x => elOf (pv128 x)))), (5, isI .i64 i)], [], 99⟩
    conv => whnf
    rw [hla]
    by_cases hia : i < a.length
    · have hib : i < b.length := by omega
      rw [decide_eq_true (show (i : Int) < (a.length : Int) by omega)]
      conv => whnf
      refine And.intro (by simp only [allP, List.nil_append, List.cons_append, true_and]; rw [hla]; omega) ?_
      conv => whnf
      rw [Int.toNat_natCast, map_getD (fun x => elOf (pv128 x)) a i _ hia]
      conv => whnf
      refine dI (k := ?_)
      conv => whnf
      refine And.intro (by simp only [allP, List.nil_append, List.cons_append, true_and]; rw [hlb]; omega) ?_
      conv => whnf
      rw [Int.toNat_natCast, map_getD (fun x => elOf (pv128 x)) b i _ hib]
      conv => whnf
      refine dI (k := ?_)
      conv => whnf
      have ta : a.take (i + 1) = a.take i ++ [a[i]] := by rw [List.take_add_one, List.getElem?_eq_getElem hia]; rfl
      have tb : b.take (i + 1) = b.take i ++ [b[i]] := by rw [List.take_add_one, List.getElem?_eq_getElem hib]; rfl
      have hok := h2 _ (List.getElem_mem hia)
      have hab0 : a[i] ≠ b[i] → a ≠ b := fun h e => by subst e; exact h rfl
      generalize hxa : a[i] = xa at ta hok hab0 ⊢
      generalize hxb : b[i] = xb at tb hab0 ⊢
      by_cases hc : xa = xb
      · refine ⟨(true, xa, xb), ?_⟩
        conv => whnf
        refine And.intro (by simp only [allP, List.nil_append, List.cons_append, true_and]; repeat' (first | exact iff_of_true rfl hc | exact iff_of_true trivial hc | exact hok | rfl | exact trivial | refine And.intro ?_ ?_)) ?_
        conv => whnf
        refine ⟨by rfl, ?_⟩
        (set_option smartUnfolding false in conv => whnf)
        refine ⟨⟨i + 1, by omega, by rw [ta, tb, ht, hc]⟩, by simp only; omega, ?_⟩
        conv => whnf
        exact ⟨rfl, rfl, by rw [wrap_i64 (by omega) (by omega)]; rfl⟩
      · refine ⟨(false, xa, xb), ?_⟩
        conv => whnf
        refine And.intro (by simp only [allP, List.nil_append, List.cons_append, true_and]; repeat' (first | exact iff_of_false Bool.false_ne_true hc | exact iff_of_false id hc | exact hok | rfl | exact trivial | refine And.intro ?_ ?_)) ?_
        conv => whnf
        refine ⟨by rfl, ?_⟩
        (set_option smartUnfolding false in conv => whnf)
        rw [ffOf hg (hab0 hc)]
    · rw [decide_eq_false (show ¬ (i : Int) < (a.length : Int) by omega)]
      conv => whnf
      have hab : a = b := by
        rw [List.take_of_length_le (by omega), List.take_of_length_le (by omega)] at ht
        exact ht
      rw [hg.2 hab]
  · rw [show ((a.length : Int) != (b.length : Int)) = true from by rw [bne_iff_ne]; omega]
    conv => whnf
    rw [ffOf hg fun e => hlen (by rw [e])]
theorem KSameCallers_sound : Sound Tryz.prog 58 cKSameCallers := does_sound mixed tabOk_prog gSn17_ok Tryz.func58 KSameCallers_does
def gSn18 : List (FuncId × Ctr) := (58, cKSameCallers) :: gSn17
theorem gSn18_ok : GamOk Tryz.prog gSn18 := GamOk.cons gSn17_ok Tryz.func58 (by kernel_rfl) (by kernel_rfl) KSameCallers_sound
abbrev cKSameMeta : Ctr := ⟨Bool × S37 × S37, 0, fun (g, a, b) => [.agg ((pv37 a).map avOf), .agg ((pv37 b).map avOf)], fun _ => [], fun (g, a, b) => (g = true ↔ a = b) ∧ (ok37 a), fun (g, a, b) => isB g, fun _ => []⟩
theorem KSameMeta_does : Does gSn18 tab Tryz.f14 cKSameMeta := by
  rintro ⟨g, a, b⟩ ⟨hg, hk⟩
  obtain ⟨k0, k1, k2, k3, k4⟩ := hk
  conv => whnf
  by_cases e0 : a.1 = b.1
  rotate_left
  · rw [show (a.1 == b.1) = false from (by rw [beq_eq_false_iff_ne]; exact e0)]
    conv => whnf
    rw [ffOf hg fun e => e0 (by rw [e])]
    first | done | rfl | (and_intros <;> rfl)
  rw [show (a.1 == b.1) = true from (by rw [e0]; simp)]
  conv => whnf
  by_cases e1 : a.2.1 = b.2.1
  rotate_left
  · refine ⟨(false, a.2.1, b.2.1), ?_⟩
    conv => whnf
    refine And.intro (by simp only [allP, List.nil_append, List.cons_append, true_and]; repeat' (first | exact iff_of_false Bool.false_ne_true e1 | exact iff_of_false id e1 | exact k1 | rfl | exact trivial | refine And.intro ?_ ?_)) ?_
    conv => whnf
    rw [ffOf hg fun e => e1 (by rw [e])]
    first | done | rfl | (and_intros <;> rfl)
  refine ⟨(true, a.2.1, b.2.1), ?_⟩
  conv => whnf
  refine And.intro (by simp only [allP, List.nil_append, List.cons_append, true_and]; repeat' (first | exact iff_of_true rfl e1 | exact iff_of_true trivial e1 | exact k1 | rfl | exact trivial | refine And.intro ?_ ?_)) ?_
  conv => whnf
  by_cases e2 : a.2.2.1 = b.2.2.1
  rotate_left
  · refine ⟨(false, a.2.2.1, b.2.2.1), ?_⟩
    conv => whnf
    refine And.intro (by simp only [allP, List.nil_append, List.cons_append, true_and]; repeat' (first | exact iff_of_false Bool.false_ne_true e2 | exact iff_of_false id e2 | exact k2 | rfl | exact trivial | refine And.intro ?_ ?_)) ?_
    conv => whnf
    rw [ffOf hg fun e => e2 (by rw [e])]
    first | done | rfl | (and_intros <;> rfl)
  refine ⟨(true, a.2.2.1, b.2.2.1), ?_⟩
  conv => whnf
  refine And.intro (by simp only [allP, List.nil_append, List.cons_append, true_and]; repeat' (first | exact iff_of_true rfl e2 | exact iff_of_true trivial e2 | exact k2 | rfl | exact trivial | refine And.intro ?_ ?_)) ?_
  conv => whnf
  by_cases e3 : a.2.2.2.1 = b.2.2.2.1
  rotate_left
  · refine ⟨(false, a.2.2.2.1, b.2.2.2.1), ?_⟩
    conv => whnf
    refine And.intro (by simp only [allP, List.nil_append, List.cons_append, true_and]; repeat' (first | exact iff_of_false Bool.false_ne_true e3 | exact iff_of_false id e3 | exact k3 | rfl | exact trivial | refine And.intro ?_ ?_)) ?_
    conv => whnf
    rw [ffOf hg fun e => e3 (by rw [e])]
    first | done | rfl | (and_intros <;> rfl)
  refine ⟨(true, a.2.2.2.1, b.2.2.2.1), ?_⟩
  conv => whnf
  refine And.intro (by simp only [allP, List.nil_append, List.cons_append, true_and]; repeat' (first | exact iff_of_true rfl e3 | exact iff_of_true trivial e3 | exact k3 | rfl | exact trivial | refine And.intro ?_ ?_)) ?_
  conv => whnf
  by_cases e4 : a.2.2.2.2 = b.2.2.2.2
  rotate_left
  · refine ⟨(false, a.2.2.2.2, b.2.2.2.2), ?_⟩
    conv => whnf
    refine And.intro (by simp only [allP, List.nil_append, List.cons_append, true_and]; repeat' (first | exact iff_of_false Bool.false_ne_true e4 | exact iff_of_false id e4 | exact k4 | rfl | exact trivial | refine And.intro ?_ ?_)) ?_
    conv => whnf
    rw [ffOf hg fun e => e4 (by rw [e])]
    first | done | rfl | (and_intros <;> rfl)
  refine ⟨(true, a.2.2.2.2, b.2.2.2.2), ?_⟩
  conv => whnf
  refine And.intro (by simp only [allP, List.nil_append, List.cons_append, true_and]; repeat' (first | exact iff_of_true rfl e4 | exact iff_of_true trivial e4 | exact k4 | rfl | exact trivial | refine And.intro ?_ ?_)) ?_
  conv => whnf
  have hab : a = b := by
    obtain ⟨a0, a1, a2, a3, a4⟩ := a
    obtain ⟨b0, b1, b2, b3, b4⟩ := b
    simp only at e0 e1 e2 e3 e4
    subst e0 e1 e2 e3 e4
    rfl
  rw [hg.2 hab]
  first | done | rfl | (and_intros <;> rfl)
theorem KSameMeta_sound : Sound Tryz.prog 14 cKSameMeta := does_sound mixed tabOk_prog gSn18_ok Tryz.func14 KSameMeta_does
def gSn19 : List (FuncId × Ctr) := (14, cKSameMeta) :: gSn18
theorem gSn19_ok : GamOk Tryz.prog gSn19 := GamOk.cons gSn18_ok Tryz.func14 (by kernel_rfl) (by kernel_rfl) KSameMeta_sound
def gSames : List (FuncId × Ctr) := gSn19
theorem gSames_ok : GamOk Tryz.prog gSames := gSn19_ok
end Go.Proofs.YtingmlhhabaplaaGreat.Ev
