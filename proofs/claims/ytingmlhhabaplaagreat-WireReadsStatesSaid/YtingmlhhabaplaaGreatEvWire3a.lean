/- Wire: what the document puts together: structs. No conditions. -/
import Derived.Test.YtingmlhhabaplaaGreatEvWire3
namespace Go.Proofs.YtingmlhhabaplaaGreat.Ev
open Go
set_option linter.unusedVariables false
set_option linter.unusedSimpArgs false
set_option maxRecDepth 100000
set_option maxHeartbeats 4000000
/-- A thing as the document's bytes. -/
abbrev cDoc {X : Type} (kd : UInt8) (enc : X → List UInt8) (av : X → AV) (ok : X → Prop) : Ctr := ⟨X, 0, fun x => [av x], fun _ => [], fun x => ok x ∧ (enc x).length ≤ 900000000000, fun _ => .rowf 0, fun x => [(0, .row 5 1 true false (bl (kd :: enc x)))]⟩
abbrev cRplace : Ctr := cR en55 (fun x : S55 => .agg ((pv55 x).map avOf)) ok55
theorem Rplace_does : Does gQ2 tab Tryz.f159 cRplace := by
  rintro ⟨b, x⟩ ⟨hx, h3⟩
  obtain ⟨k0, k1⟩ := hx
  (set_option smartUnfolding false in conv => whnf)
  refine ⟨(b, x.1), ?_⟩
  conv => whnf
  refine And.intro (by simp only [allP, List.nil_append, List.cons_append, true_and]; repeat' (first | assumption | rfl | trivial | (apply int_r; assumption) | exact k0.1 | exact k0.2.2 | (intros; trivial) | (simp only [en55, nuB_vE, List.length_append, List.length_cons, List.length_nil] at h3 ⊢; omega) | refine And.intro ?_ ?_ | omega)) ?_
  (set_option smartUnfolding false in conv => whnf)
  refine ⟨((b ++ txB x.1), x.2), ?_⟩
  conv => whnf
  refine And.intro (by simp only [allP, List.nil_append, List.cons_append, true_and]; repeat' (first | assumption | rfl | trivial | (apply int_r; assumption) | exact k1.1 | exact k1.2.2 | (intros; trivial) | (simp only [en55, nuB_vE, List.length_append, List.length_cons, List.length_nil] at h3 ⊢; omega) | refine And.intro ?_ ?_ | omega)) ?_
  (set_option smartUnfolding false in conv => whnf)
  refine ⟨by rfl, ?_⟩
  (set_option smartUnfolding false in conv => whnf)
  rw [show b ++ en55 x = ((b ++ txB x.1) ++ nuB x.2) from by simp only [en55, List.append_assoc]]
  first | done | (and_intros <;> rfl)
theorem Rplace_sound : Sound Tryz.prog 159 cRplace := does_sound mixed tabOk_prog gQ2_ok Tryz.func159 Rplace_does
def gQ3 : List (FuncId × Ctr) := (159, cRplace) :: gQ2
theorem gQ3_ok : GamOk Tryz.prog gQ3 := GamOk.cons gQ2_ok Tryz.func159 (by kernel_rfl) (by kernel_rfl) Rplace_sound
abbrev cRplaces : Ctr := cR (lsB en55) (fun l : List S55 => .p false (.sl 2 ((fun l : List S55 => l.map fun x => elOf (pv55 x)) l))) (fun l => l.length ≤ 140737488351232 ∧ ∀ x ∈ l, ok55 x)
theorem Rplaces_does : Does gQ3 tab Tryz.f158 cRplaces := by
  rintro ⟨b, l⟩ ⟨⟨h1, h2⟩, h3⟩
  have hil : ((fun l : List S55 => l.map fun x => elOf (pv55 x)) l).length = l.length := List.length_map ..
  have h3' : b.length + ((vE l.length).length + (l.map en55).flatten.length) ≤ 1000000000000 := by rw [lsB, List.length_append] at h3; exact h3
  conv => whnf
  rw [hil]
  refine ⟨(b, l.length), ?_⟩
  conv => whnf
  refine And.intro (by simp only [allP, List.nil_append, List.cons_append, true_and]; repeat' (first | assumption | rfl | trivial | refine And.intro ?_ ?_ | omega)) ?_
  conv => whnf
  refine ⟨{i : Nat // i ≤ l.length}, fun i => ⟨[(0, .rowf 1), (1, .p false (.sl 2 ((fun l : List S55 => l.map fun x => elOf (pv55 x)) l))), (5, isI .i64 i.1)], [(0, .gone), (1, .row 5 1 true false (bl (b ++ vE l.length ++ ((l.take i.1).map en55).flatten)))], 99⟩, fun i => l.length - i.1, ⟨⟨0, Nat.zero_le _⟩, ?_⟩, ?_⟩
  · conv => whnf
    rw [List.take_zero, List.map_nil, List.flatten_nil, List.append_nil]
    first | done | (and_intros <;> rfl)
  rintro ⟨i, hi⟩
  show aw _ _ _ _ _ _ ⟨[(0, .rowf 1), (1, .p false (.sl 2 ((fun l : List S55 => l.map fun x => elOf (pv55 x)) l))), (5, isI .i64 i)], [(0, .gone), (1, .row 5 1 true false (bl (b ++ vE l.length ++ ((l.take i).map en55).flatten)))], 99⟩
  conv => whnf
  rw [hil]
  by_cases hlt : i < l.length
  · rw [decide_eq_true (show (i : Int) < (l.length : Int) by omega)]
    conv => whnf
    refine And.intro (by simp only [allP, List.nil_append, List.cons_append, true_and]; rw [hil]; omega) ?_
    conv => whnf
    rw [Int.toNat_natCast, map_getD (fun x => elOf (pv55 x)) l i _ hlt]
    conv => whnf
    refine dI (k := ?_)
    conv => whnf
    have hfl := flat_one_len en55 hlt
    have hst := flat_step en55 hlt
    have hok := h2 _ (List.getElem_mem hlt)
    generalize l[i] = x at hfl hst hok ⊢
    refine ⟨(b ++ vE l.length ++ ((l.take i).map en55).flatten, x), ?_⟩
    conv => whnf
    refine And.intro (by simp only [allP, List.nil_append, List.cons_append, true_and]; repeat' (first | assumption | rfl | trivial | (rw [List.length_append, List.length_append]; omega) | refine And.intro ?_ ?_ | omega)) ?_
    conv => whnf
    refine ⟨⟨i + 1, by omega⟩, by simp only; omega, ?_⟩
    conv => whnf
    rw [hst]
    and_intros <;> first | rfl | (rw [wrap_i64 (by omega) (by omega)]; rfl) | (rw [List.append_assoc]; rfl) | (rw [← List.append_assoc]; rfl)
  · rw [decide_eq_false (show ¬ (i : Int) < (l.length : Int) by omega)]
    conv => whnf
    rw [List.take_of_length_le (by omega), List.append_assoc]
    first | done | (and_intros <;> rfl)
theorem Rplaces_sound : Sound Tryz.prog 158 cRplaces := does_sound mixed tabOk_prog gQ3_ok Tryz.func158 Rplaces_does
def gQ4 : List (FuncId × Ctr) := (158, cRplaces) :: gQ3
theorem gQ4_ok : GamOk Tryz.prog gQ4 := GamOk.cons gQ3_ok Tryz.func158 (by kernel_rfl) (by kernel_rfl) Rplaces_sound
abbrev cRbatch : Ctr := cR en46 (fun x : S46 => .agg ((pv46 x).map avOf)) ok46
theorem Rbatch_does : Does gQ4 tab Tryz.f117 cRbatch := by
  rintro ⟨b, x⟩ ⟨hx, h3⟩
  obtain ⟨k0, k1, k2, k3⟩ := hx
  (set_option smartUnfolding false in conv => whnf)
  refine ⟨(b, x.1), ?_⟩
  conv => whnf
  refine And.intro (by simp only [allP, List.nil_append, List.cons_append, true_and]; repeat' (first | assumption | rfl | trivial | (apply int_r; assumption) | exact k0.1 | exact k0.2.2 | (intros; trivial) | (simp only [en46, nuB_vE, List.length_append, List.length_cons, List.length_nil] at h3 ⊢; omega) | refine And.intro ?_ ?_ | omega)) ?_
  (set_option smartUnfolding false in conv => whnf)
  refine ⟨((b ++ nuB x.1), x.2.1), ?_⟩
  conv => whnf
  refine And.intro (by simp only [allP, List.nil_append, List.cons_append, true_and]; repeat' (first | assumption | rfl | trivial | (apply int_r; assumption) | exact k1.1 | exact k1.2.2 | (intros; trivial) | (simp only [en46, nuB_vE, List.length_append, List.length_cons, List.length_nil] at h3 ⊢; omega) | refine And.intro ?_ ?_ | omega)) ?_
  (set_option smartUnfolding false in conv => whnf)
  refine ⟨(((b ++ nuB x.1) ++ nuB x.2.1), x.2.2.1), ?_⟩
  conv => whnf
  refine And.intro (by simp only [allP, List.nil_append, List.cons_append, true_and]; repeat' (first | assumption | rfl | trivial | (apply int_r; assumption) | exact k2.1 | exact k2.2.2 | (intros; trivial) | (simp only [en46, nuB_vE, List.length_append, List.length_cons, List.length_nil] at h3 ⊢; omega) | refine And.intro ?_ ?_ | omega)) ?_
  (set_option smartUnfolding false in conv => whnf)
  refine ⟨((((b ++ nuB x.1) ++ nuB x.2.1) ++ nuB x.2.2.1), x.2.2.2), ?_⟩
  conv => whnf
  refine And.intro (by simp only [allP, List.nil_append, List.cons_append, true_and]; repeat' (first | assumption | rfl | trivial | (apply int_r; assumption) | exact k3.1 | exact k3.2.2 | (intros; trivial) | (simp only [en46, nuB_vE, List.length_append, List.length_cons, List.length_nil] at h3 ⊢; omega) | refine And.intro ?_ ?_ | omega)) ?_
  (set_option smartUnfolding false in conv => whnf)
  refine ⟨by rfl, ?_⟩
  (set_option smartUnfolding false in conv => whnf)
  rw [show b ++ en46 x = ((((b ++ nuB x.1) ++ nuB x.2.1) ++ nuB x.2.2.1) ++ lsB recB x.2.2.2) from by simp only [en46, List.append_assoc]]
  first | done | (and_intros <;> rfl)
theorem Rbatch_sound : Sound Tryz.prog 117 cRbatch := does_sound mixed tabOk_prog gQ4_ok Tryz.func117 Rbatch_does
def gQ5 : List (FuncId × Ctr) := (117, cRbatch) :: gQ4
theorem gQ5_ok : GamOk Tryz.prog gQ5 := GamOk.cons gQ4_ok Tryz.func117 (by kernel_rfl) (by kernel_rfl) Rbatch_sound
abbrev cRanswer : Ctr := cR en70 (fun x : S70 => .agg ((pv70 x).map avOf)) ok70
theorem Ranswer_does : Does gQ5 tab Tryz.f110 cRanswer := by
  rintro ⟨b, x⟩ ⟨hx, h3⟩
  obtain ⟨k0, k1, k2, k3, k4, k5⟩ := hx
  (set_option smartUnfolding false in conv => whnf)
  refine ⟨(b, x.1), ?_⟩
  conv => whnf
  refine And.intro (by simp only [allP, List.nil_append, List.cons_append, true_and]; repeat' (first | assumption | rfl | trivial | (apply int_r; assumption) | exact k0.1 | exact k0.2.2 | (intros; trivial) | (simp only [en70, nuB_vE, List.length_append, List.length_cons, List.length_nil] at h3 ⊢; omega) | refine And.intro ?_ ?_ | omega)) ?_
  (set_option smartUnfolding false in conv => whnf)
  refine ⟨((b ++ nuB x.1), x.2.1), ?_⟩
  conv => whnf
  refine And.intro (by simp only [allP, List.nil_append, List.cons_append, true_and]; repeat' (first | assumption | rfl | trivial | (apply int_r; assumption) | exact k1.1 | exact k1.2.2 | (intros; trivial) | (simp only [en70, nuB_vE, List.length_append, List.length_cons, List.length_nil] at h3 ⊢; omega) | refine And.intro ?_ ?_ | omega)) ?_
  (set_option smartUnfolding false in conv => whnf)
  refine ⟨(((b ++ nuB x.1) ++ nuB x.2.1), x.2.2.1), ?_⟩
  conv => whnf
  refine And.intro (by simp only [allP, List.nil_append, List.cons_append, true_and]; repeat' (first | assumption | rfl | trivial | (apply int_r; assumption) | exact k2.1 | exact k2.2.2 | (intros; trivial) | (simp only [en70, nuB_vE, List.length_append, List.length_cons, List.length_nil] at h3 ⊢; omega) | refine And.intro ?_ ?_ | omega)) ?_
  (set_option smartUnfolding false in conv => whnf)
  refine ⟨((((b ++ nuB x.1) ++ nuB x.2.1) ++ nuB x.2.2.1), x.2.2.2.1), ?_⟩
  conv => whnf
  refine And.intro (by simp only [allP, List.nil_append, List.cons_append, true_and]; repeat' (first | assumption | rfl | trivial | (apply int_r; assumption) | exact k3.1 | exact k3.2.2 | (intros; trivial) | (simp only [en70, nuB_vE, List.length_append, List.length_cons, List.length_nil] at h3 ⊢; omega) | refine And.intro ?_ ?_ | omega)) ?_
  (set_option smartUnfolding false in conv => whnf)
  first | rw [kind_w x.2.2.2.2.1] | skip
  refine ⟨(((((b ++ nuB x.1) ++ nuB x.2.1) ++ nuB x.2.2.1) ++ nuB x.2.2.2.1), ((x.2.2.2.2.1).toNat : Int)), ?_⟩
  conv => whnf
  refine And.intro (by simp only [allP, List.nil_append, List.cons_append, true_and]; repeat' (first | assumption | rfl | trivial | exact kind_r _ | (simp only [en70, nuB_vE, List.length_append, List.length_cons, List.length_nil] at h3 ⊢; omega) | refine And.intro ?_ ?_ | omega)) ?_
  (set_option smartUnfolding false in conv => whnf)
  refine ⟨((((((b ++ nuB x.1) ++ nuB x.2.1) ++ nuB x.2.2.1) ++ nuB x.2.2.2.1) ++ nuB ((x.2.2.2.2.1).toNat : Int)), x.2.2.2.2.2), ?_⟩
  conv => whnf
  refine And.intro (by simp only [allP, List.nil_append, List.cons_append, true_and]; repeat' (first | assumption | rfl | trivial | (apply int_r; assumption) | exact k5.1 | exact k5.2.2 | (intros; trivial) | (simp only [en70, nuB_vE, List.length_append, List.length_cons, List.length_nil] at h3 ⊢; omega) | refine And.intro ?_ ?_ | omega)) ?_
  (set_option smartUnfolding false in conv => whnf)
  refine ⟨by rfl, ?_⟩
  (set_option smartUnfolding false in conv => whnf)
  rw [show b ++ en70 x = ((((((b ++ nuB x.1) ++ nuB x.2.1) ++ nuB x.2.2.1) ++ nuB x.2.2.2.1) ++ nuB ((x.2.2.2.2.1).toNat : Int)) ++ lsB en55 x.2.2.2.2.2) from by simp only [en70, List.append_assoc]]
  first | done | (and_intros <;> rfl)
theorem Ranswer_sound : Sound Tryz.prog 110 cRanswer := does_sound mixed tabOk_prog gQ5_ok Tryz.func110 Ranswer_does
def gQ6 : List (FuncId × Ctr) := (110, cRanswer) :: gQ5
theorem gQ6_ok : GamOk Tryz.prog gQ6 := GamOk.cons gQ5_ok Tryz.func110 (by kernel_rfl) (by kernel_rfl) Ranswer_sound
end Go.Proofs.YtingmlhhabaplaaGreat.Ev
