/- Wire: what the program puts together: group. No conditions. -/
import Derived.Test.YtingmlhhabaplaaGreatEvWire1e
namespace Go.Proofs.YtingmlhhabaplaaGreat.Ev
open Go
set_option linter.unusedVariables false
set_option linter.unusedSimpArgs false
set_option maxRecDepth 100000
set_option maxHeartbeats 4000000
abbrev cOgroup : Ctr := cO en124 (fun x : S124 => .agg ((pv124 x).map avOf)) ok124
theorem Ogroup_does : Does gP29 tab Tryz.f180 cOgroup := by
  rintro ⟨b, x⟩ ⟨hx, h3⟩
  obtain ⟨k0, k1, k2, k3, k4, k5, k6⟩ := hx
  (set_option smartUnfolding false in conv => whnf)
  refine ⟨(b, ([x.1] : List ByteArray)), ?_⟩
  conv => whnf
  refine And.intro (by simp only [allP, List.nil_append, List.cons_append, true_and]; repeat' (first | assumption | rfl | trivial | exact List.cons_ne_nil _ _ | (simp only [List.length_cons, List.length_nil]; omega) | (simp only [en124, nsB_c, nsB_n, tsB_c, tsB_n, List.length_append, List.length_nil] at h3 ⊢; omega) | refine And.intro ?_ ?_ | omega)) ?_
  (set_option smartUnfolding false in conv => whnf)
  rw [kind_w x.2.2.1]
  refine ⟨((b ++ tsB [x.1]), ([x.2.1, ((x.2.2.1).toNat : Int)] : List Int)), ?_⟩
  conv => whnf
  refine And.intro (by simp only [allP, List.nil_append, List.cons_append, true_and]; repeat' (first | assumption | rfl | trivial | exact List.cons_ne_nil _ _ | (intro m hm; simp only [List.mem_cons, List.not_mem_nil, or_false] at hm; rcases hm with rfl | rfl <;> first | exact kind_r _ | (apply int_r; assumption)) | (simp only [List.length_cons, List.length_nil]; omega) | (simp only [en124, nsB_c, nsB_n, tsB_c, tsB_n, List.length_append, List.length_nil] at h3 ⊢; omega) | refine And.intro ?_ ?_ | omega)) ?_
  (set_option smartUnfolding false in conv => whnf)
  refine ⟨(((b ++ tsB [x.1]) ++ nsB [x.2.1, ((x.2.2.1).toNat : Int)]), ([x.2.2.2.1] : List Int)), ?_⟩
  conv => whnf
  refine And.intro (by simp only [allP, List.nil_append, List.cons_append, true_and]; repeat' (first | assumption | rfl | trivial | exact List.cons_ne_nil _ _ | (intro m hm; simp only [List.mem_cons, List.not_mem_nil, or_false] at hm; rcases hm with rfl <;> first | exact kind_r _ | (apply int_r; assumption)) | (simp only [List.length_cons, List.length_nil]; omega) | (simp only [en124, nsB_c, nsB_n, tsB_c, tsB_n, List.length_append, List.length_nil] at h3 ⊢; omega) | refine And.intro ?_ ?_ | omega)) ?_
  (set_option smartUnfolding false in conv => whnf)
  refine ⟨((((b ++ tsB [x.1]) ++ nsB [x.2.1, ((x.2.2.1).toNat : Int)]) ++ nsB [x.2.2.2.1]), x.2.2.2.2.1), ?_⟩
  conv => whnf
  refine And.intro (by simp only [allP, List.nil_append, List.cons_append, true_and]; repeat' (first | assumption | rfl | trivial | exact k4.1 | exact k4.2.2 | (intros; trivial) | (simp only [en124, nsB_c, nsB_n, tsB_c, tsB_n, List.length_append, List.length_nil] at h3 ⊢; omega) | refine And.intro ?_ ?_ | omega)) ?_
  (set_option smartUnfolding false in conv => whnf)
  refine ⟨(((((b ++ tsB [x.1]) ++ nsB [x.2.1, ((x.2.2.1).toNat : Int)]) ++ nsB [x.2.2.2.1]) ++ lsB en192 x.2.2.2.2.1), x.2.2.2.2.2.1), ?_⟩
  conv => whnf
  refine And.intro (by simp only [allP, List.nil_append, List.cons_append, true_and]; repeat' (first | assumption | rfl | trivial | exact k5.1 | exact k5.2.2 | (intros; trivial) | (simp only [en124, nsB_c, nsB_n, tsB_c, tsB_n, List.length_append, List.length_nil] at h3 ⊢; omega) | refine And.intro ?_ ?_ | omega)) ?_
  (set_option smartUnfolding false in conv => whnf)
  refine ⟨((((((b ++ tsB [x.1]) ++ nsB [x.2.1, ((x.2.2.1).toNat : Int)]) ++ nsB [x.2.2.2.1]) ++ lsB en192 x.2.2.2.2.1) ++ lsB en195 x.2.2.2.2.2.1), x.2.2.2.2.2.2), ?_⟩
  conv => whnf
  refine And.intro (by simp only [allP, List.nil_append, List.cons_append, true_and]; repeat' (first | assumption | rfl | trivial | exact k6.1 | exact k6.2.2 | (intros; trivial) | (simp only [en124, nsB_c, nsB_n, tsB_c, tsB_n, List.length_append, List.length_nil] at h3 ⊢; omega) | refine And.intro ?_ ?_ | omega)) ?_
  (set_option smartUnfolding false in conv => whnf)
  rw [show b ++ en124 x = ((((((b ++ tsB [x.1]) ++ nsB [x.2.1, ((x.2.2.1).toNat : Int)]) ++ nsB [x.2.2.2.1]) ++ lsB en192 x.2.2.2.2.1) ++ lsB en195 x.2.2.2.2.2.1) ++ lsB en199 x.2.2.2.2.2.2) from by simp only [en124, nsB_c, nsB_n, tsB_c, tsB_n, List.append_assoc, List.append_nil]]
  first | done | (and_intros <;> rfl)
theorem Ogroup_sound : Sound Tryz.prog 180 cOgroup := does_sound mixed tabOk_prog gP29_ok Tryz.func180 Ogroup_does
def gP30 : List (FuncId × Ctr) := (180, cOgroup) :: gP29
theorem gP30_ok : GamOk Tryz.prog gP30 := GamOk.cons gP29_ok Tryz.func180 (by kernel_rfl) (by kernel_rfl) Ogroup_sound
abbrev cLgroup : Ctr := ⟨List UInt8 × List S124, 2, fun (b, l) => [.ptr 0 0, .p false (.sl 7 ((fun l : List S124 => l.map fun x => elOf (pv124 x)) l)), .func 180 [.ptr 0 0] []], fun (b, l) => [(0, .box [.rowf 1]), (1, .row 5 1 true false (bl b))],
  fun (b, l) => (l.length ≤ 140737488351232 ∧ ∀ x ∈ l, ok124 x) ∧ b.length + (lsB en124 l).length ≤ 1000000000000, fun _ => .tuple [], fun (b, l) => [(0, .box [.rowf 2]), (2, .row 5 1 true false (bl (b ++ lsB en124 l)))]⟩
theorem Lgroup_does : Does gP30 tab Tryz.f179 cLgroup := by
  rintro ⟨b, l⟩ ⟨⟨h1, h2⟩, h3⟩
  have hil : ((fun l : List S124 => l.map fun x => elOf (pv124 x)) l).length = l.length := List.length_map ..
  have h3' : b.length + ((vE l.length).length + (l.map en124).flatten.length) ≤ 1000000000000 := by rw [lsB, List.length_append] at h3; exact h3
  conv => whnf
  rw [hil]
  refine ⟨(b, l.length), ?_⟩
  conv => whnf
  refine And.intro (by simp only [allP, List.nil_append, List.cons_append, true_and]; repeat' (first | assumption | rfl | trivial | refine And.intro ?_ ?_ | omega)) ?_
  conv => whnf
  rw [hil]
  refine ⟨{i : Nat // i ≤ l.length}, fun i => ⟨[(2, .func 180 [.ptr 0 0] []), (12, .p false (.sl 7 ((fun l : List S124 => l.map fun x => elOf (pv124 x)) l))), (13, isI .i64 l.length), (14, isI .i64 i.1)], [(0, .box [.rowf 2]), (1, .gone), (2, .row 5 1 true false (bl (b ++ vE l.length ++ ((l.take i.1).map en124).flatten)))], 99⟩, fun i => l.length - i.1, ⟨⟨0, Nat.zero_le _⟩, ?_⟩, ?_⟩
  · conv => whnf
    rw [List.take_zero, List.map_nil, List.flatten_nil, List.append_nil]
    first | done | (and_intros <;> rfl)
  rintro ⟨i, hi⟩
  show aw _ _ _ _ _ _ ⟨[(2, .func 180 [.ptr 0 0] []), (12, .p false (.sl 7 ((fun l : List S124 => l.map fun x => elOf (pv124 x)) l))), (13, isI .i64 l.length), (14, isI .i64 i)], [(0, .box [.rowf 2]), (1, .gone), (2, .row 5 1 true false (bl (b ++ vE l.length ++ ((l.take i).map en124).flatten)))], 99⟩
  conv => whnf
  by_cases hlt : i < l.length
  · rw [decide_eq_true (show (i : Int) < (l.length : Int) by omega)]
    conv => whnf
    refine And.intro (by simp only [allP, List.nil_append, List.cons_append, true_and]; rw [hil]; omega) ?_
    conv => whnf
    rw [Int.toNat_natCast, map_getD (fun x => elOf (pv124 x)) l i _ hlt]
    conv => whnf
    refine dI (k := ?_)
    conv => whnf
    refine dI (k := ?_)
    conv => whnf
    refine dI (k := ?_)
    conv => whnf
    have hfl := flat_one_len en124 hlt
    have hst := flat_step en124 hlt
    have hok := h2 _ (List.getElem_mem hlt)
    generalize l[i] = x at hfl hst hok ⊢
    refine ⟨(b ++ vE l.length ++ ((l.take i).map en124).flatten, x), ?_⟩
    conv => whnf
    refine And.intro (by simp only [allP, List.nil_append, List.cons_append, true_and]; repeat' (first | assumption | rfl | trivial | (rw [List.length_append, List.length_append]; omega) | refine And.intro ?_ ?_ | omega)) ?_
    conv => whnf
    refine ⟨⟨i + 1, by omega⟩, by simp only; omega, ?_⟩
    conv => whnf
    rw [hst]
    and_intros <;> first | rfl | (rw [wrap_i64 (by omega) (by omega)]; rfl) | (rw [List.append_assoc]; rfl) | (rw [← List.append_assoc]; rfl)
  · rw [decide_eq_false (show ¬ (i : Int) < (l.length : Int) by omega)]
    conv => whnf
    rw [List.take_of_length_le (by omega), List.append_assoc]
    first | done | (and_intros <;> rfl)
theorem Lgroup_sound : Sound Tryz.prog 179 cLgroup := does_sound mixed tabOk_prog gP30_ok Tryz.func179 Lgroup_does
def gP31 : List (FuncId × Ctr) := (179, cLgroup) :: gP30
theorem gP31_ok : GamOk Tryz.prog gP31 := GamOk.cons gP30_ok Tryz.func179 (by kernel_rfl) (by kernel_rfl) Lgroup_sound
end Go.Proofs.YtingmlhhabaplaaGreat.Ev
