/- Wire: what the program puts together: raft$1. No conditions. -/
import Derived.Test.YtingmlhhabaplaaGreatEvWire1b
namespace Go.Proofs.YtingmlhhabaplaaGreat.Ev
open Go
set_option linter.unusedVariables false
set_option linter.unusedSimpArgs false
set_option maxRecDepth 100000
set_option maxHeartbeats 4000000
abbrev cEraft_1 : Ctr := ⟨List UInt8 × S153, 3, fun (b, x) => [.agg ((pv153 x).map avOf), .ptr 2 0], fun (b, x) => [(0, .box [.rowf 1]), (1, .row 5 1 true false (bl b)), (2, .box [.ptr 0 0])],
  fun (b, x) => ok153 x ∧ b.length + (en153 x).length ≤ 1000000000000, fun _ => .tuple [], fun (b, x) => [(0, .box [.rowf 3]), (2, .box [.ptr 0 0]), (3, .row 5 1 true false (bl (b ++ en153 x)))]⟩
theorem Eraft_1_does : Does gP12 tab Tryz.f140 cEraft_1 := by
  rintro ⟨b, x⟩ ⟨hx, h3⟩
  obtain ⟨k0, k1⟩ := hx
  (set_option smartUnfolding false in conv => whnf)
  refine ⟨(b, ([x.1] : List Int)), ?_⟩
  conv => whnf
  refine And.intro (by simp only [allP, List.nil_append, List.cons_append, true_and]; repeat' (first | assumption | rfl | trivial | exact List.cons_ne_nil _ _ | (intro m hm; simp only [List.mem_cons, List.not_mem_nil, or_false] at hm; rcases hm with rfl <;> first | exact kind_r _ | (apply int_r; assumption)) | (simp only [List.length_cons, List.length_nil]; omega) | (simp only [en153, nsB_c, nsB_n, tsB_c, tsB_n, List.length_append, List.length_nil] at h3 ⊢; omega) | refine And.intro ?_ ?_ | omega)) ?_
  (set_option smartUnfolding false in conv => whnf)
  refine ⟨((b ++ nsB [x.1]), x.2), ?_⟩
  conv => whnf
  refine And.intro (by simp only [allP, List.nil_append, List.cons_append, true_and]; repeat' (first | assumption | rfl | trivial | exact k1.1 | exact k1.2.2 | (intros; trivial) | (simp only [en153, nsB_c, nsB_n, tsB_c, tsB_n, List.length_append, List.length_nil] at h3 ⊢; omega) | refine And.intro ?_ ?_ | omega)) ?_
  (set_option smartUnfolding false in conv => whnf)
  rw [show b ++ en153 x = ((b ++ nsB [x.1]) ++ recB x.2) from by simp only [en153, nsB_c, nsB_n, tsB_c, tsB_n, List.append_assoc, List.append_nil]]
  first | done | (and_intros <;> rfl)
theorem Eraft_1_sound : Sound Tryz.prog 140 cEraft_1 := does_sound mixed tabOk_prog gP12_ok Tryz.func140 Eraft_1_does
def gP13 : List (FuncId × Ctr) := (140, cEraft_1) :: gP12
theorem gP13_ok : GamOk Tryz.prog gP13 := GamOk.cons gP12_ok Tryz.func140 (by kernel_rfl) (by kernel_rfl) Eraft_1_sound
abbrev cLraft_1 : Ctr := ⟨List UInt8 × List S153, 3, fun (b, l) => [.ptr 0 0, .p false (.sl 2 ((fun l : List S153 => l.map fun x => elOf (pv153 x)) l)), .func 140 [] [.ptr 2 0]], fun (b, l) => [(0, .box [.rowf 1]), (1, .row 5 1 true false (bl b)), (2, .box [.ptr 0 0])],
  fun (b, l) => (l.length ≤ 140737488351232 ∧ ∀ x ∈ l, ok153 x) ∧ b.length + (lsB en153 l).length ≤ 1000000000000, fun _ => .tuple [], fun (b, l) => [(0, .box [.rowf 3]), (2, .box [.ptr 0 0]), (3, .row 5 1 true false (bl (b ++ lsB en153 l)))]⟩
theorem Lraft_1_does : Does gP13 tab Tryz.f139 cLraft_1 := by
  rintro ⟨b, l⟩ ⟨⟨h1, h2⟩, h3⟩
  have hil : ((fun l : List S153 => l.map fun x => elOf (pv153 x)) l).length = l.length := List.length_map ..
  have h3' : b.length + ((vE l.length).length + (l.map en153).flatten.length) ≤ 1000000000000 := by rw [lsB, List.length_append] at h3; exact h3
  conv => whnf
  rw [hil]
  refine ⟨(b, l.length), ?_⟩
  conv => whnf
  refine And.intro (by simp only [allP, List.nil_append, List.cons_append, true_and]; repeat' (first | assumption | rfl | trivial | refine And.intro ?_ ?_ | omega)) ?_
  conv => whnf
  rw [hil]
  refine ⟨{i : Nat // i ≤ l.length}, fun i => ⟨[(2, .func 140 [] [.ptr 2 0]), (12, .p false (.sl 2 ((fun l : List S153 => l.map fun x => elOf (pv153 x)) l))), (13, isI .i64 l.length), (14, isI .i64 i.1)], [(0, .box [.rowf 3]), (1, .gone), (2, .box [.ptr 0 0]), (3, .row 5 1 true false (bl (b ++ vE l.length ++ ((l.take i.1).map en153).flatten)))], 99⟩, fun i => l.length - i.1, ⟨⟨0, Nat.zero_le _⟩, ?_⟩, ?_⟩
  · conv => whnf
    rw [List.take_zero, List.map_nil, List.flatten_nil, List.append_nil]
    first | done | (and_intros <;> rfl)
  rintro ⟨i, hi⟩
  show aw _ _ _ _ _ _ ⟨[(2, .func 140 [] [.ptr 2 0]), (12, .p false (.sl 2 ((fun l : List S153 => l.map fun x => elOf (pv153 x)) l))), (13, isI .i64 l.length), (14, isI .i64 i)], [(0, .box [.rowf 3]), (1, .gone), (2, .box [.ptr 0 0]), (3, .row 5 1 true false (bl (b ++ vE l.length ++ ((l.take i).map en153).flatten)))], 99⟩
  conv => whnf
  by_cases hlt : i < l.length
  · rw [decide_eq_true (show (i : Int) < (l.length : Int) by omega)]
    conv => whnf
    refine And.intro (by simp only [allP, List.nil_append, List.cons_append, true_and]; rw [hil]; omega) ?_
    conv => whnf
    rw [Int.toNat_natCast, map_getD (fun x => elOf (pv153 x)) l i _ hlt]
    conv => whnf
    refine dI (k := ?_)
    conv => whnf
    refine dI (k := ?_)
    conv => whnf
    refine dI (k := ?_)
    conv => whnf
    have hfl := flat_one_len en153 hlt
    have hst := flat_step en153 hlt
    have hok := h2 _ (List.getElem_mem hlt)
    generalize l[i] = x at hfl hst hok ⊢
    refine ⟨(b ++ vE l.length ++ ((l.take i).map en153).flatten, x), ?_⟩
    conv => whnf
    refine And.intro (by simp only [allP, List.nil_append, List.cons_append, true_and]; repeat' (first | assumption | rfl | trivial | (rw [List.length_append, List.length_append]; omega) | refine And.intro ?_ ?_ | omega)) ?_
    conv => whnf
    refine ⟨⟨i + 1, by omega⟩, by simp only; omega, ?_⟩
    conv => whnf
    rw [hst]
    and_intros <;> first | rfl | (rw [wrap_i64 (by omega) (by omega)]; rfl) | (rw [List.append_assoc]; rfl) | (rw [← List.append_assoc]; rfl)
  · rw [decide_eq_false (show ¬ (i : Int) < (l.length : Int) by omega)]
    conv => whnf
    rw [List.take_of_length_le (by omega), List.append_assoc]
    first | done | (and_intros <;> rfl)
theorem Lraft_1_sound : Sound Tryz.prog 139 cLraft_1 := does_sound mixed tabOk_prog gP13_ok Tryz.func139 Lraft_1_does
def gP14 : List (FuncId × Ctr) := (139, cLraft_1) :: gP13
theorem gP14_ok : GamOk Tryz.prog gP14 := GamOk.cons gP13_ok Tryz.func139 (by kernel_rfl) (by kernel_rfl) Lraft_1_sound
abbrev cOraft : Ctr := cO en79 (fun x : S79 => .agg ((pv79 x).map avOf)) ok79
theorem Oraft_does : Does gP14 tab Tryz.f85 cOraft := by
  rintro ⟨b, x⟩ ⟨hx, h3⟩
  obtain ⟨k0, k1, k2, k3, k4, k5, k6, k7, k8, k9, k10, k11⟩ := hx
  (set_option smartUnfolding false in conv => whnf)
  refine ⟨(b, ([x.1] : List ByteArray)), ?_⟩
  conv => whnf
  refine And.intro (by simp only [allP, List.nil_append, List.cons_append, true_and]; repeat' (first | assumption | rfl | trivial | exact List.cons_ne_nil _ _ | (simp only [List.length_cons, List.length_nil]; omega) | (simp only [en79, nsB_c, nsB_n, tsB_c, tsB_n, List.length_append, List.length_nil] at h3 ⊢; omega) | refine And.intro ?_ ?_ | omega)) ?_
  (set_option smartUnfolding false in conv => whnf)
  rw [kind_w x.2.1]
  refine ⟨((b ++ tsB [x.1]), ([((x.2.1).toNat : Int), x.2.2.1, x.2.2.2.1, x.2.2.2.2.1, x.2.2.2.2.2.1, x.2.2.2.2.2.2.1, x.2.2.2.2.2.2.2.1, x.2.2.2.2.2.2.2.2.1] : List Int)), ?_⟩
  conv => whnf
  refine And.intro (by simp only [allP, List.nil_append, List.cons_append, true_and]; repeat' (first | assumption | rfl | trivial | exact List.cons_ne_nil _ _ | (intro m hm; simp only [List.mem_cons, List.not_mem_nil, or_false] at hm; rcases hm with rfl | rfl | rfl | rfl | rfl | rfl | rfl | rfl <;> first | exact kind_r _ | (apply int_r; assumption)) | (simp only [List.length_cons, List.length_nil]; omega) | (simp only [en79, nsB_c, nsB_n, tsB_c, tsB_n, List.length_append, List.length_nil] at h3 ⊢; omega) | refine And.intro ?_ ?_ | omega)) ?_
  (set_option smartUnfolding false in conv => whnf)
  refine ⟨(((b ++ tsB [x.1]) ++ nsB [((x.2.1).toNat : Int), x.2.2.1, x.2.2.2.1, x.2.2.2.2.1, x.2.2.2.2.2.1, x.2.2.2.2.2.2.1, x.2.2.2.2.2.2.2.1, x.2.2.2.2.2.2.2.2.1]), x.2.2.2.2.2.2.2.2.2.1), ?_⟩
  conv => whnf
  refine And.intro (by simp only [allP, List.nil_append, List.cons_append, true_and]; repeat' (first | assumption | rfl | trivial | exact k9.1 | exact k9.2.2 | (intros; trivial) | (simp only [en79, nsB_c, nsB_n, tsB_c, tsB_n, List.length_append, List.length_nil] at h3 ⊢; omega) | refine And.intro ?_ ?_ | omega)) ?_
  (set_option smartUnfolding false in conv => whnf)
  refine ⟨((((b ++ tsB [x.1]) ++ nsB [((x.2.1).toNat : Int), x.2.2.1, x.2.2.2.1, x.2.2.2.2.1, x.2.2.2.2.2.1, x.2.2.2.2.2.2.1, x.2.2.2.2.2.2.2.1, x.2.2.2.2.2.2.2.2.1]) ++ boB x.2.2.2.2.2.2.2.2.2.1), x.2.2.2.2.2.2.2.2.2.2.1), ?_⟩
  conv => whnf
  refine And.intro (by simp only [allP, List.nil_append, List.cons_append, true_and]; repeat' (first | assumption | rfl | trivial | exact k10.1 | exact k10.2.2 | (intros; trivial) | (simp only [en79, nsB_c, nsB_n, tsB_c, tsB_n, List.length_append, List.length_nil] at h3 ⊢; omega) | refine And.intro ?_ ?_ | omega)) ?_
  (set_option smartUnfolding false in conv => whnf)
  refine ⟨(((((b ++ tsB [x.1]) ++ nsB [((x.2.1).toNat : Int), x.2.2.1, x.2.2.2.1, x.2.2.2.2.1, x.2.2.2.2.2.1, x.2.2.2.2.2.2.1, x.2.2.2.2.2.2.2.1, x.2.2.2.2.2.2.2.2.1]) ++ boB x.2.2.2.2.2.2.2.2.2.1) ++ lsB en153 x.2.2.2.2.2.2.2.2.2.2.1), x.2.2.2.2.2.2.2.2.2.2.2), ?_⟩
  conv => whnf
  refine And.intro (by simp only [allP, List.nil_append, List.cons_append, true_and]; repeat' (first | assumption | rfl | trivial | exact k11.1 | exact k11.2.2 | (intros; trivial) | (simp only [en79, nsB_c, nsB_n, tsB_c, tsB_n, List.length_append, List.length_nil] at h3 ⊢; omega) | refine And.intro ?_ ?_ | omega)) ?_
  (set_option smartUnfolding false in conv => whnf)
  rw [show b ++ en79 x = (((((b ++ tsB [x.1]) ++ nsB [((x.2.1).toNat : Int), x.2.2.1, x.2.2.2.1, x.2.2.2.2.1, x.2.2.2.2.2.1, x.2.2.2.2.2.2.1, x.2.2.2.2.2.2.2.1, x.2.2.2.2.2.2.2.2.1]) ++ boB x.2.2.2.2.2.2.2.2.2.1) ++ lsB en153 x.2.2.2.2.2.2.2.2.2.2.1) ++ recB x.2.2.2.2.2.2.2.2.2.2.2) from by simp only [en79, nsB_c, nsB_n, tsB_c, tsB_n, List.append_assoc, List.append_nil]]
  first | done | (and_intros <;> rfl)
theorem Oraft_sound : Sound Tryz.prog 85 cOraft := does_sound mixed tabOk_prog gP14_ok Tryz.func85 Oraft_does
def gP15 : List (FuncId × Ctr) := (85, cOraft) :: gP14
theorem gP15_ok : GamOk Tryz.prog gP15 := GamOk.cons gP14_ok Tryz.func85 (by kernel_rfl) (by kernel_rfl) Oraft_sound
def gPutsR : List (FuncId × Ctr) := gP15
theorem gPutsR_ok : GamOk Tryz.prog gPutsR := gP15_ok
end Go.Proofs.YtingmlhhabaplaaGreat.Ev
