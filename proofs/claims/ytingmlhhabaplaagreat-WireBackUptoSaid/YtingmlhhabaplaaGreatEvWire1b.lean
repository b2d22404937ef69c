/- Wire: what the program puts together: meta. No conditions. -/
import Derived.Test.YtingmlhhabaplaaGreatEvWire1a
namespace Go.Proofs.YtingmlhhabaplaaGreat.Ev
open Go
set_option linter.unusedVariables false
set_option linter.unusedSimpArgs false
set_option maxRecDepth 100000
set_option maxHeartbeats 4000000
abbrev cOmeta : Ctr := cO en57 (fun x : S57 => .agg ((pv57 x).map avOf)) ok57
theorem Ometa_does : Does gP8 tab Tryz.f129 cOmeta := by
  rintro ⟨b, x⟩ ⟨hx, h3⟩
  obtain ⟨k0, k1, k2, k3, k4, k5, k6, k7, k8, k9⟩ := hx
  (set_option smartUnfolding false in conv => whnf)
  rw [kind_w x.1]
  refine ⟨(b, ([((x.1).toNat : Int)] : List Int)), ?_⟩
  conv => whnf
  refine And.intro (by simp only [allP, List.nil_append, List.cons_append, true_and]; repeat' (first | assumption | rfl | trivial | exact List.cons_ne_nil _ _ | (intro m hm; simp only [List.mem_cons, List.not_mem_nil, or_false] at hm; rcases hm with rfl <;> first | exact kind_r _ | (apply int_r; assumption)) | (simp only [List.length_cons, List.length_nil]; omega) | (simp only [en57, nsB_c, nsB_n, tsB_c, tsB_n, List.length_append, List.length_nil] at h3 ⊢; omega) | refine And.intro ?_ ?_ | omega)) ?_
  (set_option smartUnfolding false in conv => whnf)
  refine ⟨((b ++ nsB [((x.1).toNat : Int)]), ([x.2.1, x.2.2.1] : List ByteArray)), ?_⟩
  conv => whnf
  refine And.intro (by simp only [allP, List.nil_append, List.cons_append, true_and]; repeat' (first | assumption | rfl | trivial | exact List.cons_ne_nil _ _ | (simp only [List.length_cons, List.length_nil]; omega) | (simp only [en57, nsB_c, nsB_n, tsB_c, tsB_n, List.length_append, List.length_nil] at h3 ⊢; omega) | refine And.intro ?_ ?_ | omega)) ?_
  (set_option smartUnfolding false in conv => whnf)
  refine ⟨(((b ++ nsB [((x.1).toNat : Int)]) ++ tsB [x.2.1, x.2.2.1]), ([x.2.2.2.1] : List Int)), ?_⟩
  conv => whnf
  refine And.intro (by simp only [allP, List.nil_append, List.cons_append, true_and]; repeat' (first | assumption | rfl | trivial | exact List.cons_ne_nil _ _ | (intro m hm; simp only [List.mem_cons, List.not_mem_nil, or_false] at hm; rcases hm with rfl <;> first | exact kind_r _ | (apply int_r; assumption)) | (simp only [List.length_cons, List.length_nil]; omega) | (simp only [en57, nsB_c, nsB_n, tsB_c, tsB_n, List.length_append, List.length_nil] at h3 ⊢; omega) | refine And.intro ?_ ?_ | omega)) ?_
  (set_option smartUnfolding false in conv => whnf)
  refine ⟨((((b ++ nsB [((x.1).toNat : Int)]) ++ tsB [x.2.1, x.2.2.1]) ++ nsB [x.2.2.2.1]), x.2.2.2.2.1), ?_⟩
  conv => whnf
  refine And.intro (by simp only [allP, List.nil_append, List.cons_append, true_and]; repeat' (first | assumption | rfl | trivial | exact k4.1 | exact k4.2.2 | (intros; trivial) | (simp only [en57, nsB_c, nsB_n, tsB_c, tsB_n, List.length_append, List.length_nil] at h3 ⊢; omega) | refine And.intro ?_ ?_ | omega)) ?_
  (set_option smartUnfolding false in conv => whnf)
  refine dI (k := ?_)
  (set_option smartUnfolding false in conv => whnf)
  refine ⟨(((((b ++ nsB [((x.1).toNat : Int)]) ++ tsB [x.2.1, x.2.2.1]) ++ nsB [x.2.2.2.1]) ++ lsB txB x.2.2.2.2.1), x.2.2.2.2.2.1), ?_⟩
  conv => whnf
  refine And.intro (by simp only [allP, List.nil_append, List.cons_append, true_and]; repeat' (first | assumption | rfl | trivial | exact k5.1 | exact k5.2.2 | (intros; trivial) | (simp only [en57, nsB_c, nsB_n, tsB_c, tsB_n, List.length_append, List.length_nil] at h3 ⊢; omega) | refine And.intro ?_ ?_ | omega)) ?_
  (set_option smartUnfolding false in conv => whnf)
  refine ⟨((((((b ++ nsB [((x.1).toNat : Int)]) ++ tsB [x.2.1, x.2.2.1]) ++ nsB [x.2.2.2.1]) ++ lsB txB x.2.2.2.2.1) ++ en55 x.2.2.2.2.2.1), ([x.2.2.2.2.2.2.1, x.2.2.2.2.2.2.2.1] : List Int)), ?_⟩
  conv => whnf
  refine And.intro (by simp only [allP, List.nil_append, List.cons_append, true_and]; repeat' (first | assumption | rfl | trivial | exact List.cons_ne_nil _ _ | (intro m hm; simp only [List.mem_cons, List.not_mem_nil, or_false] at hm; rcases hm with rfl | rfl <;> first | exact kind_r _ | (apply int_r; assumption)) | (simp only [List.length_cons, List.length_nil]; omega) | (simp only [en57, nsB_c, nsB_n, tsB_c, tsB_n, List.length_append, List.length_nil] at h3 ⊢; omega) | refine And.intro ?_ ?_ | omega)) ?_
  (set_option smartUnfolding false in conv => whnf)
  refine ⟨(((((((b ++ nsB [((x.1).toNat : Int)]) ++ tsB [x.2.1, x.2.2.1]) ++ nsB [x.2.2.2.1]) ++ lsB txB x.2.2.2.2.1) ++ en55 x.2.2.2.2.2.1) ++ nsB [x.2.2.2.2.2.2.1, x.2.2.2.2.2.2.2.1]), ([x.2.2.2.2.2.2.2.2.1, x.2.2.2.2.2.2.2.2.2] : List Int)), ?_⟩
  conv => whnf
  refine And.intro (by simp only [allP, List.nil_append, List.cons_append, true_and]; repeat' (first | assumption | rfl | trivial | exact List.cons_ne_nil _ _ | (intro m hm; simp only [List.mem_cons, List.not_mem_nil, or_false] at hm; rcases hm with rfl | rfl <;> first | exact kind_r _ | (apply int_r; assumption)) | (simp only [List.length_cons, List.length_nil]; omega) | (simp only [en57, nsB_c, nsB_n, tsB_c, tsB_n, List.length_append, List.length_nil] at h3 ⊢; omega) | refine And.intro ?_ ?_ | omega)) ?_
  (set_option smartUnfolding false in conv => whnf)
  rw [show b ++ en57 x = (((((((b ++ nsB [((x.1).toNat : Int)]) ++ tsB [x.2.1, x.2.2.1]) ++ nsB [x.2.2.2.1]) ++ lsB txB x.2.2.2.2.1) ++ en55 x.2.2.2.2.2.1) ++ nsB [x.2.2.2.2.2.2.1, x.2.2.2.2.2.2.2.1]) ++ nsB [x.2.2.2.2.2.2.2.2.1, x.2.2.2.2.2.2.2.2.2]) from by simp only [en57, nsB_c, nsB_n, tsB_c, tsB_n, List.append_assoc, List.append_nil]]
  first | done | (and_intros <;> rfl)
theorem Ometa_sound : Sound Tryz.prog 129 cOmeta := does_sound mixed tabOk_prog gP8_ok Tryz.func129 Ometa_does
def gP9 : List (FuncId × Ctr) := (129, cOmeta) :: gP8
theorem gP9_ok : GamOk Tryz.prog gP9 := GamOk.cons gP8_ok Tryz.func129 (by kernel_rfl) (by kernel_rfl) Ometa_sound
abbrev cLplaces : Ctr := ⟨List UInt8 × List S55, 2, fun (b, l) => [.ptr 0 0, .p false (.sl 2 ((fun l : List S55 => l.map fun x => elOf (pv55 x)) l)), .func 169 [.ptr 0 0] []], fun (b, l) => [(0, .box [.rowf 1]), (1, .row 5 1 true false (bl b))],
  fun (b, l) => (l.length ≤ 140737488351232 ∧ ∀ x ∈ l, ok55 x) ∧ b.length + (lsB en55 l).length ≤ 1000000000000, fun _ => .tuple [], fun (b, l) => [(0, .box [.rowf 2]), (2, .row 5 1 true false (bl (b ++ lsB en55 l)))]⟩
theorem Lplaces_does : Does gP9 tab Tryz.f208 cLplaces := by
  rintro ⟨b, l⟩ ⟨⟨h1, h2⟩, h3⟩
  have hil : ((fun l : List S55 => l.map fun x => elOf (pv55 x)) l).length = l.length := List.length_map ..
  have h3' : b.length + ((vE l.length).length + (l.map en55).flatten.length) ≤ 1000000000000 := by rw [lsB, List.length_append] at h3; exact h3
  conv => whnf
  rw [hil]
  refine ⟨(b, l.length), ?_⟩
  conv => whnf
  refine And.intro (by simp only [allP, List.nil_append, List.cons_append, true_and]; repeat' (first | assumption | rfl | trivial | refine And.intro ?_ ?_ | omega)) ?_
  conv => whnf
  rw [hil]
  refine ⟨{i : Nat // i ≤ l.length}, fun i => ⟨[(2, .func 169 [.ptr 0 0] []), (12, .p false (.sl 2 ((fun l : List S55 => l.map fun x => elOf (pv55 x)) l))), (13, isI .i64 l.length), (14, isI .i64 i.1)], [(0, .box [.rowf 2]), (1, .gone), (2, .row 5 1 true false (bl (b ++ vE l.length ++ ((l.take i.1).map en55).flatten)))], 99⟩, fun i => l.length - i.1, ⟨⟨0, Nat.zero_le _⟩, ?_⟩, ?_⟩
  · conv => whnf
    rw [List.take_zero, List.map_nil, List.flatten_nil, List.append_nil]
    first | done | (and_intros <;> rfl)
  rintro ⟨i, hi⟩
  show aw _ _ _ _ _ _ ⟨[(2, .func 169 [.ptr 0 0] []), (12, .p false (.sl 2 ((fun l : List S55 => l.map fun x => elOf (pv55 x)) l))), (13, isI .i64 l.length), (14, isI .i64 i)], [(0, .box [.rowf 2]), (1, .gone), (2, .row 5 1 true false (bl (b ++ vE l.length ++ ((l.take i).map en55).flatten)))], 99⟩
  conv => whnf
  by_cases hlt : i < l.length
  · rw [decide_eq_true (show (i : Int) < (l.length : Int) by omega)]
    conv => whnf
    refine And.intro (by simp only [allP, List.nil_append, List.cons_append, true_and]; rw [hil]; omega) ?_
    conv => whnf
    rw [Int.toNat_natCast, map_getD (fun x => elOf (pv55 x)) l i _ hlt]
    conv => whnf
    refine dI (k := ?_)
    conv => whnf
    refine dI (k := ?_)
    conv => whnf
    refine dI (k := ?_)
    conv => whnf
    have hfl := flat_one_len en55 hlt
    have hst := flat_step en55 hlt
    have hok := h2 _ (List.getElem_mem hlt)
    generalize l[i] = x at hfl hst hok ⊢
    refine ⟨(b ++ vE l.length ++ ((l.take i).map en55).flatten, x), ?_⟩
    conv => whnf
    refine And.intro (by simp only [allP, List.nil_append, List.cons_append, true_and]; repeat' (first | assumption | rfl | trivial | (rw [List.length_append, List.length_append]; omega) | refine And.intro ?_ ?_ | omega)) ?_
    conv => whnf
    refine ⟨⟨i + 1, by omega⟩, by simp only; omega, ?_⟩
    conv => whnf
    rw [hst]
    and_intros <;> first | rfl | (rw [wrap_i64 (by omega) (by omega)]; rfl) | (rw [List.append_assoc]; rfl) | (rw [← List.append_assoc]; rfl)
  · rw [decide_eq_false (show ¬ (i : Int) < (l.length : Int) by omega)]
    conv => whnf
    rw [List.take_of_length_le (by omega), List.append_assoc]
    first | done | (and_intros <;> rfl)
theorem Lplaces_sound : Sound Tryz.prog 208 cLplaces := does_sound mixed tabOk_prog gP9_ok Tryz.func208 Lplaces_does
def gP10 : List (FuncId × Ctr) := (208, cLplaces) :: gP9
theorem gP10_ok : GamOk Tryz.prog gP10 := GamOk.cons gP9_ok Tryz.func208 (by kernel_rfl) (by kernel_rfl) Lplaces_sound
abbrev cOplaces : Ctr := cO (lsB en55) (fun l : List S55 => .p false (.sl 2 ((fun l : List S55 => l.map fun x => elOf (pv55 x)) l))) (fun l => l.length ≤ 140737488351232 ∧ ∀ x ∈ l, ok55 x)
theorem Oplaces_does : Does gP10 tab Tryz.f203 cOplaces := by
  rintro ⟨b, l⟩ ⟨⟨h1, h2⟩, h3⟩
  conv => whnf
  refine ⟨(b, l), ?_⟩
  conv => whnf
  refine And.intro (by simp only [allP, List.nil_append, List.cons_append, true_and]; repeat' (first | assumption | rfl | trivial | refine And.intro ?_ ?_ | omega)) ?_
  conv => whnf
  first | done | (and_intros <;> rfl)
theorem Oplaces_sound : Sound Tryz.prog 203 cOplaces := does_sound mixed tabOk_prog gP10_ok Tryz.func203 Oplaces_does
def gP11 : List (FuncId × Ctr) := (203, cOplaces) :: gP10
theorem gP11_ok : GamOk Tryz.prog gP11 := GamOk.cons gP10_ok Tryz.func203 (by kernel_rfl) (by kernel_rfl) Oplaces_sound
abbrev cOanswer : Ctr := cO en70 (fun x : S70 => .agg ((pv70 x).map avOf)) ok70
theorem Oanswer_does : Does gP11 tab Tryz.f185 cOanswer := by
  rintro ⟨b, x⟩ ⟨hx, h3⟩
  obtain ⟨k0, k1, k2, k3, k4, k5⟩ := hx
  (set_option smartUnfolding false in conv => whnf)
  rw [kind_w x.2.2.2.2.1]
  refine ⟨(b, ([x.1, x.2.1, x.2.2.1, x.2.2.2.1, ((x.2.2.2.2.1).toNat : Int)] : List Int)), ?_⟩
  conv => whnf
  refine And.intro (by simp only [allP, List.nil_append, List.cons_append, true_and]; repeat' (first | assumption | rfl | trivial | exact List.cons_ne_nil _ _ | (intro m hm; simp only [List.mem_cons, List.not_mem_nil, or_false] at hm; rcases hm with rfl | rfl | rfl | rfl | rfl <;> first | exact kind_r _ | (apply int_r; assumption)) | (simp only [List.length_cons, List.length_nil]; omega) | (simp only [en70, nsB_c, nsB_n, tsB_c, tsB_n, List.length_append, List.length_nil] at h3 ⊢; omega) | refine And.intro ?_ ?_ | omega)) ?_
  (set_option smartUnfolding false in conv => whnf)
  refine ⟨((b ++ nsB [x.1, x.2.1, x.2.2.1, x.2.2.2.1, ((x.2.2.2.2.1).toNat : Int)]), x.2.2.2.2.2), ?_⟩
  conv => whnf
  refine And.intro (by simp only [allP, List.nil_append, List.cons_append, true_and]; repeat' (first | assumption | rfl | trivial | exact k5.1 | exact k5.2.2 | (intros; trivial) | (simp only [en70, nsB_c, nsB_n, tsB_c, tsB_n, List.length_append, List.length_nil] at h3 ⊢; omega) | refine And.intro ?_ ?_ | omega)) ?_
  (set_option smartUnfolding false in conv => whnf)
  rw [show b ++ en70 x = ((b ++ nsB [x.1, x.2.1, x.2.2.1, x.2.2.2.1, ((x.2.2.2.2.1).toNat : Int)]) ++ lsB en55 x.2.2.2.2.2) from by simp only [en70, nsB_c, nsB_n, tsB_c, tsB_n, List.append_assoc, List.append_nil]]
  first | done | (and_intros <;> rfl)
theorem Oanswer_sound : Sound Tryz.prog 185 cOanswer := does_sound mixed tabOk_prog gP11_ok Tryz.func185 Oanswer_does
def gP12 : List (FuncId × Ctr) := (185, cOanswer) :: gP11
theorem gP12_ok : GamOk Tryz.prog gP12 := GamOk.cons gP11_ok Tryz.func185 (by kernel_rfl) (by kernel_rfl) Oanswer_sound
end Go.Proofs.YtingmlhhabaplaaGreat.Ev
