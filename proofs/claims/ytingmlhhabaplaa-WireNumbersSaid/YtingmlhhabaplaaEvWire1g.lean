/- Wire: what the program puts together: metas$1. No conditions. -/
import Derived.Test.YtingmlhhabaplaaEvWire1f
namespace Go.Proofs.Ytingmlhhabaplaa.Ev
open Go
set_option linter.unusedVariables false
set_option linter.unusedSimpArgs false
set_option maxRecDepth 100000
set_option maxHeartbeats 4000000
abbrev cEmetas_1 : Ctr := ⟨List UInt8 × S127, 3, fun (b, x) => [.agg ((pv127 x).map avOf), .ptr 2 0], fun (b, x) => [(0, .box [.rowf 1]), (1, .row 5 1 true false (bl b)), (2, .box [.ptr 0 0])],
  fun (b, x) => ok127 x ∧ b.length + (en127 x).length ≤ 1000000000000, fun _ => .tuple [], fun (b, x) => [(0, .box [.rowf 3]), (2, .box [.ptr 0 0]), (3, .row 5 1 true false (bl (b ++ en127 x)))]⟩
theorem Emetas_1_does : Does gP31 tab Try.f92 cEmetas_1 := by
  rintro ⟨b, x⟩ ⟨hx, h3⟩
  obtain ⟨k0, k1⟩ := hx
  (set_option smartUnfolding false in conv => whnf)
  refine ⟨(b, ([x.1] : List ByteArray)), ?_⟩
  conv => whnf
  refine And.intro (by simp only [allP, List.nil_append, List.cons_append, true_and]; repeat' (first | assumption | rfl | trivial | exact List.cons_ne_nil _ _ | (simp only [List.length_cons, List.length_nil]; omega) | (simp only [en127, nsB_c, nsB_n, tsB_c, tsB_n, List.length_append, List.length_nil] at h3 ⊢; omega) | refine And.intro ?_ ?_ | omega)) ?_
  (set_option smartUnfolding false in conv => whnf)
  refine ⟨((b ++ tsB [x.1]), ([x.2] : List Int)), ?_⟩
  conv => whnf
  refine And.intro (by simp only [allP, List.nil_append, List.cons_append, true_and]; repeat' (first | assumption | rfl | trivial | exact List.cons_ne_nil _ _ | (intro m hm; simp only [List.mem_cons, List.not_mem_nil, or_false] at hm; rcases hm with rfl <;> first | exact kind_r _ | (apply int_r; assumption)) | (simp only [List.length_cons, List.length_nil]; omega) | (simp only [en127, nsB_c, nsB_n, tsB_c, tsB_n, List.length_append, List.length_nil] at h3 ⊢; omega) | refine And.intro ?_ ?_ | omega)) ?_
  (set_option smartUnfolding false in conv => whnf)
  rw [show b ++ en127 x = ((b ++ tsB [x.1]) ++ nsB [x.2]) from by simp only [en127, nsB_c, nsB_n, tsB_c, tsB_n, List.append_assoc, List.append_nil]]
  first | done | (and_intros <;> rfl)
theorem Emetas_1_sound : Sound Try.prog 92 cEmetas_1 := does_sound mixed tabOk_prog gP31_ok Try.func92 Emetas_1_does
def gP32 : List (FuncId × Ctr) := (92, cEmetas_1) :: gP31
theorem gP32_ok : GamOk Try.prog gP32 := GamOk.cons gP31_ok Try.func92 (by kernel_rfl) (by kernel_rfl) Emetas_1_sound
abbrev cLmetas_1 : Ctr := ⟨List UInt8 × List S127, 3, fun (b, l) => [.ptr 0 0, .p false (.sl 2 ((fun l : List S127 => l.map fun x => elOf (pv127 x)) l)), .func 92 [] [.ptr 2 0]], fun (b, l) => [(0, .box [.rowf 1]), (1, .row 5 1 true false (bl b)), (2, .box [.ptr 0 0])],
  fun (b, l) => (l.length ≤ 140737488351232 ∧ ∀ x ∈ l, ok127 x) ∧ b.length + (lsB en127 l).length ≤ 1000000000000, fun _ => .tuple [], fun (b, l) => [(0, .box [.rowf 3]), (2, .box [.ptr 0 0]), (3, .row 5 1 true false (bl (b ++ lsB en127 l)))]⟩
theorem Lmetas_1_does : Does gP32 tab Try.f91 cLmetas_1 := by
  rintro ⟨b, l⟩ ⟨⟨h1, h2⟩, h3⟩
  have hil : ((fun l : List S127 => l.map fun x => elOf (pv127 x)) l).length = l.length := List.length_map ..
  have h3' : b.length + ((vE l.length).length + (l.map en127).flatten.length) ≤ 1000000000000 := by rw [lsB, List.length_append] at h3; exact h3
  conv => whnf
  rw [hil]
  refine ⟨(b, l.length), ?_⟩
  conv => whnf
  refine And.intro (by simp only [allP, List.nil_append, List.cons_append, true_and]; repeat' (first | assumption | rfl | trivial | refine And.intro ?_ ?_ | omega)) ?_
  conv => whnf
  rw [hil]
  refine ⟨{i : Nat // i ≤ l.length}, fun i => ⟨[(2, .func 92 [] [.ptr 2 0]), (12, .p false (.sl 2 ((fun l : List S127 => l.map fun x => elOf (pv127 x)) l))), (13, isI .i64 l.length), (14, isI .i64 i.1)], [(0, .box [.rowf 3]), (1, .gone), (2, .box [.ptr 0 0]), (3, .row 5 1 true false (bl (b ++ vE l.length ++ ((l.take i.1).map en127).flatten)))], 99⟩, fun i => l.length - i.1, ⟨⟨0, Nat.zero_le _⟩, ?_⟩, ?_⟩
  · conv => whnf
    rw [List.take_zero, List.map_nil, List.flatten_nil, List.append_nil]
    first | done | (and_intros <;> rfl)
  rintro ⟨i, hi⟩
  show aw _ _ _ _ _ _ ⟨[(2, .func 92 [] [.ptr 2 0]), (12, .p false (.sl 2 ((fun l : List S127 => l.map fun x => elOf (pv127 x)) l))), (13, isI .i64 l.length), (14, isI .i64 i)], [(0, .box [.rowf 3]), (1, .gone), (2, .box [.ptr 0 0]), (3, .row 5 1 true false (bl (b ++ vE l.length ++ ((l.take i).map en127).flatten)))], 99⟩
  conv => whnf
  by_cases hlt : i < l.length
  · rw [decide_eq_true (show (i : Int) < (l.length : Int) by omega)]
    conv => whnf
    refine And.intro (by simp only [allP, List.nil_append, List.cons_append, true_and]; rw [hil]; omega) ?_
    conv => whnf
    rw [Int.toNat_natCast, map_getD (fun x => elOf (pv127 x)) l i _ hlt]
    conv => whnf
    refine And.intro (by first | exact Nat.le_of_ble_eq_true rfl | exact ⟨Nat.le_of_ble_eq_true rfl, rfl⟩ | exact rfl | decide | (simp [allP]; done)) ?_
    conv => whnf
    refine And.intro (by first | exact Nat.le_of_ble_eq_true rfl | exact ⟨Nat.le_of_ble_eq_true rfl, rfl⟩ | exact rfl | decide | (simp [allP]; done)) ?_
    conv => whnf
    refine And.intro (by first | exact Nat.le_of_ble_eq_true rfl | exact ⟨Nat.le_of_ble_eq_true rfl, rfl⟩ | exact rfl | decide | (simp [allP]; done)) ?_
    conv => whnf
    have hfl := flat_one_len en127 hlt
    have hst := flat_step en127 hlt
    have hok := h2 _ (List.getElem_mem hlt)
    generalize l[i] = x at hfl hst hok ⊢
    refine ⟨(b ++ vE l.length ++ ((l.take i).map en127).flatten, x), ?_⟩
    conv => whnf
    refine And.intro (by simp only [allP, List.nil_append, List.cons_append, true_and]; repeat' (first | assumption | rfl | trivial | (rw [List.length_append, List.length_append]; omega) | refine And.intro ?_ ?_ | omega)) ?_
    conv => whnf
    refine ⟨⟨i + 1, by omega⟩, by simp only; omega, ?_⟩
    conv => whnf
    rw [hst]
    and_intros <;> first | rfl | (rw [wrap_i64 (by omega) (by omega)]; rfl) | (rw [List.append_assoc]; rfl) | (rw [← List.append_assoc]; rfl)
  · rw [decide_eq_false (show ¬ (i : Int) < (l.length : Int) by omega)]
    conv => whnf
    rw [List.take_of_length_le (by omega), List.append_assoc]
    first | done | (and_intros <;> rfl)
theorem Lmetas_1_sound : Sound Try.prog 91 cLmetas_1 := does_sound mixed tabOk_prog gP32_ok Try.func91 Lmetas_1_does
def gP33 : List (FuncId × Ctr) := (91, cLmetas_1) :: gP32
theorem gP33_ok : GamOk Try.prog gP33 := GamOk.cons gP32_ok Try.func91 (by kernel_rfl) (by kernel_rfl) Lmetas_1_sound
abbrev cEmetas_2 : Ctr := ⟨List UInt8 × S129, 3, fun (b, x) => [.agg ((pv129 x).map avOf), .ptr 2 0], fun (b, x) => [(0, .box [.rowf 1]), (1, .row 5 1 true false (bl b)), (2, .box [.ptr 0 0])],
  fun (b, x) => ok129 x ∧ b.length + (en129 x).length ≤ 1000000000000, fun _ => .tuple [], fun (b, x) => [(0, .box [.rowf 3]), (2, .box [.ptr 0 0]), (3, .row 5 1 true false (bl (b ++ en129 x)))]⟩
theorem Emetas_2_does : Does gP33 tab Try.f94 cEmetas_2 := by
  rintro ⟨b, x⟩ ⟨hx, h3⟩
  obtain ⟨k0, k1, k2⟩ := hx
  (set_option smartUnfolding false in conv => whnf)
  refine ⟨(b, ([x.1] : List ByteArray)), ?_⟩
  conv => whnf
  refine And.intro (by simp only [allP, List.nil_append, List.cons_append, true_and]; repeat' (first | assumption | rfl | trivial | exact List.cons_ne_nil _ _ | (simp only [List.length_cons, List.length_nil]; omega) | (simp only [en129, nsB_c, nsB_n, tsB_c, tsB_n, List.length_append, List.length_nil] at h3 ⊢; omega) | refine And.intro ?_ ?_ | omega)) ?_
  (set_option smartUnfolding false in conv => whnf)
  refine ⟨((b ++ tsB [x.1]), ([x.2.1, x.2.2] : List Int)), ?_⟩
  conv => whnf
  refine And.intro (by simp only [allP, List.nil_append, List.cons_append, true_and]; repeat' (first | assumption | rfl | trivial | exact List.cons_ne_nil _ _ | (intro m hm; simp only [List.mem_cons, List.not_mem_nil, or_false] at hm; rcases hm with rfl | rfl <;> first | exact kind_r _ | (apply int_r; assumption)) | (simp only [List.length_cons, List.length_nil]; omega) | (simp only [en129, nsB_c, nsB_n, tsB_c, tsB_n, List.length_append, List.length_nil] at h3 ⊢; omega) | refine And.intro ?_ ?_ | omega)) ?_
  (set_option smartUnfolding false in conv => whnf)
  rw [show b ++ en129 x = ((b ++ tsB [x.1]) ++ nsB [x.2.1, x.2.2]) from by simp only [en129, nsB_c, nsB_n, tsB_c, tsB_n, List.append_assoc, List.append_nil]]
  first | done | (and_intros <;> rfl)
theorem Emetas_2_sound : Sound Try.prog 94 cEmetas_2 := does_sound mixed tabOk_prog gP33_ok Try.func94 Emetas_2_does
def gP34 : List (FuncId × Ctr) := (94, cEmetas_2) :: gP33
theorem gP34_ok : GamOk Try.prog gP34 := GamOk.cons gP33_ok Try.func94 (by kernel_rfl) (by kernel_rfl) Emetas_2_sound
abbrev cLmetas_2 : Ctr := ⟨List UInt8 × List S129, 3, fun (b, l) => [.ptr 0 0, .p false (.sl 3 ((fun l : List S129 => l.map fun x => elOf (pv129 x)) l)), .func 94 [] [.ptr 2 0]], fun (b, l) => [(0, .box [.rowf 1]), (1, .row 5 1 true false (bl b)), (2, .box [.ptr 0 0])],
  fun (b, l) => (l.length ≤ 140737488351232 ∧ ∀ x ∈ l, ok129 x) ∧ b.length + (lsB en129 l).length ≤ 1000000000000, fun _ => .tuple [], fun (b, l) => [(0, .box [.rowf 3]), (2, .box [.ptr 0 0]), (3, .row 5 1 true false (bl (b ++ lsB en129 l)))]⟩
theorem Lmetas_2_does : Does gP34 tab Try.f93 cLmetas_2 := by
  rintro ⟨b, l⟩ ⟨⟨h1, h2⟩, h3⟩
  have hil : ((fun l : List S129 => l.map fun x => elOf (pv129 x)) l).length = l.length := List.length_map ..
  have h3' : b.length + ((vE l.length).length + (l.map en129).flatten.length) ≤ 1000000000000 := by rw [lsB, List.length_append] at h3; exact h3
  conv => whnf
  rw [hil]
  refine ⟨(b, l.length), ?_⟩
  conv => whnf
  refine And.intro (by simp only [allP, List.nil_append, List.cons_append, true_and]; repeat' (first | assumption | rfl | trivial | refine And.intro ?_ ?_ | omega)) ?_
  conv => whnf
  rw [hil]
  refine ⟨{i : Nat // i ≤ l.length}, fun i => ⟨[(2, .func 94 [] [.ptr 2 0]), (12, .p false (.sl 3 ((fun l : List S129 => l.map fun x => elOf (pv129 x)) l))), (13, isI .i64 l.length), (14, isI .i64 i.1)], [(0, .box [.rowf 3]), (1, .gone), (2, .box [.ptr 0 0]), (3, .row 5 1 true false (bl (b ++ vE l.length ++ ((l.take i.1).map en129).flatten)))], 99⟩, fun i => l.length - i.1, ⟨⟨0, Nat.zero_le _⟩, ?_⟩, ?_⟩
  · conv => whnf
    rw [List.take_zero, List.map_nil, List.flatten_nil, List.append_nil]
    first | done | (and_intros <;> rfl)
  rintro ⟨i, hi⟩
  show aw _ _ _ _ _ _ ⟨[(2, .func 94 [] [.ptr 2 0]), (12, .p false (.sl 3 ((fun l : List S129 => l.map fun x => elOf (pv129 x)) l))), (13, isI .i64 l.length), (14, isI .i64 i)], [(0, .box [.rowf 3]), (1, .gone), (2, .box [.ptr 0 0]), (3, .row 5 1 true false (bl (b ++ vE l.length ++ ((l.take i).map en129).flatten)))], 99⟩
  conv => whnf
  by_cases hlt : i < l.length
  · rw [decide_eq_true (show (i : Int) < (l.length : Int) by omega)]
    conv => whnf
    refine And.intro (by simp only [allP, List.nil_append, List.cons_append, true_and]; rw [hil]; omega) ?_
    conv => whnf
    rw [Int.toNat_natCast, map_getD (fun x => elOf (pv129 x)) l i _ hlt]
    conv => whnf
    refine And.intro (by first | exact Nat.le_of_ble_eq_true rfl | exact ⟨Nat.le_of_ble_eq_true rfl, rfl⟩ | exact rfl | decide | (simp [allP]; done)) ?_
    conv => whnf
    refine And.intro (by first | exact Nat.le_of_ble_eq_true rfl | exact ⟨Nat.le_of_ble_eq_true rfl, rfl⟩ | exact rfl | decide | (simp [allP]; done)) ?_
    conv => whnf
    refine And.intro (by first | exact Nat.le_of_ble_eq_true rfl | exact ⟨Nat.le_of_ble_eq_true rfl, rfl⟩ | exact rfl | decide | (simp [allP]; done)) ?_
    conv => whnf
    have hfl := flat_one_len en129 hlt
    have hst := flat_step en129 hlt
    have hok := h2 _ (List.getElem_mem hlt)
    generalize l[i] = x at hfl hst hok ⊢
    refine ⟨(b ++ vE l.length ++ ((l.take i).map en129).flatten, x), ?_⟩
    conv => whnf
    refine And.intro (by simp only [allP, List.nil_append, List.cons_append, true_and]; repeat' (first | assumption | rfl | trivial | (rw [List.length_append, List.length_append]; omega) | refine And.intro ?_ ?_ | omega)) ?_
    conv => whnf
    refine ⟨⟨i + 1, by omega⟩, by simp only; omega, ?_⟩
    conv => whnf
    rw [hst]
    and_intros <;> first | rfl | (rw [wrap_i64 (by omega) (by omega)]; rfl) | (rw [List.append_assoc]; rfl) | (rw [← List.append_assoc]; rfl)
  · rw [decide_eq_false (show ¬ (i : Int) < (l.length : Int) by omega)]
    conv => whnf
    rw [List.take_of_length_le (by omega), List.append_assoc]
    first | done | (and_intros <;> rfl)
theorem Lmetas_2_sound : Sound Try.prog 93 cLmetas_2 := does_sound mixed tabOk_prog gP34_ok Try.func93 Lmetas_2_does
def gP35 : List (FuncId × Ctr) := (93, cLmetas_2) :: gP34
theorem gP35_ok : GamOk Try.prog gP35 := GamOk.cons gP34_ok Try.func93 (by kernel_rfl) (by kernel_rfl) Lmetas_2_sound
abbrev cEmetas_3_1 : Ctr := ⟨List UInt8 × S140, 3, fun (b, x) => [.agg ((pv140 x).map avOf), .ptr 2 0], fun (b, x) => [(0, .box [.rowf 1]), (1, .row 5 1 true false (bl b)), (2, .box [.ptr 0 0])],
  fun (b, x) => ok140 x ∧ b.length + (en140 x).length ≤ 1000000000000, fun _ => .tuple [], fun (b, x) => [(0, .box [.rowf 3]), (2, .box [.ptr 0 0]), (3, .row 5 1 true false (bl (b ++ en140 x)))]⟩
theorem Emetas_3_1_does : Does gP35 tab Try.f100 cEmetas_3_1 := by
  rintro ⟨b, x⟩ ⟨hx, h3⟩
  obtain ⟨k0, k1⟩ := hx
  (set_option smartUnfolding false in conv => whnf)
  refine ⟨(b, ([x.1] : List Int)), ?_⟩
  conv => whnf
  refine And.intro (by simp only [allP, List.nil_append, List.cons_append, true_and]; repeat' (first | assumption | rfl | trivial | exact List.cons_ne_nil _ _ | (intro m hm; simp only [List.mem_cons, List.not_mem_nil, or_false] at hm; rcases hm with rfl <;> first | exact kind_r _ | (apply int_r; assumption)) | (simp only [List.length_cons, List.length_nil]; omega) | (simp only [en140, nsB_c, nsB_n, tsB_c, tsB_n, List.length_append, List.length_nil] at h3 ⊢; omega) | refine And.intro ?_ ?_ | omega)) ?_
  (set_option smartUnfolding false in conv => whnf)
  refine And.intro (by first | exact Nat.le_of_ble_eq_true rfl | exact ⟨Nat.le_of_ble_eq_true rfl, rfl⟩ | exact rfl | decide | (simp [allP]; done)) ?_
  (set_option smartUnfolding false in conv => whnf)
  refine ⟨((b ++ nsB [x.1]), x.2), ?_⟩
  conv => whnf
  refine And.intro (by simp only [allP, List.nil_append, List.cons_append, true_and]; repeat' (first | assumption | rfl | trivial | exact k1.1 | exact k1.2.2 | (intros; trivial) | (simp only [en140, nsB_c, nsB_n, tsB_c, tsB_n, List.length_append, List.length_nil] at h3 ⊢; omega) | refine And.intro ?_ ?_ | omega)) ?_
  (set_option smartUnfolding false in conv => whnf)
  rw [show b ++ en140 x = ((b ++ nsB [x.1]) ++ en51 x.2) from by simp only [en140, nsB_c, nsB_n, tsB_c, tsB_n, List.append_assoc, List.append_nil]]
  first | done | (and_intros <;> rfl)
theorem Emetas_3_1_sound : Sound Try.prog 100 cEmetas_3_1 := does_sound mixed tabOk_prog gP35_ok Try.func100 Emetas_3_1_does
def gP36 : List (FuncId × Ctr) := (100, cEmetas_3_1) :: gP35
theorem gP36_ok : GamOk Try.prog gP36 := GamOk.cons gP35_ok Try.func100 (by kernel_rfl) (by kernel_rfl) Emetas_3_1_sound
abbrev cLmetas_3_1 : Ctr := ⟨List UInt8 × List S140, 3, fun (b, l) => [.ptr 0 0, .p false (.sl 7 ((fun l : List S140 => l.map fun x => elOf (pv140 x)) l)), .func 100 [] [.ptr 2 0]], fun (b, l) => [(0, .box [.rowf 1]), (1, .row 5 1 true false (bl b)), (2, .box [.ptr 0 0])],
  fun (b, l) => (l.length ≤ 140737488351232 ∧ ∀ x ∈ l, ok140 x) ∧ b.length + (lsB en140 l).length ≤ 1000000000000, fun _ => .tuple [], fun (b, l) => [(0, .box [.rowf 3]), (2, .box [.ptr 0 0]), (3, .row 5 1 true false (bl (b ++ lsB en140 l)))]⟩
theorem Lmetas_3_1_does : Does gP36 tab Try.f99 cLmetas_3_1 := by
  rintro ⟨b, l⟩ ⟨⟨h1, h2⟩, h3⟩
  have hil : ((fun l : List S140 => l.map fun x => elOf (pv140 x)) l).length = l.length := List.length_map ..
  have h3' : b.length + ((vE l.length).length + (l.map en140).flatten.length) ≤ 1000000000000 := by rw [lsB, List.length_append] at h3; exact h3
  conv => whnf
  rw [hil]
  refine ⟨(b, l.length), ?_⟩
  conv => whnf
  refine And.intro (by simp only [allP, List.nil_append, List.cons_append, true_and]; repeat' (first | assumption | rfl | trivial | refine And.intro ?_ ?_ | omega)) ?_
  conv => whnf
  rw [hil]
  refine ⟨{i : Nat // i ≤ l.length}, fun i => ⟨[(2, .func 100 [] [.ptr 2 0]), (12, .p false (.sl 7 ((fun l : List S140 => l.map fun x => elOf (pv140 x)) l))), (13, isI .i64 l.length), (14, isI .i64 i.1)], [(0, .box [.rowf 3]), (1, .gone), (2, .box [.ptr 0 0]), (3, .row 5 1 true false (bl (b ++ vE l.length ++ ((l.take i.1).map en140).flatten)))], 99⟩, fun i => l.length - i.1, ⟨⟨0, Nat.zero_le _⟩, ?_⟩, ?_⟩
  · conv => whnf
    rw [List.take_zero, List.map_nil, List.flatten_nil, List.append_nil]
    first | done | (and_intros <;> rfl)
  rintro ⟨i, hi⟩
  show aw _ _ _ _ _ _ ⟨[(2, .func 100 [] [.ptr 2 0]), (12, .p false (.sl 7 ((fun l : List S140 => l.map fun x => elOf (pv140 x)) l))), (13, isI .i64 l.length), (14, isI .i64 i)], [(0, .box [.rowf 3]), (1, .gone), (2, .box [.ptr 0 0]), (3, .row 5 1 true false (bl (b ++ vE l.length ++ ((l.take i).map en140).flatten)))], 99⟩
  conv => whnf
  by_cases hlt : i < l.length
  · rw [decide_eq_true (show (i : Int) < (l.length : Int) by omega)]
    conv => whnf
    refine And.intro (by simp only [allP, List.nil_append, List.cons_append, true_and]; rw [hil]; omega) ?_
    conv => whnf
    rw [Int.toNat_natCast, map_getD (fun x => elOf (pv140 x)) l i _ hlt]
    conv => whnf
    refine And.intro (by first | exact Nat.le_of_ble_eq_true rfl | exact ⟨Nat.le_of_ble_eq_true rfl, rfl⟩ | exact rfl | decide | (simp [allP]; done)) ?_
    conv => whnf
    refine And.intro (by first | exact Nat.le_of_ble_eq_true rfl | exact ⟨Nat.le_of_ble_eq_true rfl, rfl⟩ | exact rfl | decide | (simp [allP]; done)) ?_
    conv => whnf
    refine And.intro (by first | exact Nat.le_of_ble_eq_true rfl | exact ⟨Nat.le_of_ble_eq_true rfl, rfl⟩ | exact rfl | decide | (simp [allP]; done)) ?_
    conv => whnf
    have hfl := flat_one_len en140 hlt
    have hst := flat_step en140 hlt
    have hok := h2 _ (List.getElem_mem hlt)
    generalize l[i] = x at hfl hst hok ⊢
    refine ⟨(b ++ vE l.length ++ ((l.take i).map en140).flatten, x), ?_⟩
    conv => whnf
    refine And.intro (by simp only [allP, List.nil_append, List.cons_append, true_and]; repeat' (first | assumption | rfl | trivial | (rw [List.length_append, List.length_append]; omega) | refine And.intro ?_ ?_ | omega)) ?_
    conv => whnf
    refine ⟨⟨i + 1, by omega⟩, by simp only; omega, ?_⟩
    conv => whnf
    rw [hst]
    and_intros <;> first | rfl | (rw [wrap_i64 (by omega) (by omega)]; rfl) | (rw [List.append_assoc]; rfl) | (rw [← List.append_assoc]; rfl)
  · rw [decide_eq_false (show ¬ (i : Int) < (l.length : Int) by omega)]
    conv => whnf
    rw [List.take_of_length_le (by omega), List.append_assoc]
    first | done | (and_intros <;> rfl)
theorem Lmetas_3_1_sound : Sound Try.prog 99 cLmetas_3_1 := does_sound mixed tabOk_prog gP36_ok Try.func99 Lmetas_3_1_does
def gP37 : List (FuncId × Ctr) := (99, cLmetas_3_1) :: gP36
theorem gP37_ok : GamOk Try.prog gP37 := GamOk.cons gP36_ok Try.func99 (by kernel_rfl) (by kernel_rfl) Lmetas_3_1_sound
abbrev cEmetas_3 : Ctr := ⟨List UInt8 × S138, 3, fun (b, x) => [.agg ((pv138 x).map avOf), .ptr 2 0], fun (b, x) => [(0, .box [.rowf 1]), (1, .row 5 1 true false (bl b)), (2, .box [.ptr 0 0])],
  fun (b, x) => ok138 x ∧ b.length + (en138 x).length ≤ 1000000000000, fun _ => .tuple [], fun (b, x) => [(0, .box [.rowf 3]), (2, .box [.ptr 0 0]), (3, .row 5 1 true false (bl (b ++ en138 x)))]⟩
theorem Emetas_3_does : Does gP37 tab Try.f98 cEmetas_3 := by
  rintro ⟨b, x⟩ ⟨hx, h3⟩
  obtain ⟨k0, k1, k2⟩ := hx
  (set_option smartUnfolding false in conv => whnf)
  refine ⟨(b, ([x.1, x.2.1] : List Int)), ?_⟩
  conv => whnf
  refine And.intro (by simp only [allP, List.nil_append, List.cons_append, true_and]; repeat' (first | assumption | rfl | trivial | exact List.cons_ne_nil _ _ | (intro m hm; simp only [List.mem_cons, List.not_mem_nil, or_false] at hm; rcases hm with rfl | rfl <;> first | exact kind_r _ | (apply int_r; assumption)) | (simp only [List.length_cons, List.length_nil]; omega) | (simp only [en138, nsB_c, nsB_n, tsB_c, tsB_n, List.length_append, List.length_nil] at h3 ⊢; omega) | refine And.intro ?_ ?_ | omega)) ?_
  (set_option smartUnfolding false in conv => whnf)
  refine ⟨((b ++ nsB [x.1, x.2.1]), x.2.2), ?_⟩
  conv => whnf
  refine And.intro (by simp only [allP, List.nil_append, List.cons_append, true_and]; repeat' (first | assumption | rfl | trivial | exact k2.1 | exact k2.2.2 | (intros; trivial) | (simp only [en138, nsB_c, nsB_n, tsB_c, tsB_n, List.length_append, List.length_nil] at h3 ⊢; omega) | refine And.intro ?_ ?_ | omega)) ?_
  (set_option smartUnfolding false in conv => whnf)
  rw [show b ++ en138 x = ((b ++ nsB [x.1, x.2.1]) ++ lsB en140 x.2.2) from by simp only [en138, nsB_c, nsB_n, tsB_c, tsB_n, List.append_assoc, List.append_nil]]
  first | done | (and_intros <;> rfl)
theorem Emetas_3_sound : Sound Try.prog 98 cEmetas_3 := does_sound mixed tabOk_prog gP37_ok Try.func98 Emetas_3_does
def gP38 : List (FuncId × Ctr) := (98, cEmetas_3) :: gP37
theorem gP38_ok : GamOk Try.prog gP38 := GamOk.cons gP37_ok Try.func98 (by kernel_rfl) (by kernel_rfl) Emetas_3_sound
abbrev cLmetas_3 : Ctr := ⟨List UInt8 × List S138, 3, fun (b, l) => [.ptr 0 0, .p false (.sl 3 ((fun l : List S138 => l.map fun x => elOf (pv138 x)) l)), .func 98 [] [.ptr 2 0]], fun (b, l) => [(0, .box [.rowf 1]), (1, .row 5 1 true false (bl b)), (2, .box [.ptr 0 0])],
  fun (b, l) => (l.length ≤ 140737488351232 ∧ ∀ x ∈ l, ok138 x) ∧ b.length + (lsB en138 l).length ≤ 1000000000000, fun _ => .tuple [], fun (b, l) => [(0, .box [.rowf 3]), (2, .box [.ptr 0 0]), (3, .row 5 1 true false (bl (b ++ lsB en138 l)))]⟩
theorem Lmetas_3_does : Does gP38 tab Try.f97 cLmetas_3 := by
  rintro ⟨b, l⟩ ⟨⟨h1, h2⟩, h3⟩
  have hil : ((fun l : List S138 => l.map fun x => elOf (pv138 x)) l).length = l.length := List.length_map ..
  have h3' : b.length + ((vE l.length).length + (l.map en138).flatten.length) ≤ 1000000000000 := by rw [lsB, List.length_append] at h3; exact h3
  conv => whnf
  rw [hil]
  refine ⟨(b, l.length), ?_⟩
  conv => whnf
  refine And.intro (by simp only [allP, List.nil_append, List.cons_append, true_and]; repeat' (first | assumption | rfl | trivial | refine And.intro ?_ ?_ | omega)) ?_
  conv => whnf
  rw [hil]
  refine ⟨{i : Nat // i ≤ l.length}, fun i => ⟨[(2, .func 98 [] [.ptr 2 0]), (12, .p false (.sl 3 ((fun l : List S138 => l.map fun x => elOf (pv138 x)) l))), (13, isI .i64 l.length), (14, isI .i64 i.1)], [(0, .box [.rowf 3]), (1, .gone), (2, .box [.ptr 0 0]), (3, .row 5 1 true false (bl (b ++ vE l.length ++ ((l.take i.1).map en138).flatten)))], 99⟩, fun i => l.length - i.1, ⟨⟨0, Nat.zero_le _⟩, ?_⟩, ?_⟩
  · conv => whnf
    rw [List.take_zero, List.map_nil, List.flatten_nil, List.append_nil]
    first | done | (and_intros <;> rfl)
  rintro ⟨i, hi⟩
  show aw _ _ _ _ _ _ ⟨[(2, .func 98 [] [.ptr 2 0]), (12, .p false (.sl 3 ((fun l : List S138 => l.map fun x => elOf (pv138 x)) l))), (13, isI .i64 l.length), (14, isI .i64 i)], [(0, .box [.rowf 3]), (1, .gone), (2, .box [.ptr 0 0]), (3, .row 5 1 true false (bl (b ++ vE l.length ++ ((l.take i).map en138).flatten)))], 99⟩
  conv => whnf
  by_cases hlt : i < l.length
  · rw [decide_eq_true (show (i : Int) < (l.length : Int) by omega)]
    conv => whnf
    refine And.intro (by simp only [allP, List.nil_append, List.cons_append, true_and]; rw [hil]; omega) ?_
    conv => whnf
    rw [Int.toNat_natCast, map_getD (fun x => elOf (pv138 x)) l i _ hlt]
    conv => whnf
    refine And.intro (by first | exact Nat.le_of_ble_eq_true rfl | exact ⟨Nat.le_of_ble_eq_true rfl, rfl⟩ | exact rfl | decide | (simp [allP]; done)) ?_
    conv => whnf
    refine And.intro (by first | exact Nat.le_of_ble_eq_true rfl | exact ⟨Nat.le_of_ble_eq_true rfl, rfl⟩ | exact rfl | decide | (simp [allP]; done)) ?_
    conv => whnf
    refine And.intro (by first | exact Nat.le_of_ble_eq_true rfl | exact ⟨Nat.le_of_ble_eq_true rfl, rfl⟩ | exact rfl | decide | (simp [allP]; done)) ?_
    conv => whnf
    have hfl := flat_one_len en138 hlt
    have hst := flat_step en138 hlt
    have hok := h2 _ (List.getElem_mem hlt)
    generalize l[i] = x at hfl hst hok ⊢
    refine ⟨(b ++ vE l.length ++ ((l.take i).map en138).flatten, x), ?_⟩
    conv => whnf
    refine And.intro (by simp only [allP, List.nil_append, List.cons_append, true_and]; repeat' (first | assumption | rfl | trivial | (rw [List.length_append, List.length_append]; omega) | refine And.intro ?_ ?_ | omega)) ?_
    conv => whnf
    refine ⟨⟨i + 1, by omega⟩, by simp only; omega, ?_⟩
    conv => whnf
    rw [hst]
    and_intros <;> first | rfl | (rw [wrap_i64 (by omega) (by omega)]; rfl) | (rw [List.append_assoc]; rfl) | (rw [← List.append_assoc]; rfl)
  · rw [decide_eq_false (show ¬ (i : Int) < (l.length : Int) by omega)]
    conv => whnf
    rw [List.take_of_length_le (by omega), List.append_assoc]
    first | done | (and_intros <;> rfl)
theorem Lmetas_3_sound : Sound Try.prog 97 cLmetas_3 := does_sound mixed tabOk_prog gP38_ok Try.func97 Lmetas_3_does
def gP39 : List (FuncId × Ctr) := (97, cLmetas_3) :: gP38
theorem gP39_ok : GamOk Try.prog gP39 := GamOk.cons gP38_ok Try.func97 (by kernel_rfl) (by kernel_rfl) Lmetas_3_sound
end Go.Proofs.Ytingmlhhabaplaa.Ev
