/- Wire: what the program puts together: sub. No conditions. -/
import Derived.Test.YtingmlhhabaplaaGreatEvWire1d
namespace Go.Proofs.YtingmlhhabaplaaGreat.Ev
open Go
set_option linter.unusedVariables false
set_option linter.unusedSimpArgs false
set_option maxRecDepth 100000
set_option maxHeartbeats 4000000
abbrev cOsub : Ctr := cO en190 (fun x : S190 => .agg ((pv190 x).map avOf)) ok190
theorem Osub_does : Does gP17 tab Tryz.f200 cOsub := by
  rintro ⟨b, x⟩ ⟨hx, h3⟩
  obtain ⟨k0, k1⟩ := hx
  (set_option smartUnfolding false in conv => whnf)
  refine ⟨(b, ([x.1] : List ByteArray)), ?_⟩
  conv => whnf
  refine And.intro (by simp only [allP, List.nil_append, List.cons_append, true_and]; repeat' (first | assumption | rfl | trivial | exact List.cons_ne_nil _ _ | (simp only [List.length_cons, List.length_nil]; omega) | (simp only [en190, nsB_c, nsB_n, tsB_c, tsB_n, List.length_append, List.length_nil] at h3 ⊢; omega) | refine And.intro ?_ ?_ | omega)) ?_
  (set_option smartUnfolding false in conv => whnf)
  refine ⟨((b ++ tsB [x.1]), x.2), ?_⟩
  conv => whnf
  refine And.intro (by simp only [allP, List.nil_append, List.cons_append, true_and]; repeat' (first | assumption | rfl | trivial | exact k1.1 | exact k1.2.2 | (intros; trivial) | (simp only [en190, nsB_c, nsB_n, tsB_c, tsB_n, List.length_append, List.length_nil] at h3 ⊢; omega) | refine And.intro ?_ ?_ | omega)) ?_
  (set_option smartUnfolding false in conv => whnf)
  rw [show b ++ en190 x = ((b ++ tsB [x.1]) ++ lsB txB x.2) from by simp only [en190, nsB_c, nsB_n, tsB_c, tsB_n, List.append_assoc, List.append_nil]]
  first | done | (and_intros <;> rfl)
theorem Osub_sound : Sound Tryz.prog 200 cOsub := does_sound mixed tabOk_prog gP17_ok Tryz.func200 Osub_does
def gP18 : List (FuncId × Ctr) := (200, cOsub) :: gP17
theorem gP18_ok : GamOk Tryz.prog gP18 := GamOk.cons gP17_ok Tryz.func200 (by kernel_rfl) (by kernel_rfl) Osub_sound
abbrev cEparts_1_1 : Ctr := ⟨List UInt8 × S111, 3, fun (b, x) => [.agg ((pv111 x).map avOf), .ptr 2 0], fun (b, x) => [(0, .box [.rowf 1]), (1, .row 5 1 true false (bl b)), (2, .box [.ptr 0 0])],
  fun (b, x) => ok111 x ∧ b.length + (en111 x).length ≤ 1000000000000, fun _ => .tuple [], fun (b, x) => [(0, .box [.rowf 3]), (2, .box [.ptr 0 0]), (3, .row 5 1 true false (bl (b ++ en111 x)))]⟩
theorem Eparts_1_1_does : Does gP18 tab Tryz.f174 cEparts_1_1 := by
  rintro ⟨b, x⟩ ⟨hx, h3⟩
  obtain ⟨k0, k1, k2⟩ := hx
  (set_option smartUnfolding false in conv => whnf)
  refine ⟨(b, ([x.1, x.2.1, x.2.2] : List Int)), ?_⟩
  conv => whnf
  refine And.intro (by simp only [allP, List.nil_append, List.cons_append, true_and]; repeat' (first | assumption | rfl | trivial | exact List.cons_ne_nil _ _ | (intro m hm; simp only [List.mem_cons, List.not_mem_nil, or_false] at hm; rcases hm with rfl | rfl | rfl <;> first | exact kind_r _ | (apply int_r; assumption)) | (simp only [List.length_cons, List.length_nil]; omega) | (simp only [en111, nsB_c, nsB_n, tsB_c, tsB_n, List.length_append, List.length_nil] at h3 ⊢; omega) | refine And.intro ?_ ?_ | omega)) ?_
  (set_option smartUnfolding false in conv => whnf)
  rw [show b ++ en111 x = (b ++ nsB [x.1, x.2.1, x.2.2]) from by simp only [en111, nsB_c, nsB_n, tsB_c, tsB_n, List.append_assoc, List.append_nil]]
  first | done | (and_intros <;> rfl)
theorem Eparts_1_1_sound : Sound Tryz.prog 174 cEparts_1_1 := does_sound mixed tabOk_prog gP18_ok Tryz.func174 Eparts_1_1_does
def gP19 : List (FuncId × Ctr) := (174, cEparts_1_1) :: gP18
theorem gP19_ok : GamOk Tryz.prog gP19 := GamOk.cons gP18_ok Tryz.func174 (by kernel_rfl) (by kernel_rfl) Eparts_1_1_sound
abbrev cLparts_1_1 : Ctr := ⟨List UInt8 × List S111, 3, fun (b, l) => [.ptr 0 0, .p false (.sl 3 ((fun l : List S111 => l.map fun x => elOf (pv111 x)) l)), .func 174 [] [.ptr 2 0]], fun (b, l) => [(0, .box [.rowf 1]), (1, .row 5 1 true false (bl b)), (2, .box [.ptr 0 0])],
  fun (b, l) => (l.length ≤ 140737488351232 ∧ ∀ x ∈ l, ok111 x) ∧ b.length + (lsB en111 l).length ≤ 1000000000000, fun _ => .tuple [], fun (b, l) => [(0, .box [.rowf 3]), (2, .box [.ptr 0 0]), (3, .row 5 1 true false (bl (b ++ lsB en111 l)))]⟩
theorem Lparts_1_1_does : Does gP19 tab Tryz.f173 cLparts_1_1 := by
  rintro ⟨b, l⟩ ⟨⟨h1, h2⟩, h3⟩
  have hil : ((fun l : List S111 => l.map fun x => elOf (pv111 x)) l).length = l.length := List.length_map ..
  have h3' : b.length + ((vE l.length).length + (l.map en111).flatten.length) ≤ 1000000000000 := by rw [lsB, List.length_append] at h3; exact h3
  conv => whnf
  rw [hil]
  refine ⟨(b, l.length), ?_⟩
  conv => whnf
  refine And.intro (by simp only [allP, List.nil_append, List.cons_append, true_and]; repeat' (first | assumption | rfl | trivial | refine And.intro ?_ ?_ | omega)) ?_
  conv => whnf
  rw [hil]
  refine ⟨{i : Nat // i ≤ l.length}, fun i => ⟨[(2, .func 174 [] [.ptr 2 0]), (12, .p false (.sl 3 ((fun l : List S111 => l.map fun x => elOf (pv111 x)) l))), (13, isI .i64 l.length), (14, isI .i64 i.1)], [(0, .box [.rowf 3]), (1, .gone), (2, .box [.ptr 0 0]), (3, .row 5 1 true false (bl (b ++ vE l.length ++ ((l.take i.1).map en111).flatten)))], 99⟩, fun i => l.length - i.1, ⟨⟨0, Nat.zero_le _⟩, ?_⟩, ?_⟩
  · conv => whnf
    rw [List.take_zero, List.map_nil, List.flatten_nil, List.append_nil]
    first | done | (and_intros <;> rfl)
  rintro ⟨i, hi⟩
  show aw _ _ _ _ _ _ ⟨[(2, .func 174 [] [.ptr 2 0]), (12, .p false (.sl 3 ((fun l : List S111 => l.map fun x => elOf (pv111 x)) l))), (13, isI .i64 l.length), (14, isI .i64 i)], [(0, .box [.rowf 3]), (1, .gone), (2, .box [.ptr 0 0]), (3, .row 5 1 true false (bl (b ++ vE l.length ++ ((l.take i).map en111).flatten)))], 99⟩
  conv => whnf
  by_cases hlt : i < l.length
  · rw [decide_eq_true (show (i : Int) < (l.length : Int) by omega)]
    conv => whnf
    refine And.intro (by simp only [allP, List.nil_append, List.cons_append, true_and]; rw [hil]; omega) ?_
    conv => whnf
    rw [Int.toNat_natCast, map_getD (fun x => elOf (pv111 x)) l i _ hlt]
    conv => whnf
    refine dI (k := ?_)
    conv => whnf
    refine dI (k := ?_)
    conv => whnf
    refine dI (k := ?_)
    conv => whnf
    have hfl := flat_one_len en111 hlt
    have hst := flat_step en111 hlt
    have hok := h2 _ (List.getElem_mem hlt)
    generalize l[i] = x at hfl hst hok ⊢
    refine ⟨(b ++ vE l.length ++ ((l.take i).map en111).flatten, x), ?_⟩
    conv => whnf
    refine And.intro (by simp only [allP, List.nil_append, List.cons_append, true_and]; repeat' (first | assumption | rfl | trivial | (rw [List.length_append, List.length_append]; omega) | refine And.intro ?_ ?_ | omega)) ?_
    conv => whnf
    refine ⟨⟨i + 1, by omega⟩, by simp only; omega, ?_⟩
    conv => whnf
    rw [hst]
    and_intros <;> first | rfl | (rw [wrap_i64 (by omega) (by omega)]; rfl) | (rw [List.append_assoc]; rfl) | (rw [← List.append_assoc]; rfl)
  · rw [decide_eq_false (show ¬ (i : Int) < (l.length : Int) by omega)]
    conv => whnf
    rw [List.take_of_length_le (by omega), List.append_assoc]
    first | done | (and_intros <;> rfl)
theorem Lparts_1_1_sound : Sound Tryz.prog 173 cLparts_1_1 := does_sound mixed tabOk_prog gP19_ok Tryz.func173 Lparts_1_1_does
def gP20 : List (FuncId × Ctr) := (173, cLparts_1_1) :: gP19
theorem gP20_ok : GamOk Tryz.prog gP20 := GamOk.cons gP19_ok Tryz.func173 (by kernel_rfl) (by kernel_rfl) Lparts_1_1_sound
abbrev cEparts_1 : Ctr := ⟨List UInt8 × S109, 3, fun (b, x) => [.agg ((pv109 x).map avOf), .ptr 2 0], fun (b, x) => [(0, .box [.rowf 1]), (1, .row 5 1 true false (bl b)), (2, .box [.ptr 0 0])],
  fun (b, x) => ok109 x ∧ b.length + (en109 x).length ≤ 1000000000000, fun _ => .tuple [], fun (b, x) => [(0, .box [.rowf 3]), (2, .box [.ptr 0 0]), (3, .row 5 1 true false (bl (b ++ en109 x)))]⟩
theorem Eparts_1_does : Does gP20 tab Tryz.f172 cEparts_1 := by
  rintro ⟨b, x⟩ ⟨hx, h3⟩
  obtain ⟨k0, k1, k2, k3⟩ := hx
  (set_option smartUnfolding false in conv => whnf)
  refine ⟨(b, ([x.1, x.2.1, x.2.2.1] : List Int)), ?_⟩
  conv => whnf
  refine And.intro (by simp only [allP, List.nil_append, List.cons_append, true_and]; repeat' (first | assumption | rfl | trivial | exact List.cons_ne_nil _ _ | (intro m hm; simp only [List.mem_cons, List.not_mem_nil, or_false] at hm; rcases hm with rfl | rfl | rfl <;> first | exact kind_r _ | (apply int_r; assumption)) | (simp only [List.length_cons, List.length_nil]; omega) | (simp only [en109, nsB_c, nsB_n, tsB_c, tsB_n, List.length_append, List.length_nil] at h3 ⊢; omega) | refine And.intro ?_ ?_ | omega)) ?_
  (set_option smartUnfolding false in conv => whnf)
  refine ⟨((b ++ nsB [x.1, x.2.1, x.2.2.1]), x.2.2.2), ?_⟩
  conv => whnf
  refine And.intro (by simp only [allP, List.nil_append, List.cons_append, true_and]; repeat' (first | assumption | rfl | trivial | exact k3.1 | exact k3.2.2 | (intros; trivial) | (simp only [en109, nsB_c, nsB_n, tsB_c, tsB_n, List.length_append, List.length_nil] at h3 ⊢; omega) | refine And.intro ?_ ?_ | omega)) ?_
  (set_option smartUnfolding false in conv => whnf)
  rw [show b ++ en109 x = ((b ++ nsB [x.1, x.2.1, x.2.2.1]) ++ lsB en111 x.2.2.2) from by simp only [en109, nsB_c, nsB_n, tsB_c, tsB_n, List.append_assoc, List.append_nil]]
  first | done | (and_intros <;> rfl)
theorem Eparts_1_sound : Sound Tryz.prog 172 cEparts_1 := does_sound mixed tabOk_prog gP20_ok Tryz.func172 Eparts_1_does
def gP21 : List (FuncId × Ctr) := (172, cEparts_1) :: gP20
theorem gP21_ok : GamOk Tryz.prog gP21 := GamOk.cons gP20_ok Tryz.func172 (by kernel_rfl) (by kernel_rfl) Eparts_1_sound
abbrev cLparts_1 : Ctr := ⟨List UInt8 × List S109, 3, fun (b, l) => [.ptr 0 0, .p false (.sl 4 ((fun l : List S109 => l.map fun x => elOf (pv109 x)) l)), .func 172 [] [.ptr 2 0]], fun (b, l) => [(0, .box [.rowf 1]), (1, .row 5 1 true false (bl b)), (2, .box [.ptr 0 0])],
  fun (b, l) => (l.length ≤ 140737488351232 ∧ ∀ x ∈ l, ok109 x) ∧ b.length + (lsB en109 l).length ≤ 1000000000000, fun _ => .tuple [], fun (b, l) => [(0, .box [.rowf 3]), (2, .box [.ptr 0 0]), (3, .row 5 1 true false (bl (b ++ lsB en109 l)))]⟩
theorem Lparts_1_does : Does gP21 tab Tryz.f171 cLparts_1 := by
  rintro ⟨b, l⟩ ⟨⟨h1, h2⟩, h3⟩
  have hil : ((fun l : List S109 => l.map fun x => elOf (pv109 x)) l).length = l.length := List.length_map ..
  have h3' : b.length + ((vE l.length).length + (l.map en109).flatten.length) ≤ 1000000000000 := by rw [lsB, List.length_append] at h3; exact h3
  conv => whnf
  rw [hil]
  refine ⟨(b, l.length), ?_⟩
  conv => whnf
  refine And.intro (by simp only [allP, List.nil_append, List.cons_append, true_and]; repeat' (first | assumption | rfl | trivial | refine And.intro ?_ ?_ | omega)) ?_
  conv => whnf
  rw [hil]
  refine ⟨{i : Nat // i ≤ l.length}, fun i => ⟨[(2, .func 172 [] [.ptr 2 0]), (12, .p false (.sl 4 ((fun l : List S109 => l.map fun x => elOf (pv109 x)) l))), (13, isI .i64 l.length), (14, isI .i64 i.1)], [(0, .box [.rowf 3]), (1, .gone), (2, .box [.ptr 0 0]), (3, .row 5 1 true false (bl (b ++ vE l.length ++ ((l.take i.1).map en109).flatten)))], 99⟩, fun i => l.length - i.1, ⟨⟨0, Nat.zero_le _⟩, ?_⟩, ?_⟩
  · conv => whnf
    rw [List.take_zero, List.map_nil, List.flatten_nil, List.append_nil]
    first | done | (and_intros <;> rfl)
  rintro ⟨i, hi⟩
  show aw _ _ _ _ _ _ ⟨[(2, .func 172 [] [.ptr 2 0]), (12, .p false (.sl 4 ((fun l : List S109 => l.map fun x => elOf (pv109 x)) l))), (13, isI .i64 l.length), (14, isI .i64 i)], [(0, .box [.rowf 3]), (1, .gone), (2, .box [.ptr 0 0]), (3, .row 5 1 true false (bl (b ++ vE l.length ++ ((l.take i).map en109).flatten)))], 99⟩
  conv => whnf
  by_cases hlt : i < l.length
  · rw [decide_eq_true (show (i : Int) < (l.length : Int) by omega)]
    conv => whnf
    refine And.intro (by simp only [allP, List.nil_append, List.cons_append, true_and]; rw [hil]; omega) ?_
    conv => whnf
    rw [Int.toNat_natCast, map_getD (fun x => elOf (pv109 x)) l i _ hlt]
    conv => whnf
    refine dI (k := ?_)
    conv => whnf
    refine dI (k := ?_)
    conv => whnf
    refine dI (k := ?_)
    conv => whnf
    have hfl := flat_one_len en109 hlt
    have hst := flat_step en109 hlt
    have hok := h2 _ (List.getElem_mem hlt)
    generalize l[i] = x at hfl hst hok ⊢
    refine ⟨(b ++ vE l.length ++ ((l.take i).map en109).flatten, x), ?_⟩
    conv => whnf
    refine And.intro (by simp only [allP, List.nil_append, List.cons_append, true_and]; repeat' (first | assumption | rfl | trivial | (rw [List.length_append, List.length_append]; omega) | refine And.intro ?_ ?_ | omega)) ?_
    conv => whnf
    refine ⟨⟨i + 1, by omega⟩, by simp only; omega, ?_⟩
    conv => whnf
    rw [hst]
    and_intros <;> first | rfl | (rw [wrap_i64 (by omega) (by omega)]; rfl) | (rw [List.append_assoc]; rfl) | (rw [← List.append_assoc]; rfl)
  · rw [decide_eq_false (show ¬ (i : Int) < (l.length : Int) by omega)]
    conv => whnf
    rw [List.take_of_length_le (by omega), List.append_assoc]
    first | done | (and_intros <;> rfl)
theorem Lparts_1_sound : Sound Tryz.prog 171 cLparts_1 := does_sound mixed tabOk_prog gP21_ok Tryz.func171 Lparts_1_does
def gP22 : List (FuncId × Ctr) := (171, cLparts_1) :: gP21
theorem gP22_ok : GamOk Tryz.prog gP22 := GamOk.cons gP21_ok Tryz.func171 (by kernel_rfl) (by kernel_rfl) Lparts_1_sound
abbrev cOparts : Ctr := cO en28 (fun x : S28 => .agg ((pv28 x).map avOf)) ok28
theorem Oparts_does : Does gP22 tab Tryz.f130 cOparts := by
  rintro ⟨b, x⟩ ⟨hx, h3⟩
  obtain ⟨k0, k1, k2, k3⟩ := hx
  (set_option smartUnfolding false in conv => whnf)
  refine ⟨(b, ([x.1, x.2.1] : List Int)), ?_⟩
  conv => whnf
  refine And.intro (by simp only [allP, List.nil_append, List.cons_append, true_and]; repeat' (first | assumption | rfl | trivial | exact List.cons_ne_nil _ _ | (intro m hm; simp only [List.mem_cons, List.not_mem_nil, or_false] at hm; rcases hm with rfl | rfl <;> first | exact kind_r _ | (apply int_r; assumption)) | (simp only [List.length_cons, List.length_nil]; omega) | (simp only [en28, nsB_c, nsB_n, tsB_c, tsB_n, List.length_append, List.length_nil] at h3 ⊢; omega) | refine And.intro ?_ ?_ | omega)) ?_
  (set_option smartUnfolding false in conv => whnf)
  refine ⟨((b ++ nsB [x.1, x.2.1]), x.2.2.1), ?_⟩
  conv => whnf
  refine And.intro (by simp only [allP, List.nil_append, List.cons_append, true_and]; repeat' (first | assumption | rfl | trivial | exact k2.1 | exact k2.2.2 | (intros; trivial) | (simp only [en28, nsB_c, nsB_n, tsB_c, tsB_n, List.length_append, List.length_nil] at h3 ⊢; omega) | refine And.intro ?_ ?_ | omega)) ?_
  (set_option smartUnfolding false in conv => whnf)
  refine ⟨(((b ++ nsB [x.1, x.2.1]) ++ lsB recB x.2.2.1), x.2.2.2), ?_⟩
  conv => whnf
  refine And.intro (by simp only [allP, List.nil_append, List.cons_append, true_and]; repeat' (first | assumption | rfl | trivial | exact k3.1 | exact k3.2.2 | (intros; trivial) | (simp only [en28, nsB_c, nsB_n, tsB_c, tsB_n, List.length_append, List.length_nil] at h3 ⊢; omega) | refine And.intro ?_ ?_ | omega)) ?_
  (set_option smartUnfolding false in conv => whnf)
  rw [show b ++ en28 x = (((b ++ nsB [x.1, x.2.1]) ++ lsB recB x.2.2.1) ++ lsB en109 x.2.2.2) from by simp only [en28, nsB_c, nsB_n, tsB_c, tsB_n, List.append_assoc, List.append_nil]]
  first | done | (and_intros <;> rfl)
theorem Oparts_sound : Sound Tryz.prog 130 cOparts := does_sound mixed tabOk_prog gP22_ok Tryz.func130 Oparts_does
def gP23 : List (FuncId × Ctr) := (130, cOparts) :: gP22
theorem gP23_ok : GamOk Tryz.prog gP23 := GamOk.cons gP22_ok Tryz.func130 (by kernel_rfl) (by kernel_rfl) Oparts_sound
abbrev cEgroup_1 : Ctr := ⟨List UInt8 × S192, 3, fun (b, x) => [.agg ((pv192 x).map avOf), .ptr 2 0], fun (b, x) => [(0, .box [.rowf 1]), (1, .row 5 1 true false (bl b)), (2, .box [.ptr 0 0])],
  fun (b, x) => ok192 x ∧ b.length + (en192 x).length ≤ 1000000000000, fun _ => .tuple [], fun (b, x) => [(0, .box [.rowf 3]), (2, .box [.ptr 0 0]), (3, .row 5 1 true false (bl (b ++ en192 x)))]⟩
theorem Egroup_1_does : Does gP23 tab Tryz.f199 cEgroup_1 := by
  rintro ⟨b, x⟩ ⟨hx, h3⟩
  obtain ⟨k0, k1, k2⟩ := hx
  (set_option smartUnfolding false in conv => whnf)
  refine dI (k := ?_)
  (set_option smartUnfolding false in conv => whnf)
  refine ⟨(b, x.1), ?_⟩
  conv => whnf
  refine And.intro (by simp only [allP, List.nil_append, List.cons_append, true_and]; repeat' (first | assumption | rfl | trivial | exact k0.1 | exact k0.2.2 | (intros; trivial) | (simp only [en192, nsB_c, nsB_n, tsB_c, tsB_n, List.length_append, List.length_nil] at h3 ⊢; omega) | refine And.intro ?_ ?_ | omega)) ?_
  (set_option smartUnfolding false in conv => whnf)
  refine ⟨((b ++ en190 x.1), ([x.2.1] : List Int)), ?_⟩
  conv => whnf
  refine And.intro (by simp only [allP, List.nil_append, List.cons_append, true_and]; repeat' (first | assumption | rfl | trivial | exact List.cons_ne_nil _ _ | (intro m hm; simp only [List.mem_cons, List.not_mem_nil, or_false] at hm; rcases hm with rfl <;> first | exact kind_r _ | (apply int_r; assumption)) | (simp only [List.length_cons, List.length_nil]; omega) | (simp only [en192, nsB_c, nsB_n, tsB_c, tsB_n, List.length_append, List.length_nil] at h3 ⊢; omega) | refine And.intro ?_ ?_ | omega)) ?_
  (set_option smartUnfolding false in conv => whnf)
  refine ⟨(((b ++ en190 x.1) ++ nsB [x.2.1]), x.2.2), ?_⟩
  conv => whnf
  refine And.intro (by simp only [allP, List.nil_append, List.cons_append, true_and]; repeat' (first | assumption | rfl | trivial | exact k2.1 | exact k2.2.2 | (intros; trivial) | (simp only [en192, nsB_c, nsB_n, tsB_c, tsB_n, List.length_append, List.length_nil] at h3 ⊢; omega) | refine And.intro ?_ ?_ | omega)) ?_
  (set_option smartUnfolding false in conv => whnf)
  rw [show b ++ en192 x = (((b ++ en190 x.1) ++ nsB [x.2.1]) ++ boB x.2.2) from by simp only [en192, nsB_c, nsB_n, tsB_c, tsB_n, List.append_assoc, List.append_nil]]
  first | done | (and_intros <;> rfl)
theorem Egroup_1_sound : Sound Tryz.prog 199 cEgroup_1 := does_sound mixed tabOk_prog gP23_ok Tryz.func199 Egroup_1_does
def gP24 : List (FuncId × Ctr) := (199, cEgroup_1) :: gP23
theorem gP24_ok : GamOk Tryz.prog gP24 := GamOk.cons gP23_ok Tryz.func199 (by kernel_rfl) (by kernel_rfl) Egroup_1_sound
abbrev cLgroup_1 : Ctr := ⟨List UInt8 × List S192, 3, fun (b, l) => [.ptr 0 0, .p false (.sl 4 ((fun l : List S192 => l.map fun x => elOf (pv192 x)) l)), .func 199 [] [.ptr 2 0]], fun (b, l) => [(0, .box [.rowf 1]), (1, .row 5 1 true false (bl b)), (2, .box [.ptr 0 0])],
  fun (b, l) => (l.length ≤ 140737488351232 ∧ ∀ x ∈ l, ok192 x) ∧ b.length + (lsB en192 l).length ≤ 1000000000000, fun _ => .tuple [], fun (b, l) => [(0, .box [.rowf 3]), (2, .box [.ptr 0 0]), (3, .row 5 1 true false (bl (b ++ lsB en192 l)))]⟩
theorem Lgroup_1_does : Does gP24 tab Tryz.f198 cLgroup_1 := by
  rintro ⟨b, l⟩ ⟨⟨h1, h2⟩, h3⟩
  have hil : ((fun l : List S192 => l.map fun x => elOf (pv192 x)) l).length = l.length := List.length_map ..
  have h3' : b.length + ((vE l.length).length + (l.map en192).flatten.length) ≤ 1000000000000 := by rw [lsB, List.length_append] at h3; exact h3
  conv => whnf
  rw [hil]
  refine ⟨(b, l.length), ?_⟩
  conv => whnf
  refine And.intro (by simp only [allP, List.nil_append, List.cons_append, true_and]; repeat' (first | assumption | rfl | trivial | refine And.intro ?_ ?_ | omega)) ?_
  conv => whnf
  rw [hil]
  refine ⟨{i : Nat // i ≤ l.length}, fun i => ⟨[(2, .func 199 [] [.ptr 2 0]), (12, .p false (.sl 4 ((fun l : List S192 => l.map fun x => elOf (pv192 x)) l))), (13, isI .i64 l.length), (14, isI .i64 i.1)], [(0, .box [.rowf 3]), (1, .gone), (2, .box [.ptr 0 0]), (3, .row 5 1 true false (bl (b ++ vE l.length ++ ((l.take i.1).map en192).flatten)))], 99⟩, fun i => l.length - i.1, ⟨⟨0, Nat.zero_le _⟩, ?_⟩, ?_⟩
  · conv => whnf
    rw [List.take_zero, List.map_nil, List.flatten_nil, List.append_nil]
    first | done | (and_intros <;> rfl)
  rintro ⟨i, hi⟩
  show aw _ _ _ _ _ _ ⟨[(2, .func 199 [] [.ptr 2 0]), (12, .p false (.sl 4 ((fun l : List S192 => l.map fun x => elOf (pv192 x)) l))), (13, isI .i64 l.length), (14, isI .i64 i)], [(0, .box [.rowf 3]), (1, .gone), (2, .box [.ptr 0 0]), (3, .row 5 1 true false (bl (b ++ vE l.length ++ ((l.take i).map en192).flatten)))], 99⟩
  conv => whnf
  by_cases hlt : i < l.length
  · rw [decide_eq_true (show (i : Int) < (l.length : Int) by omega)]
    conv => whnf
    refine And.intro (by simp only [allP, List.nil_append, List.cons_append, true_and]; rw [hil]; omega) ?_
    conv => whnf
    rw [Int.toNat_natCast, map_getD (fun x => elOf (pv192 x)) l i _ hlt]
    conv => whnf
    refine dI (k := ?_)
    conv => whnf
    refine dI (k := ?_)
    conv => whnf
    refine dI (k := ?_)
    conv => whnf
    have hfl := flat_one_len en192 hlt
    have hst := flat_step en192 hlt
    have hok := h2 _ (List.getElem_mem hlt)
    generalize l[i] = x at hfl hst hok ⊢
    refine ⟨(b ++ vE l.length ++ ((l.take i).map en192).flatten, x), ?_⟩
    conv => whnf
    refine And.intro (by simp only [allP, List.nil_append, List.cons_append, true_and]; repeat' (first | assumption | rfl | trivial | (rw [List.length_append, List.length_append]; omega) | refine And.intro ?_ ?_ | omega)) ?_
    conv => whnf
    refine ⟨⟨i + 1, by omega⟩, by simp only; omega, ?_⟩
    conv => whnf
    rw [hst]
    and_intros <;> first | rfl | (rw [wrap_i64 (by omega) (by omega)]; rfl) | (rw [List.append_assoc]; rfl) | (rw [← List.append_assoc]; rfl)
  · rw [decide_eq_false (show ¬ (i : Int) < (l.length : Int) by omega)]
    conv => whnf
    rw [List.take_of_length_le (by omega), List.append_assoc]
    first | done | (and_intros <;> rfl)
theorem Lgroup_1_sound : Sound Tryz.prog 198 cLgroup_1 := does_sound mixed tabOk_prog gP24_ok Tryz.func198 Lgroup_1_does
def gP25 : List (FuncId × Ctr) := (198, cLgroup_1) :: gP24
theorem gP25_ok : GamOk Tryz.prog gP25 := GamOk.cons gP24_ok Tryz.func198 (by kernel_rfl) (by kernel_rfl) Lgroup_1_sound
abbrev cEgroup_2 : Ctr := ⟨List UInt8 × S195, 3, fun (b, x) => [.agg ((pv195 x).map avOf), .ptr 2 0], fun (b, x) => [(0, .box [.rowf 1]), (1, .row 5 1 true false (bl b)), (2, .box [.ptr 0 0])],
  fun (b, x) => ok195 x ∧ b.length + (en195 x).length ≤ 1000000000000, fun _ => .tuple [], fun (b, x) => [(0, .box [.rowf 3]), (2, .box [.ptr 0 0]), (3, .row 5 1 true false (bl (b ++ en195 x)))]⟩
theorem Egroup_2_does : Does gP25 tab Tryz.f202 cEgroup_2 := by
  rintro ⟨b, x⟩ ⟨hx, h3⟩
  obtain ⟨k0, k1⟩ := hx
  (set_option smartUnfolding false in conv => whnf)
  refine ⟨(b, ([x.1] : List ByteArray)), ?_⟩
  conv => whnf
  refine And.intro (by simp only [allP, List.nil_append, List.cons_append, true_and]; repeat' (first | assumption | rfl | trivial | exact List.cons_ne_nil _ _ | (simp only [List.length_cons, List.length_nil]; omega) | (simp only [en195, nsB_c, nsB_n, tsB_c, tsB_n, List.length_append, List.length_nil] at h3 ⊢; omega) | refine And.intro ?_ ?_ | omega)) ?_
  (set_option smartUnfolding false in conv => whnf)
  refine ⟨((b ++ tsB [x.1]), x.2), ?_⟩
  conv => whnf
  refine And.intro (by simp only [allP, List.nil_append, List.cons_append, true_and]; repeat' (first | assumption | rfl | trivial | exact k1.1 | exact k1.2.2 | (intros; trivial) | (simp only [en195, nsB_c, nsB_n, tsB_c, tsB_n, List.length_append, List.length_nil] at h3 ⊢; omega) | refine And.intro ?_ ?_ | omega)) ?_
  (set_option smartUnfolding false in conv => whnf)
  rw [show b ++ en195 x = ((b ++ tsB [x.1]) ++ lsB en55 x.2) from by simp only [en195, nsB_c, nsB_n, tsB_c, tsB_n, List.append_assoc, List.append_nil]]
  first | done | (and_intros <;> rfl)
theorem Egroup_2_sound : Sound Tryz.prog 202 cEgroup_2 := does_sound mixed tabOk_prog gP25_ok Tryz.func202 Egroup_2_does
def gP26 : List (FuncId × Ctr) := (202, cEgroup_2) :: gP25
theorem gP26_ok : GamOk Tryz.prog gP26 := GamOk.cons gP25_ok Tryz.func202 (by kernel_rfl) (by kernel_rfl) Egroup_2_sound
abbrev cLgroup_2 : Ctr := ⟨List UInt8 × List S195, 3, fun (b, l) => [.ptr 0 0, .p false (.sl 2 ((fun l : List S195 => l.map fun x => elOf (pv195 x)) l)), .func 202 [] [.ptr 2 0]], fun (b, l) => [(0, .box [.rowf 1]), (1, .row 5 1 true false (bl b)), (2, .box [.ptr 0 0])],
  fun (b, l) => (l.length ≤ 140737488351232 ∧ ∀ x ∈ l, ok195 x) ∧ b.length + (lsB en195 l).length ≤ 1000000000000, fun _ => .tuple [], fun (b, l) => [(0, .box [.rowf 3]), (2, .box [.ptr 0 0]), (3, .row 5 1 true false (bl (b ++ lsB en195 l)))]⟩
theorem Lgroup_2_does : Does gP26 tab Tryz.f201 cLgroup_2 := by
  rintro ⟨b, l⟩ ⟨⟨h1, h2⟩, h3⟩
  have hil : ((fun l : List S195 => l.map fun x => elOf (pv195 x)) l).length = l.length := List.length_map ..
  have h3' : b.length + ((vE l.length).length + (l.map en195).flatten.length) ≤ 1000000000000 := by rw [lsB, List.length_append] at h3; exact h3
  conv => whnf
  rw [hil]
  refine ⟨(b, l.length), ?_⟩
  conv => whnf
  refine And.intro (by simp only [allP, List.nil_append, List.cons_append, true_and]; repeat' (first | assumption | rfl | trivial | refine And.intro ?_ ?_ | omega)) ?_
  conv => whnf
  rw [hil]
  refine ⟨{i : Nat // i ≤ l.length}, fun i => ⟨[(2, .func 202 [] [.ptr 2 0]), (12, .p false (.sl 2 ((fun l : List S195 => l.map fun x => elOf (pv195 x)) l))), (13, isI .i64 l.length), (14, isI .i64 i.1)], [(0, .box [.rowf 3]), (1, .gone), (2, .box [.ptr 0 0]), (3, .row 5 1 true false (bl (b ++ vE l.length ++ ((l.take i.1).map en195).flatten)))], 99⟩, fun i => l.length - i.1, ⟨⟨0, Nat.zero_le _⟩, ?_⟩, ?_⟩
  · conv => whnf
    rw [List.take_zero, List.map_nil, List.flatten_nil, List.append_nil]
    first | done | (and_intros <;> rfl)
  rintro ⟨i, hi⟩
  show aw _ _ _ _ _ _ ⟨[(2, .func 202 [] [.ptr 2 0]), (12, .p false (.sl 2 ((fun l : List S195 => l.map fun x => elOf (pv195 x)) l))), (13, isI .i64 l.length), (14, isI .i64 i)], [(0, .box [.rowf 3]), (1, .gone), (2, .box [.ptr 0 0]), (3, .row 5 1 true false (bl (b ++ vE l.length ++ ((l.take i).map en195).flatten)))], 99⟩
  conv => whnf
  by_cases hlt : i < l.length
  · rw [decide_eq_true (show (i : Int) < (l.length : Int) by omega)]
    conv => whnf
    refine And.intro (by simp only [allP, List.nil_append, List.cons_append, true_and]; rw [hil]; omega) ?_
    conv => whnf
    rw [Int.toNat_natCast, map_getD (fun x => elOf (pv195 x)) l i _ hlt]
    conv => whnf
    refine dI (k := ?_)
    conv => whnf
    refine dI (k := ?_)
    conv => whnf
    refine dI (k := ?_)
    conv => whnf
    have hfl := flat_one_len en195 hlt
    have hst := flat_step en195 hlt
    have hok := h2 _ (List.getElem_mem hlt)
    generalize l[i] = x at hfl hst hok ⊢
    refine ⟨(b ++ vE l.length ++ ((l.take i).map en195).flatten, x), ?_⟩
    conv => whnf
    refine And.intro (by simp only [allP, List.nil_append, List.cons_append, true_and]; repeat' (first | assumption | rfl | trivial | (rw [List.length_append, List.length_append]; omega) | refine And.intro ?_ ?_ | omega)) ?_
    conv => whnf
    refine ⟨⟨i + 1, by omega⟩, by simp only; omega, ?_⟩
    conv => whnf
    rw [hst]
    and_intros <;> first | rfl | (rw [wrap_i64 (by omega) (by omega)]; rfl) | (rw [List.append_assoc]; rfl) | (rw [← List.append_assoc]; rfl)
  · rw [decide_eq_false (show ¬ (i : Int) < (l.length : Int) by omega)]
    conv => whnf
    rw [List.take_of_length_le (by omega), List.append_assoc]
    first | done | (and_intros <;> rfl)
theorem Lgroup_2_sound : Sound Tryz.prog 201 cLgroup_2 := does_sound mixed tabOk_prog gP26_ok Tryz.func201 Lgroup_2_does
def gP27 : List (FuncId × Ctr) := (201, cLgroup_2) :: gP26
theorem gP27_ok : GamOk Tryz.prog gP27 := GamOk.cons gP26_ok Tryz.func201 (by kernel_rfl) (by kernel_rfl) Lgroup_2_sound
abbrev cEgroup_3 : Ctr := ⟨List UInt8 × S199, 3, fun (b, x) => [.agg ((pv199 x).map avOf), .ptr 2 0], fun (b, x) => [(0, .box [.rowf 1]), (1, .row 5 1 true false (bl b)), (2, .box [.ptr 0 0])],
  fun (b, x) => ok199 x ∧ b.length + (en199 x).length ≤ 1000000000000, fun _ => .tuple [], fun (b, x) => [(0, .box [.rowf 3]), (2, .box [.ptr 0 0]), (3, .row 5 1 true false (bl (b ++ en199 x)))]⟩
theorem Egroup_3_does : Does gP27 tab Tryz.f205 cEgroup_3 := by
  rintro ⟨b, x⟩ ⟨hx, h3⟩
  obtain ⟨k0, k1⟩ := hx
  (set_option smartUnfolding false in conv => whnf)
  refine dI (k := ?_)
  (set_option smartUnfolding false in conv => whnf)
  refine ⟨(b, x.1), ?_⟩
  conv => whnf
  refine And.intro (by simp only [allP, List.nil_append, List.cons_append, true_and]; repeat' (first | assumption | rfl | trivial | exact k0.1 | exact k0.2.2 | (intros; trivial) | (simp only [en199, nsB_c, nsB_n, tsB_c, tsB_n, List.length_append, List.length_nil] at h3 ⊢; omega) | refine And.intro ?_ ?_ | omega)) ?_
  (set_option smartUnfolding false in conv => whnf)
  refine ⟨((b ++ en55 x.1), ([x.2] : List Int)), ?_⟩
  conv => whnf
  refine And.intro (by simp only [allP, List.nil_append, List.cons_append, true_and]; repeat' (first | assumption | rfl | trivial | exact List.cons_ne_nil _ _ | (intro m hm; simp only [List.mem_cons, List.not_mem_nil, or_false] at hm; rcases hm with rfl <;> first | exact kind_r _ | (apply int_r; assumption)) | (simp only [List.length_cons, List.length_nil]; omega) | (simp only [en199, nsB_c, nsB_n, tsB_c, tsB_n, List.length_append, List.length_nil] at h3 ⊢; omega) | refine And.intro ?_ ?_ | omega)) ?_
  (set_option smartUnfolding false in conv => whnf)
  rw [show b ++ en199 x = ((b ++ en55 x.1) ++ nsB [x.2]) from by simp only [en199, nsB_c, nsB_n, tsB_c, tsB_n, List.append_assoc, List.append_nil]]
  first | done | (and_intros <;> rfl)
theorem Egroup_3_sound : Sound Tryz.prog 205 cEgroup_3 := does_sound mixed tabOk_prog gP27_ok Tryz.func205 Egroup_3_does
def gP28 : List (FuncId × Ctr) := (205, cEgroup_3) :: gP27
theorem gP28_ok : GamOk Tryz.prog gP28 := GamOk.cons gP27_ok Tryz.func205 (by kernel_rfl) (by kernel_rfl) Egroup_3_sound
abbrev cLgroup_3 : Ctr := ⟨List UInt8 × List S199, 3, fun (b, l) => [.ptr 0 0, .p false (.sl 3 ((fun l : List S199 => l.map fun x => elOf (pv199 x)) l)), .func 205 [] [.ptr 2 0]], fun (b, l) => [(0, .box [.rowf 1]), (1, .row 5 1 true false (bl b)), (2, .box [.ptr 0 0])],
  fun (b, l) => (l.length ≤ 140737488351232 ∧ ∀ x ∈ l, ok199 x) ∧ b.length + (lsB en199 l).length ≤ 1000000000000, fun _ => .tuple [], fun (b, l) => [(0, .box [.rowf 3]), (2, .box [.ptr 0 0]), (3, .row 5 1 true false (bl (b ++ lsB en199 l)))]⟩
theorem Lgroup_3_does : Does gP28 tab Tryz.f204 cLgroup_3 := by
  rintro ⟨b, l⟩ ⟨⟨h1, h2⟩, h3⟩
  have hil : ((fun l : List S199 => l.map fun x => elOf (pv199 x)) l).length = l.length := List.length_map ..
  have h3' : b.length + ((vE l.length).length + (l.map en199).flatten.length) ≤ 1000000000000 := by rw [lsB, List.length_append] at h3; exact h3
  conv => whnf
  rw [hil]
  refine ⟨(b, l.length), ?_⟩
  conv => whnf
  refine And.intro (by simp only [allP, List.nil_append, List.cons_append, true_and]; repeat' (first | assumption | rfl | trivial | refine And.intro ?_ ?_ | omega)) ?_
  conv => whnf
  rw [hil]
  refine ⟨{i : Nat // i ≤ l.length}, fun i => ⟨[(2, .func 205 [] [.ptr 2 0]), (12, .p false (.sl 3 ((fun l : List S199 => l.map fun x => elOf (pv199 x)) l))), (13, isI .i64 l.length), (14, isI .i64 i.1)], [(0, .box [.rowf 3]), (1, .gone), (2, .box [.ptr 0 0]), (3, .row 5 1 true false (bl (b ++ vE l.length ++ ((l.take i.1).map en199).flatten)))], 99⟩, fun i => l.length - i.1, ⟨⟨0, Nat.zero_le _⟩, ?_⟩, ?_⟩
  · conv => whnf
    rw [List.take_zero, List.map_nil, List.flatten_nil, List.append_nil]
    first | done | (and_intros <;> rfl)
  rintro ⟨i, hi⟩
  show aw _ _ _ _ _ _ ⟨[(2, .func 205 [] [.ptr 2 0]), (12, .p false (.sl 3 ((fun l : List S199 => l.map fun x => elOf (pv199 x)) l))), (13, isI .i64 l.length), (14, isI .i64 i)], [(0, .box [.rowf 3]), (1, .gone), (2, .box [.ptr 0 0]), (3, .row 5 1 true false (bl (b ++ vE l.length ++ ((l.take i).map en199).flatten)))], 99⟩
  conv => whnf
  by_cases hlt : i < l.length
  · rw [decide_eq_true (show (i : Int) < (l.length : Int) by omega)]
    conv => whnf
    refine And.intro (by simp only [allP, List.nil_append, List.cons_append, true_and]; rw [hil]; omega) ?_
    conv => whnf
    rw [Int.toNat_natCast, map_getD (fun x => elOf (pv199 x)) l i _ hlt]
    conv => whnf
    refine dI (k := ?_)
    conv => whnf
    refine dI (k := ?_)
    conv => whnf
    refine dI (k := ?_)
    conv => whnf
    have hfl := flat_one_len en199 hlt
    have hst := flat_step en199 hlt
    have hok := h2 _ (List.getElem_mem hlt)
    generalize l[i] = x at hfl hst hok ⊢
    refine ⟨(b ++ vE l.length ++ ((l.take i).map en199).flatten, x), ?_⟩
    conv => whnf
    refine And.intro (by simp only [allP, List.nil_append, List.cons_append, true_and]; repeat' (first | assumption | rfl | trivial | (rw [List.length_append, List.length_append]; omega) | refine And.intro ?_ ?_ | omega)) ?_
    conv => whnf
    refine ⟨⟨i + 1, by omega⟩, by simp only; omega, ?_⟩
    conv => whnf
    rw [hst]
    and_intros <;> first | rfl | (rw [wrap_i64 (by omega) (by omega)]; rfl) | (rw [List.append_assoc]; rfl) | (rw [← List.append_assoc]; rfl)
  · rw [decide_eq_false (show ¬ (i : Int) < (l.length : Int) by omega)]
    conv => whnf
    rw [List.take_of_length_le (by omega), List.append_assoc]
    first | done | (and_intros <;> rfl)
theorem Lgroup_3_sound : Sound Tryz.prog 204 cLgroup_3 := does_sound mixed tabOk_prog gP28_ok Tryz.func204 Lgroup_3_does
def gP29 : List (FuncId × Ctr) := (204, cLgroup_3) :: gP28
theorem gP29_ok : GamOk Tryz.prog gP29 := GamOk.cons gP28_ok Tryz.func204 (by kernel_rfl) (by kernel_rfl) Lgroup_3_sound
end Go.Proofs.YtingmlhhabaplaaGreat.Ev
