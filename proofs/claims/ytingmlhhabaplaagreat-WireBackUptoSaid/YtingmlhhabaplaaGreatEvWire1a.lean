/- Wire: what the program puts together: texts, rows, batches. No conditions. -/
import Derived.Test.YtingmlhhabaplaaGreatEvWire0
import Derived.Test.YtingmlhhabaplaaGreatCtr
namespace Go.Proofs.YtingmlhhabaplaaGreat.Ev
open Go
set_option linter.unusedVariables false
set_option linter.unusedSimpArgs false
set_option maxRecDepth 100000
set_option maxHeartbeats 4000000
def en46 (y : S46) : List UInt8 := nuB y.1 ++ (nuB y.2.1 ++ (nuB y.2.2.1 ++ (lsB recB y.2.2.2)))
def en55 (y : S55) : List UInt8 := txB y.1 ++ (nuB y.2)
def en48 (y : S48) : List UInt8 := nuB ((y.1).toNat : Int) ++ (en46 y.2.1 ++ (nuB y.2.2))
def en57 (y : S57) : List UInt8 := nuB ((y.1).toNat : Int) ++ (txB y.2.1 ++ (txB y.2.2.1 ++ (nuB y.2.2.2.1 ++ (lsB txB y.2.2.2.2.1 ++ (en55 y.2.2.2.2.2.1 ++ (nuB y.2.2.2.2.2.2.1 ++ (nuB y.2.2.2.2.2.2.2.1 ++ (nuB y.2.2.2.2.2.2.2.2.1 ++ (nuB y.2.2.2.2.2.2.2.2.2)))))))))
def en70 (y : S70) : List UInt8 := nuB y.1 ++ (nuB y.2.1 ++ (nuB y.2.2.1 ++ (nuB y.2.2.2.1 ++ (nuB ((y.2.2.2.2.1).toNat : Int) ++ (lsB en55 y.2.2.2.2.2)))))
def en153 (y : S153) : List UInt8 := nuB y.1 ++ (recB y.2)
def en79 (y : S79) : List UInt8 := txB y.1 ++ (nuB ((y.2.1).toNat : Int) ++ (nuB y.2.2.1 ++ (nuB y.2.2.2.1 ++ (nuB y.2.2.2.2.1 ++ (nuB y.2.2.2.2.2.1 ++ (nuB y.2.2.2.2.2.2.1 ++ (nuB y.2.2.2.2.2.2.2.1 ++ (nuB y.2.2.2.2.2.2.2.2.1 ++ (boB y.2.2.2.2.2.2.2.2.2.1 ++ (lsB en153 y.2.2.2.2.2.2.2.2.2.2.1 ++ (recB y.2.2.2.2.2.2.2.2.2.2.2)))))))))))
def en63 (y : S63) : List UInt8 := nuB ((y.1).toNat : Int) ++ (nuB y.2.1 ++ (nuB y.2.2.1 ++ (txB y.2.2.2.1 ++ (nuB y.2.2.2.2.1 ++ (en46 y.2.2.2.2.2.1 ++ (nuB y.2.2.2.2.2.2.1 ++ (nuB y.2.2.2.2.2.2.2.1 ++ (nuB y.2.2.2.2.2.2.2.2.1 ++ (en57 y.2.2.2.2.2.2.2.2.2)))))))))
def en72 (y : S72) : List UInt8 := nuB ((y.1).toNat : Int) ++ (nuB y.2.1 ++ (nuB y.2.2.1 ++ (nuB y.2.2.2.1 ++ (nuB y.2.2.2.2.1 ++ (nuB y.2.2.2.2.2.1 ++ (nuB y.2.2.2.2.2.2.1 ++ (nuB y.2.2.2.2.2.2.2.1 ++ (boB y.2.2.2.2.2.2.2.2.1 ++ (lsB recB y.2.2.2.2.2.2.2.2.2.1 ++ (en70 y.2.2.2.2.2.2.2.2.2.2))))))))))
def en190 (y : S190) : List UInt8 := txB y.1 ++ (lsB txB y.2)
def en111 (y : S111) : List UInt8 := nuB y.1 ++ (nuB y.2.1 ++ (nuB y.2.2))
def en109 (y : S109) : List UInt8 := nuB y.1 ++ (nuB y.2.1 ++ (nuB y.2.2.1 ++ (lsB en111 y.2.2.2)))
def en28 (y : S28) : List UInt8 := nuB y.1 ++ (nuB y.2.1 ++ (lsB recB y.2.2.1 ++ (lsB en109 y.2.2.2)))
def en192 (y : S192) : List UInt8 := en190 y.1 ++ (nuB y.2.1 ++ (boB y.2.2))
def en195 (y : S195) : List UInt8 := txB y.1 ++ (lsB en55 y.2)
def en199 (y : S199) : List UInt8 := en55 y.1 ++ (nuB y.2)
def en124 (y : S124) : List UInt8 := txB y.1 ++ (nuB y.2.1 ++ (nuB ((y.2.2.1).toNat : Int) ++ (nuB y.2.2.2.1 ++ (lsB en192 y.2.2.2.2.1 ++ (lsB en195 y.2.2.2.2.2.1 ++ (lsB en199 y.2.2.2.2.2.2))))))
def en117 (y : S117) : List UInt8 := txB y.1 ++ (nuB y.2)
def en119 (y : S119) : List UInt8 := txB y.1 ++ (nuB y.2.1 ++ (nuB y.2.2))
def en130 (y : S130) : List UInt8 := nuB y.1 ++ (en70 y.2)
def en128 (y : S128) : List UInt8 := nuB y.1 ++ (nuB y.2.1 ++ (lsB en130 y.2.2))
def en37 (y : S37) : List UInt8 := nuB y.1 ++ (lsB en117 y.2.1 ++ (lsB en119 y.2.2.1 ++ (lsB en124 y.2.2.2.1 ++ (lsB en128 y.2.2.2.2))))
theorem nsB_c (n : Int) (l : List Int) : nsB (n :: l) = nuB n ++ nsB l := rfl
theorem nsB_n : nsB [] = [] := rfl
theorem tsB_c (n : ByteArray) (l : List ByteArray) : tsB (n :: l) = txB n ++ tsB l := rfl
theorem tsB_n : tsB [] = [] := rfl
theorem kind_w (c : UInt8) : IntKind.i64.wrap ((c.toNat : Nat) : Int) = (c.toNat : Nat) := wrap_i64n (by have := u8_lt c; omega)
theorem kind_r (c : UInt8) : i64R ((c.toNat : Nat) : Int) := by have := u8_lt c; unfold i64R; omega
theorem int_r {x : Int} (h : (Lit.int .i64 x).wf = true) : i64R x := wf_i64 h
abbrev cEtexts_1 : Ctr := ⟨List UInt8 × ByteArray, 3, fun (b, x) => [.p true (.str x), .ptr 2 0], fun (b, x) => [(0, .box [.rowf 1]), (1, .row 5 1 true false (bl b)), (2, .box [.ptr 0 0])],
  fun (b, x) => True ∧ b.length + (txB x).length ≤ 1000000000000, fun _ => .tuple [], fun (b, x) => [(0, .box [.rowf 3]), (2, .box [.ptr 0 0]), (3, .row 5 1 true false (bl (b ++ txB x)))]⟩
theorem Etexts_1_does : Does gW4 tab Tryz.f196 cEtexts_1 := by
  rintro ⟨b, x⟩ ⟨-, h3⟩
  conv => whnf
  refine ⟨(b, [x]), ?_⟩
  conv => whnf
  refine And.intro (by simp only [allP, List.nil_append, List.cons_append, true_and]; and_intros <;> first | rfl | exact List.cons_ne_nil _ _ | (simp only [tsB_c, tsB_n, List.append_nil]; omega) | (simp; done)) ?_
  conv => whnf
  rw [tsB_c, tsB_n, List.append_nil]
  first | done | (and_intros <;> rfl)
theorem Etexts_1_sound : Sound Tryz.prog 196 cEtexts_1 := does_sound mixed tabOk_prog gW4_ok Tryz.func196 Etexts_1_does
def gP1 : List (FuncId × Ctr) := (196, cEtexts_1) :: gW4
theorem gP1_ok : GamOk Tryz.prog gP1 := GamOk.cons gW4_ok Tryz.func196 (by kernel_rfl) (by kernel_rfl) Etexts_1_sound
abbrev cLtexts : Ctr := ⟨List UInt8 × List ByteArray, 3, fun (b, l) => [.ptr 0 0, .p false (.sl 1 (tl l)), .func 196 [] [.ptr 2 0]], fun (b, l) => [(0, .box [.rowf 1]), (1, .row 5 1 true false (bl b)), (2, .box [.ptr 0 0])],
  fun (b, l) => (l.length ≤ 140737488351232 ∧ ∀ x ∈ l, True) ∧ b.length + (lsB txB l).length ≤ 1000000000000, fun _ => .tuple [], fun (b, l) => [(0, .box [.rowf 3]), (2, .box [.ptr 0 0]), (3, .row 5 1 true false (bl (b ++ lsB txB l)))]⟩
theorem Ltexts_does : Does gP1 tab Tryz.f195 cLtexts := by
  rintro ⟨b, l⟩ ⟨⟨h1, h2⟩, h3⟩
  have hil : (tl l).length = l.length := List.length_map ..
  have h3' : b.length + ((vE l.length).length + (l.map txB).flatten.length) ≤ 1000000000000 := by rw [lsB, List.length_append] at h3; exact h3
  conv => whnf
  rw [hil]
  refine ⟨(b, l.length), ?_⟩
  conv => whnf
  refine And.intro (by simp only [allP, List.nil_append, List.cons_append, true_and]; repeat' (first | assumption | rfl | trivial | refine And.intro ?_ ?_ | omega)) ?_
  conv => whnf
  rw [hil]
  refine ⟨{i : Nat // i ≤ l.length}, fun i => ⟨[(2, .func 196 [] [.ptr 2 0]), (12, .p false (.sl 1 (tl l))), (13, isI .i64 l.length), (14, isI .i64 i.1)], [(0, .box [.rowf 3]), (1, .gone), (2, .box [.ptr 0 0]), (3, .row 5 1 true false (bl (b ++ vE l.length ++ ((l.take i.1).map txB).flatten)))], 99⟩, fun i => l.length - i.1, ⟨⟨0, Nat.zero_le _⟩, ?_⟩, ?_⟩
  · conv => whnf
    rw [List.take_zero, List.map_nil, List.flatten_nil, List.append_nil]
    first | done | (and_intros <;> rfl)
  rintro ⟨i, hi⟩
  show aw _ _ _ _ _ _ ⟨[(2, .func 196 [] [.ptr 2 0]), (12, .p false (.sl 1 (tl l))), (13, isI .i64 l.length), (14, isI .i64 i)], [(0, .box [.rowf 3]), (1, .gone), (2, .box [.ptr 0 0]), (3, .row 5 1 true false (bl (b ++ vE l.length ++ ((l.take i).map txB).flatten)))], 99⟩
  conv => whnf
  by_cases hlt : i < l.length
  · rw [decide_eq_true (show (i : Int) < (l.length : Int) by omega)]
    conv => whnf
    refine And.intro (by simp only [allP, List.nil_append, List.cons_append, true_and]; rw [hil]; omega) ?_
    conv => whnf
    rw [Int.toNat_natCast, tl_getD _ _ _ hlt]
    conv => whnf
    have hfl := flat_one_len txB hlt
    have hst := flat_step txB hlt
    have hok := h2 _ (List.getElem_mem hlt)
    generalize l[i] = x at hfl hst hok ⊢
    refine ⟨(b ++ vE l.length ++ ((l.take i).map txB).flatten, x), ?_⟩
    conv => whnf
    refine And.intro (by simp only [allP, List.nil_append, List.cons_append, true_and]; repeat' (first | assumption | rfl | trivial | (rw [List.length_append, List.length_append]; omega) | refine And.intro ?_ ?_ | omega)) ?_
    conv => whnf
    refine ⟨⟨i + 1, by omega⟩, by simp only; omega, ?_⟩
    conv => whnf
    rw [hst]
    and_intros <;> first | rfl | (rw [wrap_i64 (by omega) (by omega)]; rfl) | (rw [List.append_assoc]; rfl) | (rw [← List.append_assoc]; rfl)
  · rw [decide_eq_false (show ¬ (i : Int) < (l.length : Int) by omega)]
    conv => whnf
    rw [List.take_of_length_le (by omega), List.append_assoc]
    first | done | (and_intros <;> rfl)
theorem Ltexts_sound : Sound Tryz.prog 195 cLtexts := does_sound mixed tabOk_prog gP1_ok Tryz.func195 Ltexts_does
def gP2 : List (FuncId × Ctr) := (195, cLtexts) :: gP1
theorem gP2_ok : GamOk Tryz.prog gP2 := GamOk.cons gP1_ok Tryz.func195 (by kernel_rfl) (by kernel_rfl) Ltexts_sound
abbrev cOtexts : Ctr := cO (lsB txB) (fun l : List ByteArray => .p false (.sl 1 (tl l))) (fun l => l.length ≤ 140737488351232 ∧ ∀ x ∈ l, True)
theorem Otexts_does : Does gP2 tab Tryz.f168 cOtexts := by
  rintro ⟨b, l⟩ ⟨⟨h1, h2⟩, h3⟩
  conv => whnf
  refine ⟨(b, l), ?_⟩
  conv => whnf
  refine And.intro (by simp only [allP, List.nil_append, List.cons_append, true_and]; repeat' (first | assumption | rfl | trivial | refine And.intro ?_ ?_ | omega)) ?_
  conv => whnf
  first | done | (and_intros <;> rfl)
theorem Otexts_sound : Sound Tryz.prog 168 cOtexts := does_sound mixed tabOk_prog gP2_ok Tryz.func168 Otexts_does
def gP3 : List (FuncId × Ctr) := (168, cOtexts) :: gP2
theorem gP3_ok : GamOk Tryz.prog gP3 := GamOk.cons gP2_ok Tryz.func168 (by kernel_rfl) (by kernel_rfl) Otexts_sound
abbrev cLrecords : Ctr := ⟨List UInt8 × List (List UInt8), 2, fun (b, l) => [.ptr 0 0, .p false (.sl 1 (ll l)), .func 141 [.ptr 0 0] []], fun (b, l) => [(0, .box [.rowf 1]), (1, .row 5 1 true false (bl b))],
  fun (b, l) => (l.length ≤ 140737488351232 ∧ ∀ x ∈ l, True) ∧ b.length + (lsB recB l).length ≤ 1000000000000, fun _ => .tuple [], fun (b, l) => [(0, .box [.rowf 2]), (2, .row 5 1 true false (bl (b ++ lsB recB l)))]⟩
theorem Lrecords_does : Does gP3 tab Tryz.f197 cLrecords := by
  rintro ⟨b, l⟩ ⟨⟨h1, h2⟩, h3⟩
  have hil : (ll l).length = l.length := List.length_map ..
  have h3' : b.length + ((vE l.length).length + (l.map recB).flatten.length) ≤ 1000000000000 := by rw [lsB, List.length_append] at h3; exact h3
  conv => whnf
  rw [hil]
  refine ⟨(b, l.length), ?_⟩
  conv => whnf
  refine And.intro (by simp only [allP, List.nil_append, List.cons_append, true_and]; repeat' (first | assumption | rfl | trivial | refine And.intro ?_ ?_ | omega)) ?_
  conv => whnf
  rw [hil]
  refine ⟨{i : Nat // i ≤ l.length}, fun i => ⟨[(2, .func 141 [.ptr 0 0] []), (12, .p false (.sl 1 (ll l))), (13, isI .i64 l.length), (14, isI .i64 i.1)], [(0, .box [.rowf 2]), (1, .gone), (2, .row 5 1 true false (bl (b ++ vE l.length ++ ((l.take i.1).map recB).flatten)))], 99⟩, fun i => l.length - i.1, ⟨⟨0, Nat.zero_le _⟩, ?_⟩, ?_⟩
  · conv => whnf
    rw [List.take_zero, List.map_nil, List.flatten_nil, List.append_nil]
    first | done | (and_intros <;> rfl)
  rintro ⟨i, hi⟩
  show aw _ _ _ _ _ _ ⟨[(2, .func 141 [.ptr 0 0] []), (12, .p false (.sl 1 (ll l))), (13, isI .i64 l.length), (14, isI .i64 i)], [(0, .box [.rowf 2]), (1, .gone), (2, .row 5 1 true false (bl (b ++ vE l.length ++ ((l.take i).map recB).flatten)))], 99⟩
  conv => whnf
  by_cases hlt : i < l.length
  · rw [decide_eq_true (show (i : Int) < (l.length : Int) by omega)]
    conv => whnf
    refine And.intro (by simp only [allP, List.nil_append, List.cons_append, true_and]; rw [hil]; omega) ?_
    conv => whnf
    rw [Int.toNat_natCast, ll_getD _ _ _ hlt]
    conv => whnf
    have hfl := flat_one_len recB hlt
    have hst := flat_step recB hlt
    have hok := h2 _ (List.getElem_mem hlt)
    generalize l[i] = x at hfl hst hok ⊢
    refine ⟨(b ++ vE l.length ++ ((l.take i).map recB).flatten, x), ?_⟩
    conv => whnf
    refine And.intro (by simp only [allP, List.nil_append, List.cons_append, true_and]; repeat' (first | assumption | rfl | trivial | (rw [List.length_append, List.length_append]; omega) | refine And.intro ?_ ?_ | omega)) ?_
    conv => whnf
    refine ⟨⟨i + 1, by omega⟩, by simp only; omega, ?_⟩
    conv => whnf
    rw [hst]
    and_intros <;> first | rfl | (rw [wrap_i64 (by omega) (by omega)]; rfl) | (rw [List.append_assoc]; rfl) | (rw [← List.append_assoc]; rfl)
  · rw [decide_eq_false (show ¬ (i : Int) < (l.length : Int) by omega)]
    conv => whnf
    rw [List.take_of_length_le (by omega), List.append_assoc]
    first | done | (and_intros <;> rfl)
theorem Lrecords_sound : Sound Tryz.prog 197 cLrecords := does_sound mixed tabOk_prog gP3_ok Tryz.func197 Lrecords_does
def gP4 : List (FuncId × Ctr) := (197, cLrecords) :: gP3
theorem gP4_ok : GamOk Tryz.prog gP4 := GamOk.cons gP3_ok Tryz.func197 (by kernel_rfl) (by kernel_rfl) Lrecords_sound
abbrev cOrecords : Ctr := cO (lsB recB) (fun l : List (List UInt8) => .p false (.sl 1 (ll l))) (fun l => l.length ≤ 140737488351232 ∧ ∀ x ∈ l, True)
theorem Orecords_does : Does gP4 tab Tryz.f170 cOrecords := by
  rintro ⟨b, l⟩ ⟨⟨h1, h2⟩, h3⟩
  conv => whnf
  refine ⟨(b, l), ?_⟩
  conv => whnf
  refine And.intro (by simp only [allP, List.nil_append, List.cons_append, true_and]; repeat' (first | assumption | rfl | trivial | refine And.intro ?_ ?_ | omega)) ?_
  conv => whnf
  first | done | (and_intros <;> rfl)
theorem Orecords_sound : Sound Tryz.prog 170 cOrecords := does_sound mixed tabOk_prog gP4_ok Tryz.func170 Orecords_does
def gP5 : List (FuncId × Ctr) := (170, cOrecords) :: gP4
theorem gP5_ok : GamOk Tryz.prog gP5 := GamOk.cons gP4_ok Tryz.func170 (by kernel_rfl) (by kernel_rfl) Orecords_sound
abbrev cObatch : Ctr := cO en46 (fun x : S46 => .agg ((pv46 x).map avOf)) ok46
theorem Obatch_does : Does gP5 tab Tryz.f135 cObatch := by
  rintro ⟨b, x⟩ ⟨hx, h3⟩
  obtain ⟨k0, k1, k2, k3⟩ := hx
  (set_option smartUnfolding false in conv => whnf)
  refine ⟨(b, ([x.1, x.2.1, x.2.2.1] : List Int)), ?_⟩
  conv => whnf
  refine And.intro (by simp only [allP, List.nil_append, List.cons_append, true_and]; repeat' (first | assumption | rfl | trivial | exact List.cons_ne_nil _ _ | (intro m hm; simp only [List.mem_cons, List.not_mem_nil, or_false] at hm; rcases hm with rfl | rfl | rfl <;> first | exact kind_r _ | (apply int_r; assumption)) | (simp only [List.length_cons, List.length_nil]; omega) | (simp only [en46, nsB_c, nsB_n, tsB_c, tsB_n, List.length_append, List.length_nil] at h3 ⊢; omega) | refine And.intro ?_ ?_ | omega)) ?_
  (set_option smartUnfolding false in conv => whnf)
  refine ⟨((b ++ nsB [x.1, x.2.1, x.2.2.1]), x.2.2.2), ?_⟩
  conv => whnf
  refine And.intro (by simp only [allP, List.nil_append, List.cons_append, true_and]; repeat' (first | assumption | rfl | trivial | exact k3.1 | exact k3.2.2 | (intros; trivial) | (simp only [en46, nsB_c, nsB_n, tsB_c, tsB_n, List.length_append, List.length_nil] at h3 ⊢; omega) | refine And.intro ?_ ?_ | omega)) ?_
  (set_option smartUnfolding false in conv => whnf)
  rw [show b ++ en46 x = ((b ++ nsB [x.1, x.2.1, x.2.2.1]) ++ lsB recB x.2.2.2) from by simp only [en46, nsB_c, nsB_n, tsB_c, tsB_n, List.append_assoc, List.append_nil]]
  first | done | (and_intros <;> rfl)
theorem Obatch_sound : Sound Tryz.prog 135 cObatch := does_sound mixed tabOk_prog gP5_ok Tryz.func135 Obatch_does
def gP6 : List (FuncId × Ctr) := (135, cObatch) :: gP5
theorem gP6_ok : GamOk Tryz.prog gP6 := GamOk.cons gP5_ok Tryz.func135 (by kernel_rfl) (by kernel_rfl) Obatch_sound
abbrev cOplace : Ctr := cO en55 (fun x : S55 => .agg ((pv55 x).map avOf)) ok55
theorem Oplace_does : Does gP6 tab Tryz.f169 cOplace := by
  rintro ⟨b, x⟩ ⟨hx, h3⟩
  obtain ⟨k0, k1⟩ := hx
  (set_option smartUnfolding false in conv => whnf)
  refine ⟨(b, ([x.1] : List ByteArray)), ?_⟩
  conv => whnf
  refine And.intro (by simp only [allP, List.nil_append, List.cons_append, true_and]; repeat' (first | assumption | rfl | trivial | exact List.cons_ne_nil _ _ | (simp only [List.length_cons, List.length_nil]; omega) | (simp only [en55, nsB_c, nsB_n, tsB_c, tsB_n, List.length_append, List.length_nil] at h3 ⊢; omega) | refine And.intro ?_ ?_ | omega)) ?_
  (set_option smartUnfolding false in conv => whnf)
  refine ⟨((b ++ tsB [x.1]), ([x.2] : List Int)), ?_⟩
  conv => whnf
  refine And.intro (by simp only [allP, List.nil_append, List.cons_append, true_and]; repeat' (first | assumption | rfl | trivial | exact List.cons_ne_nil _ _ | (intro m hm; simp only [List.mem_cons, List.not_mem_nil, or_false] at hm; rcases hm with rfl <;> first | exact kind_r _ | (apply int_r; assumption)) | (simp only [List.length_cons, List.length_nil]; omega) | (simp only [en55, nsB_c, nsB_n, tsB_c, tsB_n, List.length_append, List.length_nil] at h3 ⊢; omega) | refine And.intro ?_ ?_ | omega)) ?_
  (set_option smartUnfolding false in conv => whnf)
  rw [show b ++ en55 x = ((b ++ tsB [x.1]) ++ nsB [x.2]) from by simp only [en55, nsB_c, nsB_n, tsB_c, tsB_n, List.append_assoc, List.append_nil]]
  first | done | (and_intros <;> rfl)
theorem Oplace_sound : Sound Tryz.prog 169 cOplace := does_sound mixed tabOk_prog gP6_ok Tryz.func169 Oplace_does
def gP7 : List (FuncId × Ctr) := (169, cOplace) :: gP6
theorem gP7_ok : GamOk Tryz.prog gP7 := GamOk.cons gP6_ok Tryz.func169 (by kernel_rfl) (by kernel_rfl) Oplace_sound
abbrev cOpart : Ctr := cO en48 (fun x : S48 => .agg ((pv48 x).map avOf)) ok48
theorem Opart_does : Does gP7 tab Tryz.f83 cOpart := by
  rintro ⟨b, x⟩ ⟨hx, h3⟩
  obtain ⟨k0, k1, k2⟩ := hx
  (set_option smartUnfolding false in conv => whnf)
  rw [kind_w x.1]
  refine ⟨(b, ([((x.1).toNat : Int)] : List Int)), ?_⟩
  conv => whnf
  refine And.intro (by simp only [allP, List.nil_append, List.cons_append, true_and]; repeat' (first | assumption | rfl | trivial | exact List.cons_ne_nil _ _ | (intro m hm; simp only [List.mem_cons, List.not_mem_nil, or_false] at hm; rcases hm with rfl <;> first | exact kind_r _ | (apply int_r; assumption)) | (simp only [List.length_cons, List.length_nil]; omega) | (simp only [en48, nsB_c, nsB_n, tsB_c, tsB_n, List.length_append, List.length_nil] at h3 ⊢; omega) | refine And.intro ?_ ?_ | omega)) ?_
  (set_option smartUnfolding false in conv => whnf)
  refine dI (k := ?_)
  (set_option smartUnfolding false in conv => whnf)
  refine ⟨((b ++ nsB [((x.1).toNat : Int)]), x.2.1), ?_⟩
  conv => whnf
  refine And.intro (by simp only [allP, List.nil_append, List.cons_append, true_and]; repeat' (first | assumption | rfl | trivial | exact k1.1 | exact k1.2.2 | (intros; trivial) | (simp only [en48, nsB_c, nsB_n, tsB_c, tsB_n, List.length_append, List.length_nil] at h3 ⊢; omega) | refine And.intro ?_ ?_ | omega)) ?_
  (set_option smartUnfolding false in conv => whnf)
  refine ⟨(((b ++ nsB [((x.1).toNat : Int)]) ++ en46 x.2.1), ([x.2.2] : List Int)), ?_⟩
  conv => whnf
  refine And.intro (by simp only [allP, List.nil_append, List.cons_append, true_and]; repeat' (first | assumption | rfl | trivial | exact List.cons_ne_nil _ _ | (intro m hm; simp only [List.mem_cons, List.not_mem_nil, or_false] at hm; rcases hm with rfl <;> first | exact kind_r _ | (apply int_r; assumption)) | (simp only [List.length_cons, List.length_nil]; omega) | (simp only [en48, nsB_c, nsB_n, tsB_c, tsB_n, List.length_append, List.length_nil] at h3 ⊢; omega) | refine And.intro ?_ ?_ | omega)) ?_
  (set_option smartUnfolding false in conv => whnf)
  rw [show b ++ en48 x = (((b ++ nsB [((x.1).toNat : Int)]) ++ en46 x.2.1) ++ nsB [x.2.2]) from by simp only [en48, nsB_c, nsB_n, tsB_c, tsB_n, List.append_assoc, List.append_nil]]
  first | done | (and_intros <;> rfl)
theorem Opart_sound : Sound Tryz.prog 83 cOpart := does_sound mixed tabOk_prog gP7_ok Tryz.func83 Opart_does
def gP8 : List (FuncId × Ctr) := (83, cOpart) :: gP7
theorem gP8_ok : GamOk Tryz.prog gP8 := GamOk.cons gP7_ok Tryz.func83 (by kernel_rfl) (by kernel_rfl) Opart_sound
end Go.Proofs.YtingmlhhabaplaaGreat.Ev
