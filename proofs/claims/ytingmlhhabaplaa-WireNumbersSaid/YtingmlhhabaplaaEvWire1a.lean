/- Wire: what the program puts together: texts, rows, batches. No conditions. -/
import Derived.Test.YtingmlhhabaplaaEvWire0
import Derived.Test.YtingmlhhabaplaaCtr
namespace Go.Proofs.Ytingmlhhabaplaa.Ev
open Go
set_option linter.unusedVariables false
set_option linter.unusedSimpArgs false
set_option maxRecDepth 100000
set_option maxHeartbeats 4000000
def en25 (y : S25) : List UInt8 := nuB y.1 ++ (nuB y.2.1 ++ (nuB y.2.2.1 ++ (lsB recB y.2.2.2)))
def en31 (y : S31) : List UInt8 := txB y.1 ++ (nuB y.2)
def en27 (y : S27) : List UInt8 := nuB ((y.1).toNat : Int) ++ (en25 y.2.1 ++ (nuB y.2.2))
def en33 (y : S33) : List UInt8 := nuB ((y.1).toNat : Int) ++ (txB y.2.1 ++ (txB y.2.2.1 ++ (nuB y.2.2.2.1 ++ (lsB txB y.2.2.2.2.1 ++ (en31 y.2.2.2.2.2.1 ++ (nuB y.2.2.2.2.2.2.1 ++ (nuB y.2.2.2.2.2.2.2.1 ++ (nuB y.2.2.2.2.2.2.2.2.1 ++ (nuB y.2.2.2.2.2.2.2.2.2)))))))))
def en51 (y : S51) : List UInt8 := nuB y.1 ++ (nuB y.2.1 ++ (nuB y.2.2.1 ++ (nuB y.2.2.2.1 ++ (nuB ((y.2.2.2.2.1).toNat : Int) ++ (lsB en31 y.2.2.2.2.2)))))
def en47 (y : S47) : List UInt8 := nuB ((y.1).toNat : Int) ++ (nuB y.2.1 ++ (nuB y.2.2.1 ++ (txB y.2.2.2.1 ++ (nuB y.2.2.2.2.1 ++ (en25 y.2.2.2.2.2.1 ++ (nuB y.2.2.2.2.2.2.1 ++ (nuB y.2.2.2.2.2.2.2.1 ++ (nuB y.2.2.2.2.2.2.2.2.1 ++ (en33 y.2.2.2.2.2.2.2.2.2)))))))))
def en53 (y : S53) : List UInt8 := nuB ((y.1).toNat : Int) ++ (nuB y.2.1 ++ (nuB y.2.2.1 ++ (nuB y.2.2.2.1 ++ (nuB y.2.2.2.2.1 ++ (nuB y.2.2.2.2.2.1 ++ (nuB y.2.2.2.2.2.2.1 ++ (nuB y.2.2.2.2.2.2.2.1 ++ (boB y.2.2.2.2.2.2.2.2.1 ++ (lsB recB y.2.2.2.2.2.2.2.2.2.1 ++ (en51 y.2.2.2.2.2.2.2.2.2.2))))))))))
def en70 (y : S70) : List UInt8 := nuB y.1 ++ (recB y.2)
def en57 (y : S57) : List UInt8 := txB y.1 ++ (nuB ((y.2.1).toNat : Int) ++ (nuB y.2.2.1 ++ (nuB y.2.2.2.1 ++ (nuB y.2.2.2.2.1 ++ (nuB y.2.2.2.2.2.1 ++ (nuB y.2.2.2.2.2.2.1 ++ (nuB y.2.2.2.2.2.2.2.1 ++ (nuB y.2.2.2.2.2.2.2.2.1 ++ (boB y.2.2.2.2.2.2.2.2.2.1 ++ (lsB en70 y.2.2.2.2.2.2.2.2.2.2.1 ++ (recB y.2.2.2.2.2.2.2.2.2.2.2)))))))))))
def en189 (y : S189) : List UInt8 := txB y.1 ++ (lsB txB y.2)
def en124 (y : S124) : List UInt8 := nuB y.1 ++ (nuB y.2.1 ++ (nuB y.2.2))
def en122 (y : S122) : List UInt8 := nuB y.1 ++ (nuB y.2.1 ++ (nuB y.2.2.1 ++ (lsB en124 y.2.2.2)))
def en76 (y : S76) : List UInt8 := nuB y.1 ++ (nuB y.2.1 ++ (lsB recB y.2.2.1 ++ (lsB en122 y.2.2.2)))
def en191 (y : S191) : List UInt8 := en189 y.1 ++ (nuB y.2.1 ++ (boB y.2.2))
def en193 (y : S193) : List UInt8 := txB y.1 ++ (lsB en31 y.2)
def en195 (y : S195) : List UInt8 := en31 y.1 ++ (nuB y.2)
def en135 (y : S135) : List UInt8 := txB y.1 ++ (nuB y.2.1 ++ (nuB ((y.2.2.1).toNat : Int) ++ (nuB y.2.2.2.1 ++ (lsB en191 y.2.2.2.2.1 ++ (lsB en193 y.2.2.2.2.2.1 ++ (lsB en195 y.2.2.2.2.2.2))))))
def en127 (y : S127) : List UInt8 := txB y.1 ++ (nuB y.2)
def en129 (y : S129) : List UInt8 := txB y.1 ++ (nuB y.2.1 ++ (nuB y.2.2))
def en140 (y : S140) : List UInt8 := nuB y.1 ++ (en51 y.2)
def en138 (y : S138) : List UInt8 := nuB y.1 ++ (nuB y.2.1 ++ (lsB en140 y.2.2))
def en87 (y : S87) : List UInt8 := nuB y.1 ++ (lsB en127 y.2.1 ++ (lsB en129 y.2.2.1 ++ (lsB en135 y.2.2.2.1 ++ (lsB en138 y.2.2.2.2))))
theorem nsB_c (n : Int) (l : List Int) : nsB (n :: l) = nuB n ++ nsB l := rfl
theorem nsB_n : nsB [] = [] := rfl
theorem tsB_c (n : ByteArray) (l : List ByteArray) : tsB (n :: l) = txB n ++ tsB l := rfl
theorem tsB_n : tsB [] = [] := rfl
theorem kind_w (c : UInt8) : IntKind.i64.wrap ((c.toNat : Nat) : Int) = (c.toNat : Nat) := wrap_i64n (by have := u8_lt c; omega)
theorem kind_r (c : UInt8) : i64R ((c.toNat : Nat) : Int) := by have := u8_lt c; unfold i64R; omega
theorem int_r {x : Int} (h : (Lit.int .i64 x).wf = true) : i64R x := wf_i64 h
abbrev cEtexts_1 : Ctr := ⟨List UInt8 × ByteArray, 3, fun (b, x) => [.p true (.str x), .ptr 2 0], fun (b, x) => [(0, .box [.rowf 1]), (1, .row 5 1 true false (bl b)), (2, .box [.ptr 0 0])],
  fun (b, x) => True ∧ b.length + (txB x).length ≤ 1000000000000, fun _ => .tuple [], fun (b, x) => [(0, .box [.rowf 3]), (2, .box [.ptr 0 0]), (3, .row 5 1 true false (bl (b ++ txB x)))]⟩
theorem Etexts_1_does : Does gW4 tab Try.f105 cEtexts_1 := by
  rintro ⟨b, x⟩ ⟨-, h3⟩
  conv => whnf
  refine ⟨(b, [x]), ?_⟩
  conv => whnf
  refine And.intro (by simp only [allP, List.nil_append, List.cons_append, true_and]; and_intros <;> first | rfl | exact List.cons_ne_nil _ _ | (simp only [tsB_c, tsB_n, List.append_nil]; omega) | (simp; done)) ?_
  conv => whnf
  rw [tsB_c, tsB_n, List.append_nil]
  first | done | (and_intros <;> rfl)
theorem Etexts_1_sound : Sound Try.prog 105 cEtexts_1 := does_sound mixed tabOk_prog gW4_ok Try.func105 Etexts_1_does
def gP1 : List (FuncId × Ctr) := (105, cEtexts_1) :: gW4
theorem gP1_ok : GamOk Try.prog gP1 := GamOk.cons gW4_ok Try.func105 (by kernel_rfl) (by kernel_rfl) Etexts_1_sound
abbrev cLtexts : Ctr := ⟨List UInt8 × List ByteArray, 3, fun (b, l) => [.ptr 0 0, .p false (.sl 1 (tl l)), .func 105 [] [.ptr 2 0]], fun (b, l) => [(0, .box [.rowf 1]), (1, .row 5 1 true false (bl b)), (2, .box [.ptr 0 0])],
  fun (b, l) => (l.length ≤ 140737488351232 ∧ ∀ x ∈ l, True) ∧ b.length + (lsB txB l).length ≤ 1000000000000, fun _ => .tuple [], fun (b, l) => [(0, .box [.rowf 3]), (2, .box [.ptr 0 0]), (3, .row 5 1 true false (bl (b ++ lsB txB l)))]⟩
theorem Ltexts_does : Does gP1 tab Try.f104 cLtexts := by
  rintro ⟨b, l⟩ ⟨⟨h1, h2⟩, h3⟩
  have hil : (tl l).length = l.length := List.length_map ..
  have h3' : b.length + ((vE l.length).length + (l.map txB).flatten.length) ≤ 1000000000000 := by rw [lsB, List.length_append] at h3; exact h3
  conv => whnf
  rw [hil]
  refine ⟨(b, l.length), ?_⟩
  conv => whnf
  refine And.intro (by simp only [allP, List.nil_append, List.cons_append, true_and]; repeat' (first | assumption | rfl | trivial | refine And.intro ?_ ?_ | omega)) ?_
  conv => whnf
  rw [hil]
  refine ⟨{i : Nat // i ≤ l.length}, fun i => ⟨[(2, .func 105 [] [.ptr 2 0]), (12, .p false (.sl 1 (tl l))), (13, isI .i64 l.length), (14, isI .i64 i.1)], [(0, .box [.rowf 3]), (1, .gone), (2, .box [.ptr 0 0]), (3, .row 5 1 true false (bl (b ++ vE l.length ++ ((l.take i.1).map txB).flatten)))], 99⟩, fun i => l.length - i.1, ⟨⟨0, Nat.zero_le _⟩, ?_⟩, ?_⟩
  · conv => whnf
    rw [List.take_zero, List.map_nil, List.flatten_nil, List.append_nil]
    first | done | (and_intros <;> rfl)
  rintro ⟨i, hi⟩
  show aw _ _ _ _ _ _ ⟨[(2, .func 105 [] [.ptr 2 0]), (12, .p false (.sl 1 (tl l))), (13, isI .i64 l.length), (14, isI .i64 i)], [(0, .box [.rowf 3]), (1, .gone), (2, .box [.ptr 0 0]), (3, .row 5 1 true false (bl (b ++ vE l.length ++ ((l.take i).map txB).flatten)))], 99⟩
  conv => whnf
  by_cases hlt : i < l.length
  · rw [decide_eq_true (show (i : Int) < (l.length : Int) by omega)]
    conv => whnf
    refine And.intro (by simp only [allP, List.nil_append, List.cons_append, true_and]; rw [hil]; omega) ?_
    conv => whnf
    rw [Int.toNat_natCast, tl_getD _ _ _ hlt]
    conv => whnf
    have hfl := flat_one_len txB hlt
    have hst := flat_step txB hlt
    have hok := h2 _ (List.getElem_mem hlt)
    generalize l[i] = x at hfl hst hok ⊢
    refine ⟨(b ++ vE l.length ++ ((l.take i).map txB).flatten, x), ?_⟩
    conv => whnf
    refine And.intro (by simp only [allP, List.nil_append, List.cons_append, true_and]; repeat' (first | assumption | rfl | trivial | (rw [List.length_append, List.length_append]; omega) | refine And.intro ?_ ?_ | omega)) ?_
    conv => whnf
    refine ⟨⟨i + 1, by omega⟩, by simp only; omega, ?_⟩
    conv => whnf
    rw [hst]
    and_intros <;> first | rfl | (rw [wrap_i64 (by omega) (by omega)]; rfl) | (rw [List.append_assoc]; rfl) | (rw [← List.append_assoc]; rfl)
  · rw [decide_eq_false (show ¬ (i : Int) < (l.length : Int) by omega)]
    conv => whnf
    rw [List.take_of_length_le (by omega), List.append_assoc]
    first | done | (and_intros <;> rfl)
theorem Ltexts_sound : Sound Try.prog 104 cLtexts := does_sound mixed tabOk_prog gP1_ok Try.func104 Ltexts_does
def gP2 : List (FuncId × Ctr) := (104, cLtexts) :: gP1
theorem gP2_ok : GamOk Try.prog gP2 := GamOk.cons gP1_ok Try.func104 (by kernel_rfl) (by kernel_rfl) Ltexts_sound
abbrev cOtexts : Ctr := cO (lsB txB) (fun l : List ByteArray => .p false (.sl 1 (tl l))) (fun l => l.length ≤ 140737488351232 ∧ ∀ x ∈ l, True)
theorem Otexts_does : Does gP2 tab Try.f62 cOtexts := by
  rintro ⟨b, l⟩ ⟨⟨h1, h2⟩, h3⟩
  conv => whnf
  refine ⟨(b, l), ?_⟩
  conv => whnf
  refine And.intro (by simp only [allP, List.nil_append, List.cons_append, true_and]; repeat' (first | assumption | rfl | trivial | refine And.intro ?_ ?_ | omega)) ?_
  conv => whnf
  first | done | (and_intros <;> rfl)
theorem Otexts_sound : Sound Try.prog 62 cOtexts := does_sound mixed tabOk_prog gP2_ok Try.func62 Otexts_does
def gP3 : List (FuncId × Ctr) := (62, cOtexts) :: gP2
theorem gP3_ok : GamOk Try.prog gP3 := GamOk.cons gP2_ok Try.func62 (by kernel_rfl) (by kernel_rfl) Otexts_sound
abbrev cLrecords : Ctr := ⟨List UInt8 × List (List UInt8), 2, fun (b, l) => [.ptr 0 0, .p false (.sl 1 (ll l)), .func 72 [.ptr 0 0] []], fun (b, l) => [(0, .box [.rowf 1]), (1, .row 5 1 true false (bl b))],
  fun (b, l) => (l.length ≤ 140737488351232 ∧ ∀ x ∈ l, True) ∧ b.length + (lsB recB l).length ≤ 1000000000000, fun _ => .tuple [], fun (b, l) => [(0, .box [.rowf 2]), (2, .row 5 1 true false (bl (b ++ lsB recB l)))]⟩
theorem Lrecords_does : Does gP3 tab Try.f106 cLrecords := by
  rintro ⟨b, l⟩ ⟨⟨h1, h2⟩, h3⟩
  have hil : (ll l).length = l.length := List.length_map ..
  have h3' : b.length + ((vE l.length).length + (l.map recB).flatten.length) ≤ 1000000000000 := by rw [lsB, List.length_append] at h3; exact h3
  conv => whnf
  rw [hil]
  refine ⟨(b, l.length), ?_⟩
  conv => whnf
  refine And.intro (by simp only [allP, List.nil_append, List.cons_append, true_and]; repeat' (first | assumption | rfl | trivial | refine And.intro ?_ ?_ | omega)) ?_
  conv => whnf
  rw [hil]
  refine ⟨{i : Nat // i ≤ l.length}, fun i => ⟨[(2, .func 72 [.ptr 0 0] []), (12, .p false (.sl 1 (ll l))), (13, isI .i64 l.length), (14, isI .i64 i.1)], [(0, .box [.rowf 2]), (1, .gone), (2, .row 5 1 true false (bl (b ++ vE l.length ++ ((l.take i.1).map recB).flatten)))], 99⟩, fun i => l.length - i.1, ⟨⟨0, Nat.zero_le _⟩, ?_⟩, ?_⟩
  · conv => whnf
    rw [List.take_zero, List.map_nil, List.flatten_nil, List.append_nil]
    first | done | (and_intros <;> rfl)
  rintro ⟨i, hi⟩
  show aw _ _ _ _ _ _ ⟨[(2, .func 72 [.ptr 0 0] []), (12, .p false (.sl 1 (ll l))), (13, isI .i64 l.length), (14, isI .i64 i)], [(0, .box [.rowf 2]), (1, .gone), (2, .row 5 1 true false (bl (b ++ vE l.length ++ ((l.take i).map recB).flatten)))], 99⟩
  conv => whnf
  by_cases hlt : i < l.length
  · rw [decide_eq_true (show (i : Int) < (l.length : Int) by omega)]
    conv => whnf
    refine And.intro (by simp only [allP, List.nil_append, List.cons_append, true_and]; rw [hil]; omega) ?_
    conv => whnf
    rw [Int.toNat_natCast, ll_getD _ _ _ hlt]
    conv => whnf
    have hfl := flat_one_len recB hlt
    have hst := flat_step recB hlt
    have hok := h2 _ (List.getElem_mem hlt)
    generalize l[i] = x at hfl hst hok ⊢
    refine ⟨(b ++ vE l.length ++ ((l.take i).map recB).flatten, x), ?_⟩
    conv => whnf
    refine And.intro (by simp only [allP, List.nil_append, List.cons_append, true_and]; repeat' (first | assumption | rfl | trivial | (rw [List.length_append, List.length_append]; omega) | refine And.intro ?_ ?_ | omega)) ?_
    conv => whnf
    refine ⟨⟨i + 1, by omega⟩, by simp only; omega, ?_⟩
    conv => whnf
    rw [hst]
    and_intros <;> first | rfl | (rw [wrap_i64 (by omega) (by omega)]; rfl) | (rw [List.append_assoc]; rfl) | (rw [← List.append_assoc]; rfl)
  · rw [decide_eq_false (show ¬ (i : Int) < (l.length : Int) by omega)]
    conv => whnf
    rw [List.take_of_length_le (by omega), List.append_assoc]
    first | done | (and_intros <;> rfl)
theorem Lrecords_sound : Sound Try.prog 106 cLrecords := does_sound mixed tabOk_prog gP3_ok Try.func106 Lrecords_does
def gP4 : List (FuncId × Ctr) := (106, cLrecords) :: gP3
theorem gP4_ok : GamOk Try.prog gP4 := GamOk.cons gP3_ok Try.func106 (by kernel_rfl) (by kernel_rfl) Lrecords_sound
abbrev cOrecords : Ctr := cO (lsB recB) (fun l : List (List UInt8) => .p false (.sl 1 (ll l))) (fun l => l.length ≤ 140737488351232 ∧ ∀ x ∈ l, True)
theorem Orecords_does : Does gP4 tab Try.f67 cOrecords := by
  rintro ⟨b, l⟩ ⟨⟨h1, h2⟩, h3⟩
  conv => whnf
  refine ⟨(b, l), ?_⟩
  conv => whnf
  refine And.intro (by simp only [allP, List.nil_append, List.cons_append, true_and]; repeat' (first | assumption | rfl | trivial | refine And.intro ?_ ?_ | omega)) ?_
  conv => whnf
  first | done | (and_intros <;> rfl)
theorem Orecords_sound : Sound Try.prog 67 cOrecords := does_sound mixed tabOk_prog gP4_ok Try.func67 Orecords_does
def gP5 : List (FuncId × Ctr) := (67, cOrecords) :: gP4
theorem gP5_ok : GamOk Try.prog gP5 := GamOk.cons gP4_ok Try.func67 (by kernel_rfl) (by kernel_rfl) Orecords_sound
abbrev cObatch : Ctr := cO en25 (fun x : S25 => .agg ((pv25 x).map avOf)) ok25
theorem Obatch_does : Does gP5 tab Try.f58 cObatch := by
  rintro ⟨b, x⟩ ⟨hx, h3⟩
  obtain ⟨k0, k1, k2, k3⟩ := hx
  (set_option smartUnfolding false in conv => whnf)
  refine ⟨(b, ([x.1, x.2.1, x.2.2.1] : List Int)), ?_⟩
  conv => whnf
  refine And.intro (by simp only [allP, List.nil_append, List.cons_append, true_and]; repeat' (first | assumption | rfl | trivial | exact List.cons_ne_nil _ _ | (intro m hm; simp only [List.mem_cons, List.not_mem_nil, or_false] at hm; rcases hm with rfl | rfl | rfl <;> first | exact kind_r _ | (apply int_r; assumption)) | (simp only [List.length_cons, List.length_nil]; omega) | (simp only [en25, nsB_c, nsB_n, tsB_c, tsB_n, List.length_append, List.length_nil] at h3 ⊢; omega) | refine And.intro ?_ ?_ | omega)) ?_
  (set_option smartUnfolding false in conv => whnf)
  refine ⟨((b ++ nsB [x.1, x.2.1, x.2.2.1]), x.2.2.2), ?_⟩
  conv => whnf
  refine And.intro (by simp only [allP, List.nil_append, List.cons_append, true_and]; repeat' (first | assumption | rfl | trivial | exact k3.1 | exact k3.2.2 | (intros; trivial) | (simp only [en25, nsB_c, nsB_n, tsB_c, tsB_n, List.length_append, List.length_nil] at h3 ⊢; omega) | refine And.intro ?_ ?_ | omega)) ?_
  (set_option smartUnfolding false in conv => whnf)
  rw [show b ++ en25 x = ((b ++ nsB [x.1, x.2.1, x.2.2.1]) ++ lsB recB x.2.2.2) from by simp only [en25, nsB_c, nsB_n, tsB_c, tsB_n, List.append_assoc, List.append_nil]]
  first | done | (and_intros <;> rfl)
theorem Obatch_sound : Sound Try.prog 58 cObatch := does_sound mixed tabOk_prog gP5_ok Try.func58 Obatch_does
def gP6 : List (FuncId × Ctr) := (58, cObatch) :: gP5
theorem gP6_ok : GamOk Try.prog gP6 := GamOk.cons gP5_ok Try.func58 (by kernel_rfl) (by kernel_rfl) Obatch_sound
abbrev cOplace : Ctr := cO en31 (fun x : S31 => .agg ((pv31 x).map avOf)) ok31
theorem Oplace_does : Does gP6 tab Try.f63 cOplace := by
  rintro ⟨b, x⟩ ⟨hx, h3⟩
  obtain ⟨k0, k1⟩ := hx
  (set_option smartUnfolding false in conv => whnf)
  refine ⟨(b, ([x.1] : List ByteArray)), ?_⟩
  conv => whnf
  refine And.intro (by simp only [allP, List.nil_append, List.cons_append, true_and]; repeat' (first | assumption | rfl | trivial | exact List.cons_ne_nil _ _ | (simp only [List.length_cons, List.length_nil]; omega) | (simp only [en31, nsB_c, nsB_n, tsB_c, tsB_n, List.length_append, List.length_nil] at h3 ⊢; omega) | refine And.intro ?_ ?_ | omega)) ?_
  (set_option smartUnfolding false in conv => whnf)
  refine ⟨((b ++ tsB [x.1]), ([x.2] : List Int)), ?_⟩
  conv => whnf
  refine And.intro (by simp only [allP, List.nil_append, List.cons_append, true_and]; repeat' (first | assumption | rfl | trivial | exact List.cons_ne_nil _ _ | (intro m hm; simp only [List.mem_cons, List.not_mem_nil, or_false] at hm; rcases hm with rfl <;> first | exact kind_r _ | (apply int_r; assumption)) | (simp only [List.length_cons, List.length_nil]; omega) | (simp only [en31, nsB_c, nsB_n, tsB_c, tsB_n, List.length_append, List.length_nil] at h3 ⊢; omega) | refine And.intro ?_ ?_ | omega)) ?_
  (set_option smartUnfolding false in conv => whnf)
  rw [show b ++ en31 x = ((b ++ tsB [x.1]) ++ nsB [x.2]) from by simp only [en31, nsB_c, nsB_n, tsB_c, tsB_n, List.append_assoc, List.append_nil]]
  first | done | (and_intros <;> rfl)
theorem Oplace_sound : Sound Try.prog 63 cOplace := does_sound mixed tabOk_prog gP6_ok Try.func63 Oplace_does
def gP7 : List (FuncId × Ctr) := (63, cOplace) :: gP6
theorem gP7_ok : GamOk Try.prog gP7 := GamOk.cons gP6_ok Try.func63 (by kernel_rfl) (by kernel_rfl) Oplace_sound
abbrev cOpart : Ctr := cO en27 (fun x : S27 => .agg ((pv27 x).map avOf)) ok27
theorem Opart_does : Does gP7 tab Try.f31 cOpart := by
  rintro ⟨b, x⟩ ⟨hx, h3⟩
  obtain ⟨k0, k1, k2⟩ := hx
  (set_option smartUnfolding false in conv => whnf)
  rw [kind_w x.1]
  refine ⟨(b, ([((x.1).toNat : Int)] : List Int)), ?_⟩
  conv => whnf
  refine And.intro (by simp only [allP, List.nil_append, List.cons_append, true_and]; repeat' (first | assumption | rfl | trivial | exact List.cons_ne_nil _ _ | (intro m hm; simp only [List.mem_cons, List.not_mem_nil, or_false] at hm; rcases hm with rfl <;> first | exact kind_r _ | (apply int_r; assumption)) | (simp only [List.length_cons, List.length_nil]; omega) | (simp only [en27, nsB_c, nsB_n, tsB_c, tsB_n, List.length_append, List.length_nil] at h3 ⊢; omega) | refine And.intro ?_ ?_ | omega)) ?_
  (set_option smartUnfolding false in conv => whnf)
  refine And.intro (by first | exact Nat.le_of_ble_eq_true rfl | exact ⟨Nat.le_of_ble_eq_true rfl, rfl⟩ | exact rfl | decide | (simp [allP]; done)) ?_
  (set_option smartUnfolding false in conv => whnf)
  refine ⟨((b ++ nsB [((x.1).toNat : Int)]), x.2.1), ?_⟩
  conv => whnf
  refine And.intro (by simp only [allP, List.nil_append, List.cons_append, true_and]; repeat' (first | assumption | rfl | trivial | exact k1.1 | exact k1.2.2 | (intros; trivial) | (simp only [en27, nsB_c, nsB_n, tsB_c, tsB_n, List.length_append, List.length_nil] at h3 ⊢; omega) | refine And.intro ?_ ?_ | omega)) ?_
  (set_option smartUnfolding false in conv => whnf)
  refine ⟨(((b ++ nsB [((x.1).toNat : Int)]) ++ en25 x.2.1), ([x.2.2] : List Int)), ?_⟩
  conv => whnf
  refine And.intro (by simp only [allP, List.nil_append, List.cons_append, true_and]; repeat' (first | assumption | rfl | trivial | exact List.cons_ne_nil _ _ | (intro m hm; simp only [List.mem_cons, List.not_mem_nil, or_false] at hm; rcases hm with rfl <;> first | exact kind_r _ | (apply int_r; assumption)) | (simp only [List.length_cons, List.length_nil]; omega) | (simp only [en27, nsB_c, nsB_n, tsB_c, tsB_n, List.length_append, List.length_nil] at h3 ⊢; omega) | refine And.intro ?_ ?_ | omega)) ?_
  (set_option smartUnfolding false in conv => whnf)
  rw [show b ++ en27 x = (((b ++ nsB [((x.1).toNat : Int)]) ++ en25 x.2.1) ++ nsB [x.2.2]) from by simp only [en27, nsB_c, nsB_n, tsB_c, tsB_n, List.append_assoc, List.append_nil]]
  first | done | (and_intros <;> rfl)
theorem Opart_sound : Sound Try.prog 31 cOpart := does_sound mixed tabOk_prog gP7_ok Try.func31 Opart_does
def gP8 : List (FuncId × Ctr) := (31, cOpart) :: gP7
theorem gP8_ok : GamOk Try.prog gP8 := GamOk.cons gP7_ok Try.func31 (by kernel_rfl) (by kernel_rfl) Opart_sound
end Go.Proofs.Ytingmlhhabaplaa.Ev
