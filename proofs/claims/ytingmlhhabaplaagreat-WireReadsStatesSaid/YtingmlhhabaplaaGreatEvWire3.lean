/- Wire: what the document puts together: numbers. No conditions. -/
import Derived.Test.YtingmlhhabaplaaGreatEvWire2
namespace Go.Proofs.YtingmlhhabaplaaGreat.Ev
open Go
set_option linter.unusedVariables false
set_option linter.unusedSimpArgs false
set_option maxRecDepth 100000
set_option maxHeartbeats 4000000
theorem nuB_vE (n : Int) : vE (zig n) = nuB n := rfl
/-- A part of a thing put behind, by the document. -/
abbrev cR {X : Type} (enc : X → List UInt8) (av : X → AV) (ok : X → Prop) : Ctr := ⟨List UInt8 × X, 1, fun (b, x) => [.rowf 0, av x], fun (b, x) => [(0, .row 5 1 true false (bl b))],
  fun (b, x) => ok x ∧ b.length + (enc x).length ≤ 1000000000000, fun _ => .rowf 1, fun (b, x) => [(1, .row 5 1 true false (bl (b ++ enc x)))]⟩
abbrev cRNum : Ctr := cR nuB (fun n : Int => isI .i64 n) i64R
theorem rnum_does : Does gRef03 tab Tryz.f92 cRNum := by
  rintro ⟨b, n⟩ ⟨h1, h2⟩
  have hn : (vE (zig n)).length = (nuB n).length := rfl
  conv => whnf
  refine ⟨([], n), ?_⟩
  conv => whnf
  refine And.intro (by simp only [allP, List.nil_append, List.cons_append, true_and]; and_intros <;> first | rfl | exact h1.1 | exact h1.2 | exact Nat.zero_le _) ?_
  (set_option smartUnfolding false in conv => whnf)
  rw [List.nil_append]
  refine And.intro (by simp only [allP, List.nil_append, List.cons_append, true_and]; rw [bl_length, bl_length]; omega) ?_
  (set_option smartUnfolding false in conv => whnf)
  first | exact bl_append _ _ | (rw [List.nil_append]; exact bl_append _ _)
theorem rnum_sound : Sound Tryz.prog 92 cRNum := does_sound mixed tabOk_prog gRef03_ok Tryz.func92 rnum_does
abbrev cRSize : Ctr := cR vE (fun n : Nat => isI .i64 n) (fun n => n ≤ 9223372036854775807)
theorem rsize_does : Does gRef03 tab Tryz.f94 cRSize := by
  rintro ⟨b, n⟩ ⟨(h1 : n ≤ 9223372036854775807), h2⟩
  conv => whnf
  rw [wrap_u64n (by omega)]
  refine ⟨n, ?_⟩
  conv => whnf
  refine And.intro (by simp only [allP, List.nil_append, List.cons_append, true_and]; and_intros <;> first | rfl | omega) ?_
  (set_option smartUnfolding false in conv => whnf)
  refine And.intro (by simp only [allP, List.nil_append, List.cons_append, true_and]; rw [bl_length, bl_length]; omega) ?_
  (set_option smartUnfolding false in conv => whnf)
  exact bl_append _ _
theorem rsize_sound : Sound Tryz.prog 94 cRSize := does_sound mixed tabOk_prog gRef03_ok Tryz.func94 rsize_does
abbrev cRBool : Ctr := cR boB (fun b : Bool => isB b) (fun _ => True)
theorem rbool_does : Does gRef03 tab Tryz.f123 cRBool := by
  rintro ⟨b, t⟩ ⟨-, h2⟩
  cases t
  · conv => whnf
    refine And.intro (by simp only [allP, List.nil_append, List.cons_append, true_and]; rw [bl_length]; simp only [boB, List.length_cons, List.length_nil] at h2 ⊢; omega) ?_
    (set_option smartUnfolding false in conv => whnf)
    exact bl_append _ _
  · conv => whnf
    refine And.intro (by simp only [allP, List.nil_append, List.cons_append, true_and]; rw [bl_length]; simp only [boB, List.length_cons, List.length_nil] at h2 ⊢; omega) ?_
    (set_option smartUnfolding false in conv => whnf)
    exact bl_append _ _
theorem rbool_sound : Sound Tryz.prog 123 cRBool := does_sound mixed tabOk_prog gRef03_ok Tryz.func123 rbool_does
theorem gR6a_e : True := trivial
def gR6a : List (FuncId × Ctr) := (94, cRSize) :: (123, cRBool) :: (92, cRNum) :: gRef03
theorem gR6a_ok : GamOk Tryz.prog gR6a := GamOk.cons (GamOk.cons (GamOk.cons gRef03_ok Tryz.func92 (by kernel_rfl) (by kernel_rfl) rnum_sound) Tryz.func123 (by kernel_rfl) (by kernel_rfl) rbool_sound) Tryz.func94 (by kernel_rfl) (by kernel_rfl) rsize_sound
abbrev cRData : Ctr := cR recB (fun l : List UInt8 => .p false (.sl 1 (bl l))) (fun _ => True)
theorem rdata_does : Does gR6a tab Tryz.f128 cRData := by
  rintro ⟨b, l⟩ ⟨-, h2⟩
  have hbl := bl_length l
  rw [recB_len] at h2
  conv => whnf
  rw [hbl]
  refine ⟨(b, l.length), ?_⟩
  conv => whnf
  refine And.intro (by simp only [allP, List.nil_append, List.cons_append, true_and]; and_intros <;> first | rfl | omega) ?_
  (set_option smartUnfolding false in conv => whnf)
  refine And.intro (by simp only [allP, List.nil_append, List.cons_append, true_and]; rw [bl_length, hbl, List.length_append]; omega) ?_
  (set_option smartUnfolding false in conv => whnf)
  rw [← bl_append, recB, List.append_assoc]
  and_intros <;> first | rfl | exact bl_isFlat _
theorem rdata_sound : Sound Tryz.prog 128 cRData := does_sound mixed tabOk_prog gR6a_ok Tryz.func128 rdata_does
abbrev cRText : Ctr := cR txB (fun s : ByteArray => .p true (.str s)) (fun _ => True)
theorem txB_len (s : ByteArray) : (txB s).length = (vE s.size).length + s.size := by unfold txB; rw [List.length_append]; rfl
theorem rtext_does : Does gR6a tab Tryz.f108 cRText := by
  rintro ⟨b, s⟩ ⟨-, h2⟩
  rw [txB_len] at h2
  conv => whnf
  refine ⟨(b, s.size), ?_⟩
  conv => whnf
  refine And.intro (by simp only [allP, List.nil_append, List.cons_append, true_and]; and_intros <;> first | rfl | omega) ?_
  (set_option smartUnfolding false in conv => whnf)
  rw [strEls_eq]
  refine And.intro (by simp only [allP, List.nil_append, List.cons_append, true_and]; rw [bl_length, List.length_append]; omega) ?_
  (set_option smartUnfolding false in conv => whnf)
  rw [← bl_append, txB, List.append_assoc]
  first | done | rfl | (and_intros <;> first | rfl | exact bl_isFlat _)
theorem rtext_sound : Sound Tryz.prog 108 cRText := does_sound mixed tabOk_prog gR6a_ok Tryz.func108 rtext_does
def gR6 : List (FuncId × Ctr) := (108, cRText) :: (128, cRData) :: gR6a
theorem gR6_ok : GamOk Tryz.prog gR6 := GamOk.cons (GamOk.cons gR6a_ok Tryz.func128 (by kernel_rfl) (by kernel_rfl) rdata_sound) Tryz.func108 (by kernel_rfl) (by kernel_rfl) rtext_sound
abbrev cRtexts : Ctr := cR (lsB txB) (fun l : List ByteArray => .p false (.sl 1 (tl l))) (fun l => l.length ≤ 140737488351232 ∧ ∀ x ∈ l, True)
theorem Rtexts_does : Does gR6 tab Tryz.f157 cRtexts := by
  rintro ⟨b, l⟩ ⟨⟨h1, h2⟩, h3⟩
  have hil : (tl l).length = l.length := List.length_map ..
  have h3' : b.length + ((vE l.length).length + (l.map txB).flatten.length) ≤ 1000000000000 := by rw [lsB, List.length_append] at h3; exact h3
  conv => whnf
  rw [hil]
  refine ⟨(b, l.length), ?_⟩
  conv => whnf
  refine And.intro (by simp only [allP, List.nil_append, List.cons_append, true_and]; repeat' (first | assumption | rfl | trivial | refine And.intro ?_ ?_ | omega)) ?_
  conv => whnf
  refine ⟨{i : Nat // i ≤ l.length}, fun i => ⟨[(0, .rowf 1), (1, .p false (.sl 1 (tl l))), (5, isI .i64 i.1)], [(0, .gone), (1, .row 5 1 true false (bl (b ++ vE l.length ++ ((l.take i.1).map txB).flatten)))], 99⟩, fun i => l.length - i.1, ⟨⟨0, Nat.zero_le _⟩, ?_⟩, ?_⟩
  · conv => whnf
    rw [List.take_zero, List.map_nil, List.flatten_nil, List.append_nil]
    first | done | (and_intros <;> rfl)
  rintro ⟨i, hi⟩
  show aw _ _ _ _ _ _ ⟨[(0, .rowf 1), (1, .p false (.sl 1 (tl l))), (5, isI .i64 i)], [(0, .gone), (1, .row 5 1 true false (bl (b ++ vE l.length ++ ((l.take i).map txB).flatten)))], 99⟩
  conv => whnf
  rw [hil]
  by_cases hlt : i < l.length
  · rw [decide_eq_true (show (i : Int) < (l.length : Int) by omega)]
    conv => whnf
    refine And.intro (by simp only [allP, List.nil_append, List.cons_append, true_and]; rw [hil]; omega) ?_
    conv => whnf
    rw [Int.toNat_natCast, tl_getD _ _ _ hlt]
    conv => whnf
    have hfl := flat_one_len txB hlt
    have hst := flat_step txB hlt
    have hok := h2 _ (List.getElem_mem hlt)
    generalize l[i] = x at hfl hst hok ⊢
    refine ⟨(b ++ vE l.length ++ ((l.take i).map txB).flatten, x), ?_⟩
    conv => whnf
    refine And.intro (by simp only [allP, List.nil_append, List.cons_append, true_and]; repeat' (first | assumption | rfl | trivial | (rw [List.length_append, List.length_append]; omega) | refine And.intro ?_ ?_ | omega)) ?_
    conv => whnf
    refine ⟨⟨i + 1, by omega⟩, by simp only; omega, ?_⟩
    conv => whnf
    rw [hst]
    and_intros <;> first | rfl | (rw [wrap_i64 (by omega) (by omega)]; rfl) | (rw [List.append_assoc]; rfl) | (rw [← List.append_assoc]; rfl)
  · rw [decide_eq_false (show ¬ (i : Int) < (l.length : Int) by omega)]
    conv => whnf
    rw [List.take_of_length_le (by omega), List.append_assoc]
    first | done | (and_intros <;> rfl)
theorem Rtexts_sound : Sound Tryz.prog 157 cRtexts := does_sound mixed tabOk_prog gR6_ok Tryz.func157 Rtexts_does
def gQ1 : List (FuncId × Ctr) := (157, cRtexts) :: gR6
theorem gQ1_ok : GamOk Tryz.prog gQ1 := GamOk.cons gR6_ok Tryz.func157 (by kernel_rfl) (by kernel_rfl) Rtexts_sound
abbrev cRrecords : Ctr := cR (lsB recB) (fun l : List (List UInt8) => .p false (.sl 1 (ll l))) (fun l => l.length ≤ 140737488351232 ∧ ∀ x ∈ l, True)
theorem Rrecords_does : Does gQ1 tab Tryz.f93 cRrecords := by
  rintro ⟨b, l⟩ ⟨⟨h1, h2⟩, h3⟩
  have hil : (ll l).length = l.length := List.length_map ..
  have h3' : b.length + ((vE l.length).length + (l.map recB).flatten.length) ≤ 1000000000000 := by rw [lsB, List.length_append] at h3; exact h3
  conv => whnf
  rw [hil]
  refine ⟨(b, l.length), ?_⟩
  conv => whnf
  refine And.intro (by simp only [allP, List.nil_append, List.cons_append, true_and]; repeat' (first | assumption | rfl | trivial | refine And.intro ?_ ?_ | omega)) ?_
  conv => whnf
  refine ⟨{i : Nat // i ≤ l.length}, fun i => ⟨[(0, .rowf 1), (1, .p false (.sl 1 (ll l))), (5, isI .i64 i.1)], [(0, .gone), (1, .row 5 1 true false (bl (b ++ vE l.length ++ ((l.take i.1).map recB).flatten)))], 99⟩, fun i => l.length - i.1, ⟨⟨0, Nat.zero_le _⟩, ?_⟩, ?_⟩
  · conv => whnf
    rw [List.take_zero, List.map_nil, List.flatten_nil, List.append_nil]
    first | done | (and_intros <;> rfl)
  rintro ⟨i, hi⟩
  show aw _ _ _ _ _ _ ⟨[(0, .rowf 1), (1, .p false (.sl 1 (ll l))), (5, isI .i64 i)], [(0, .gone), (1, .row 5 1 true false (bl (b ++ vE l.length ++ ((l.take i).map recB).flatten)))], 99⟩
  conv => whnf
  rw [hil]
  by_cases hlt : i < l.length
  · rw [decide_eq_true (show (i : Int) < (l.length : Int) by omega)]
    conv => whnf
    refine And.intro (by simp only [allP, List.nil_append, List.cons_append, true_and]; rw [hil]; omega) ?_
    conv => whnf
    rw [Int.toNat_natCast, ll_getD _ _ _ hlt]
    conv => whnf
    have hfl := flat_one_len recB hlt
    have hst := flat_step recB hlt
    have hok := h2 _ (List.getElem_mem hlt)
    generalize l[i] = x at hfl hst hok ⊢
    refine ⟨(b ++ vE l.length ++ ((l.take i).map recB).flatten, x), ?_⟩
    conv => whnf
    refine And.intro (by simp only [allP, List.nil_append, List.cons_append, true_and]; repeat' (first | assumption | rfl | trivial | (rw [List.length_append, List.length_append]; omega) | refine And.intro ?_ ?_ | omega)) ?_
    conv => whnf
    refine ⟨⟨i + 1, by omega⟩, by simp only; omega, ?_⟩
    conv => whnf
    rw [hst]
    and_intros <;> first | rfl | (rw [wrap_i64 (by omega) (by omega)]; rfl) | (rw [List.append_assoc]; rfl) | (rw [← List.append_assoc]; rfl)
  · rw [decide_eq_false (show ¬ (i : Int) < (l.length : Int) by omega)]
    conv => whnf
    rw [List.take_of_length_le (by omega), List.append_assoc]
    first | done | (and_intros <;> rfl)
theorem Rrecords_sound : Sound Tryz.prog 93 cRrecords := does_sound mixed tabOk_prog gQ1_ok Tryz.func93 Rrecords_does
def gQ2 : List (FuncId × Ctr) := (93, cRrecords) :: gQ1
theorem gQ2_ok : GamOk Tryz.prog gQ2 := GamOk.cons gQ1_ok Tryz.func93 (by kernel_rfl) (by kernel_rfl) Rrecords_sound
end Go.Proofs.YtingmlhhabaplaaGreat.Ev
