/- Batches read: the program's. No conditions. -/
import Derived.Test.YtjgmlkogppibfaaEvDecP
import Derived.Test.YtjgmlkogppibfaaEvRec
namespace Go.Proofs.Ytjgmlkogppibfaa.Ev
open Go
set_option linter.unusedVariables false
set_option linter.unusedSimpArgs false
set_option maxRecDepth 100000
set_option maxHeartbeats 4000000
abbrev cSgn : Ctr := ⟨List UInt8 × Int × Bool, 3, fun (b, a, f) => [.ptr 0 0, .ptr 1 0, .ptr 2 0], fun (b, a, f) => [(0, .box [.p false (.sl 1 (bl b))]), (1, .box [isI .i64 a]), (2, .box [isB f])],
  fun (b, a, f) => b.length ≤ 4611686018427387904 ∧ -9223372036854775808 ≤ a ∧ a ≤ 9223372036854775807, fun (b, a, f) => isI .i64 (unzig (vGet b a).1),
  fun (b, a, f) => [(0, .box [.p false (.sl 1 (bl b))]), (1, .box [isI .i64 (mx (vGet b a).2.1 a)]), (2, .box [isB (f && (vGet b a).2.2)])]⟩
theorem sgn_does : Does gVar tab Try.f52 cSgn := by
  rintro ⟨b, a, f⟩ ⟨h1, h2, h3⟩
  conv => whnf
  refine ⟨(b, a), ?_⟩
  conv => whnf
  refine And.intro (by simp only [allP, List.nil_append, List.cons_append, true_and]; exact ⟨rfl, rfl, h1, h2, h3⟩) ?_
  conv => whnf
  cases f
  · conv => whnf
    refine And.intro (by first | exact Nat.le_of_ble_eq_true rfl | exact ⟨Nat.le_of_ble_eq_true rfl, rfl⟩ | exact rfl | decide | (simp [allP]; done)) ?_
    conv => whnf
    refine And.intro (by first | exact Nat.le_of_ble_eq_true rfl | exact ⟨Nat.le_of_ble_eq_true rfl, rfl⟩ | exact rfl | decide | (simp [allP]; done)) ?_
    conv => whnf
    exact ⟨rfl, rfl, rfl, rfl⟩
  · conv => whnf
    refine And.intro (by first | exact Nat.le_of_ble_eq_true rfl | exact ⟨Nat.le_of_ble_eq_true rfl, rfl⟩ | exact rfl | decide | (simp [allP]; done)) ?_
    conv => whnf
    refine And.intro (by first | exact Nat.le_of_ble_eq_true rfl | exact ⟨Nat.le_of_ble_eq_true rfl, rfl⟩ | exact rfl | decide | (simp [allP]; done)) ?_
    conv => whnf
    exact ⟨rfl, rfl, rfl, rfl⟩
theorem sgn_sound : Sound Try.prog 52 cSgn := does_sound mixed tabOk_prog gVar_ok Try.func52 sgn_does
abbrev cNum : Ctr := ⟨List UInt8 × Int × Bool × Nat, 3, fun (b, a, f, m) => [isI .i64 m, .ptr 0 0, .ptr 1 0, .ptr 2 0], fun (b, a, f, m) => [(0, .box [.p false (.sl 1 (bl b))]), (1, .box [isI .i64 a]), (2, .box [isB f])],
  fun (b, a, f, m) => b.length ≤ 4611686018427387904 ∧ -9223372036854775808 ≤ a ∧ a ≤ 9223372036854775807 ∧ m ≤ 1000000, fun (b, a, f, m) => isI .i64 (mn (vGet b a).1 m),
  fun (b, a, f, m) => [(0, .box [.p false (.sl 1 (bl b))]), (1, .box [isI .i64 (mx (vGet b a).2.1 a)]), (2, .box [isB (f && ((vGet b a).2.2 && decide ((vGet b a).1 ≤ m)))])]⟩
theorem num_does : Does gVar tab Try.f54 cNum := by
  rintro ⟨b, a, f, m⟩ ⟨h1, h2, h3, h4⟩
  have hv := vGet_lt b a
  have hm : IntKind.u64.wrap ((m : Nat) : Int) = ((m : Nat) : Int) := wrap_u64n (by omega)
  have hmn : IntKind.i64.wrap (mn (vGet b a).1 (IntKind.u64.wrap ((m : Nat) : Int))) = mn (vGet b a).1 m := by
    rw [hm, wrap_i64] <;> unfold mn <;> split <;> omega
  conv => whnf
  refine ⟨(b, a), ?_⟩
  conv => whnf
  refine And.intro (by simp only [allP, List.nil_append, List.cons_append, true_and]; exact ⟨rfl, rfl, h1, h2, h3⟩) ?_
  conv => whnf
  have hmn' : IntKind.i64.wrap (if IntKind.u64.wrap ((m : Nat) : Int) < (vGet b a).1 then IntKind.u64.wrap ((m : Nat) : Int) else (vGet b a).1) = mn (vGet b a).1 m := hmn
  cases f
  · conv => whnf
    refine And.intro (by first | exact Nat.le_of_ble_eq_true rfl | exact ⟨Nat.le_of_ble_eq_true rfl, rfl⟩ | exact rfl | decide | (simp [allP]; done)) ?_
    conv => whnf
    refine And.intro (by first | exact Nat.le_of_ble_eq_true rfl | exact ⟨Nat.le_of_ble_eq_true rfl, rfl⟩ | exact rfl | decide | (simp [allP]; done)) ?_
    conv => whnf
    rw [hmn']
    exact ⟨rfl, rfl, rfl, rfl⟩
  · conv => whnf
    cases hok : (vGet b a).2.2
    · conv => whnf
      refine And.intro (by first | exact Nat.le_of_ble_eq_true rfl | exact ⟨Nat.le_of_ble_eq_true rfl, rfl⟩ | exact rfl | decide | (simp [allP]; done)) ?_
      conv => whnf
      refine And.intro (by first | exact Nat.le_of_ble_eq_true rfl | exact ⟨Nat.le_of_ble_eq_true rfl, rfl⟩ | exact rfl | decide | (simp [allP]; done)) ?_
      conv => whnf
      rw [hmn', hok]
      exact ⟨rfl, rfl, rfl, rfl⟩
    · conv => whnf
      rw [hm]
      refine And.intro (by first | exact Nat.le_of_ble_eq_true rfl | exact ⟨Nat.le_of_ble_eq_true rfl, rfl⟩ | exact rfl | decide | (simp [allP]; done)) ?_
      conv => whnf
      refine And.intro (by first | exact Nat.le_of_ble_eq_true rfl | exact ⟨Nat.le_of_ble_eq_true rfl, rfl⟩ | exact rfl | decide | (simp [allP]; done)) ?_
      conv => whnf
      rw [hm] at hmn'
      rw [hm, hmn', hok]
      exact ⟨rfl, rfl, rfl, rfl⟩
theorem num_sound : Sound Try.prog 54 cNum := does_sound mixed tabOk_prog gVar_ok Try.func54 num_does
def gDec : List (FuncId × Ctr) := (52, cSgn) :: (54, cNum) :: gEnc
theorem gDec_ok : GamOk Try.prog gDec := GamOk.cons (GamOk.cons gEnc_ok Try.func54 (by kernel_rfl) (by kernel_rfl) num_sound) Try.func52 (by kernel_rfl) (by kernel_rfl) sgn_sound
theorem ll_append' (a b : List (List UInt8)) : ll (a ++ b) = ll a ++ ll b := by simp [ll]
abbrev cDec : Ctr := ⟨List UInt8 × Option (Int × BT), 0, fun (b, o) => [.p false (.sl 1 (bl b))], fun _ => [],
  fun (b, o) => b.length ≤ 4611686018427387904 ∧ match o with | some (m, x) => okE m x ∧ enB m x = b | none => badE b,
  fun (b, o) => match o with
    | some (m, x) => .tuple [isI .i64 m, .agg [isI .i64 x.1, isI .i64 x.2.1, isI .i64 x.2.2.1, .rowf 0], isI .i64 0]
    | none => .tuple [isI .i64 0, .agg [isI .i64 0, isI .i64 0, isI .i64 0, .p true .nilsl], isI .i64 50],
  fun (b, o) => match o with
    | some (m, x) => [(0, .row 22 1 true false (ll x.2.2.2))]
    | none => []⟩
/-- What a reader of rows holds. -/
def decI (b : List UInt8) (p e f : Int) (n : Int) (a : Int) (F : Bool) (rs : List (List UInt8)) : Prop :=
  0 ≤ n ∧ (rs.length : Int) + n ≤ 256 ∧ 12 ≤ a ∧ a ≤ b.length + 12 ∧ (F = false → badE b) ∧ (F = true → ∃ A : Nat, a = (A : Int) ∧ ∃ N : Nat, (rs.length : Int) + n = N ∧ soFar b p e f N rs A)
theorem dec_does : Does gDec tab Try.f28 cDec := by
  rintro ⟨b, o⟩ ⟨h1, ho⟩
  have hbl := bl_length b
  conv => whnf
  rw [hbl]
  have hF : (b.length < 12 ∧ badE b) ∨ (12 ≤ b.length ∧ 60000 < b.length ∧ badE b) ∨ (12 ≤ b.length ∧ b.length ≤ 60000) := by
    by_cases h12 : b.length < 12
    · exact Or.inl ⟨h12, bad_len (Or.inl h12)⟩
    · by_cases h60 : 60000 < b.length
      · exact Or.inr (Or.inl ⟨by omega, h60, bad_len (Or.inr h60)⟩)
      · exact Or.inr (Or.inr ⟨by omega, by omega⟩)
  rcases hF with ⟨h12, hbad⟩ | ⟨h12, h60, hbad⟩ | ⟨h12, h60⟩
  · rw [decide_eq_false (show ¬ ((b.length : Int) ≥ 12) by omega)]
    (set_option smartUnfolding false in conv => whnf)
    refine And.intro (by first | exact Nat.le_of_ble_eq_true rfl | exact ⟨Nat.le_of_ble_eq_true rfl, rfl⟩ | exact rfl | decide | (simp [allP]; done)) ?_
    conv => whnf
    refine And.intro (by first | exact Nat.le_of_ble_eq_true rfl | exact ⟨Nat.le_of_ble_eq_true rfl, rfl⟩ | exact rfl | decide | (simp [allP]; done)) ?_
    conv => whnf
    refine ⟨by rfl, ?_⟩
    show aw _ _ _ _ _ _ _
    conv => whnf
    refine ⟨(b, 12, false), ?_⟩
    conv => whnf
    refine And.intro (by simp only [allP, List.nil_append, List.cons_append, true_and]; and_intros <;> first | rfl | exact h1 | decide | omega) ?_
    conv => whnf
    have he1 := vGet_end b 12
    generalize hg1 : vGet b 12 = g1 at he1
    have hm1 : 12 ≤ mx g1.2.1 12 ∧ mx g1.2.1 12 ≤ b.length + 12 := by unfold mx; split <;> omega
    refine ⟨(b, mx g1.2.1 12, false && g1.2.2), ?_⟩
    conv => whnf
    refine And.intro (by simp only [allP, List.nil_append, List.cons_append, true_and]; and_intros <;> first | rfl | exact h1 | decide | omega) ?_
    conv => whnf
    have he2 := vGet_end b (mx g1.2.1 12)
    generalize hg2 : vGet b (mx g1.2.1 12) = g2 at he2
    have hm2 : 12 ≤ mx g2.2.1 (mx g1.2.1 12) ∧ mx g2.2.1 (mx g1.2.1 12) ≤ b.length + 12 := by rw [mx]; split <;> omega
    refine ⟨(b, mx g2.2.1 (mx g1.2.1 12), (false && g1.2.2) && g2.2.2), ?_⟩
    conv => whnf
    refine And.intro (by simp only [allP, List.nil_append, List.cons_append, true_and]; and_intros <;> first | rfl | exact h1 | decide | omega) ?_
    conv => whnf
    have he3 := vGet_end b (mx g2.2.1 (mx g1.2.1 12))
    generalize hg3 : vGet b (mx g2.2.1 (mx g1.2.1 12)) = g3 at he3
    have hm3 : 12 ≤ mx g3.2.1 (mx g2.2.1 (mx g1.2.1 12)) ∧ mx g3.2.1 (mx g2.2.1 (mx g1.2.1 12)) ≤ b.length + 12 := by rw [mx]; split <;> omega
    refine And.intro (by first | exact Nat.le_of_ble_eq_true rfl | exact ⟨Nat.le_of_ble_eq_true rfl, rfl⟩ | exact rfl | decide | (simp [allP]; done)) ?_
    conv => whnf
    refine And.intro (by first | exact Nat.le_of_ble_eq_true rfl | exact ⟨Nat.le_of_ble_eq_true rfl, rfl⟩ | exact rfl | decide | (simp [allP]; done)) ?_
    conv => whnf
    refine And.intro (by first | exact Nat.le_of_ble_eq_true rfl | exact ⟨Nat.le_of_ble_eq_true rfl, rfl⟩ | exact rfl | decide | (simp [allP]; done)) ?_
    conv => whnf
    refine ⟨(b, mx g3.2.1 (mx g2.2.1 (mx g1.2.1 12)), ((false && g1.2.2) && g2.2.2) && g3.2.2, 256), ?_⟩
    conv => whnf
    refine And.intro (by simp only [allP, List.nil_append, List.cons_append, true_and]; and_intros <;> first | rfl | exact h1 | decide | omega) ?_
    conv => whnf
    have he4 := vGet_end b (mx g3.2.1 (mx g2.2.1 (mx g1.2.1 12)))
    have hl4 := vGet_lt b (mx g3.2.1 (mx g2.2.1 (mx g1.2.1 12)))
    generalize hg4 : vGet b (mx g3.2.1 (mx g2.2.1 (mx g1.2.1 12))) = g4 at he4 hl4
    have hm4 : 12 ≤ mx g4.2.1 (mx g3.2.1 (mx g2.2.1 (mx g1.2.1 12))) ∧ mx g4.2.1 (mx g3.2.1 (mx g2.2.1 (mx g1.2.1 12))) ≤ b.length + 12 := by rw [mx]; split <;> omega
    have hn4 : 0 ≤ mn g4.1 ((256 : Nat) : Int) ∧ mn g4.1 ((256 : Nat) : Int) ≤ 256 := by rw [mn]; split <;> omega
    have hJ0 : decI b (unzig g1.1) (unzig g2.1) (unzig g3.1) (mn g4.1 ((256 : Nat) : Int)) (mx g4.2.1 (mx g3.2.1 (mx g2.2.1 (mx g1.2.1 12)))) ((((false && g1.2.2) && g2.2.2) && g3.2.2) && (g4.2.2 && decide (g4.1 ≤ ((256 : Nat) : Int)))) [] := by
      refine ⟨hn4.1, by simpa using hn4.2, hm4.1, hm4.2, fun _ => hbad, fun h => by simp at h⟩
    clear he1 he2 he3 he4 hl4 hm1 hm2 hm3
    generalize mx g4.2.1 (mx g3.2.1 (mx g2.2.1 (mx g1.2.1 12))) = a0 at hm4 hJ0
    generalize mn g4.1 ((256 : Nat) : Int) = n0 at hn4 hJ0
    generalize hF4 : ((((false && g1.2.2) && g2.2.2) && g3.2.2) && (g4.2.2 && decide (g4.1 ≤ ((256 : Nat) : Int)))) = F4 at hJ0
    generalize unzig g1.1 = p at hJ0
    generalize unzig g2.1 = e at hJ0
    generalize unzig g3.1 = f at hJ0
    refine ⟨{q : Int × Int × Bool × List (List UInt8) // decI b p e f q.1 q.2.1 q.2.2.1 q.2.2.2}, fun q => ⟨[(1, .ptr 0 0), (3, .ptr 1 0), (5, .ptr 2 0), (6, .ptr 3 0), (8, .func 54 [] [.ptr 0 0, .ptr 2 0, .ptr 3 0]), (9, .ptr 4 0), (10, isI .i64 q.1.1)], [(0, .box [.p false (.sl 1 (bl b))]), (1, .box [isI .i64 0, isI .i64 0, isI .i64 0, .p true .nilsl]), (2, .box [isI .i64 q.1.2.1]), (3, .box [isB q.1.2.2.1]), (4, .box [isI .i64 p, isI .i64 e, isI .i64 f, .rowf 5]), (5, .row 22 1 true false (ll q.1.2.2.2))], 99⟩, fun q => q.1.1.toNat, ⟨⟨(n0, a0, F4, []), hJ0⟩, ?_⟩, ?_⟩
    · conv => whnf
      exact ⟨rfl, rfl, rfl, rfl, rfl, rfl, rfl, rfl, rfl, rfl, rfl, rfl⟩
    rintro ⟨⟨n, a, F, rs⟩, hJ⟩
    simp only at hJ
    show aw _ _ _ _ _ _ ⟨[(1, .ptr 0 0), (3, .ptr 1 0), (5, .ptr 2 0), (6, .ptr 3 0), (8, .func 54 [] [.ptr 0 0, .ptr 2 0, .ptr 3 0]), (9, .ptr 4 0), (10, isI .i64 n)], [(0, .box [.p false (.sl 1 (bl b))]), (1, .box [isI .i64 0, isI .i64 0, isI .i64 0, .p true .nilsl]), (2, .box [isI .i64 a]), (3, .box [isB F]), (4, .box [isI .i64 p, isI .i64 e, isI .i64 f, .rowf 5]), (5, .row 22 1 true false (ll rs))], 99⟩
    clear hJ0 hm4 hn4 hF4 hg1 hg2 hg3 hg4
    conv => whnf
    obtain ⟨k1, k2, k3, k4, k5, k6⟩ := hJ
    by_cases hn : 0 < n
    · rw [decide_eq_true (show n > 0 from hn)]
      conv => whnf
      cases F
      · conv => whnf
        rcases o with _ | ⟨m, x⟩
        case' some => exact absurd ho.2 (k5 rfl m x ho.1)
        conv => whnf
        refine And.intro (by first | exact Nat.le_of_ble_eq_true rfl | exact ⟨Nat.le_of_ble_eq_true rfl, rfl⟩ | exact rfl | decide | (simp [allP]; done)) ?_
        conv => whnf
        refine And.intro (by first | exact Nat.le_of_ble_eq_true rfl | exact ⟨Nat.le_of_ble_eq_true rfl, rfl⟩ | exact rfl | decide | (simp [allP]; done)) ?_
        conv => whnf
        and_intros <;> rfl
      · conv => whnf
        obtain ⟨A0, rfl, N, hN, hs⟩ := k6 rfl
        refine ⟨(b, (A0 : Int), true, 1024), ?_⟩
        conv => whnf
        refine And.intro (by simp only [allP, List.nil_append, List.cons_append, true_and]; and_intros <;> first | rfl | exact h1 | decide | omega) ?_
        conv => whnf
        obtain ⟨A, z, e1, e2, e3, e4, e5, e6, e7, e8⟩ := row_law2 hs (by omega) (g := vGet b (A0 : Int)) rfl
        rw [e1, e2]
        generalize hF5 : (true && ((vGet b (A0 : Int)).2.2 && decide ((vGet b (A0 : Int)).1 ≤ ((1024 : Nat) : Int)))) = F5
        rw [Bool.true_and] at hF5
        rw [hF5] at e7 e8
        clear hF5
        have hwz : IntKind.i64.wrap ((A : Int) + (z : Int)) = ((A + z : Nat) : Int) := by rw [wrap_i64 (by omega) (by omega)]; rfl
        rw [hwz, hbl]
        by_cases hlz : b.length < A + z
        · rw [decide_eq_true (show ((A + z : Nat) : Int) > (b.length : Int) by omega)]
          conv => whnf
          refine And.intro (by first | exact Nat.le_of_ble_eq_true rfl | exact ⟨Nat.le_of_ble_eq_true rfl, rfl⟩ | exact rfl | decide | (simp [allP]; done)) ?_
          conv => whnf
          rcases o with _ | ⟨m, x⟩
          case' some => exact absurd ho.2 (e6 hlz m x ho.1)
          conv => whnf
          refine And.intro (by first | exact Nat.le_of_ble_eq_true rfl | exact ⟨Nat.le_of_ble_eq_true rfl, rfl⟩ | exact rfl | decide | (simp [allP]; done)) ?_
          conv => whnf
          refine And.intro (by first | exact Nat.le_of_ble_eq_true rfl | exact ⟨Nat.le_of_ble_eq_true rfl, rfl⟩ | exact rfl | decide | (simp [allP]; done)) ?_
          conv => whnf
          and_intros <;> rfl
        · rw [decide_eq_false (show ¬ ((A + z : Nat) : Int) > (b.length : Int) by omega)]
          conv => whnf
          rw [hwz]
          refine And.intro (by simp only [allP, List.nil_append, List.cons_append, true_and]; rw [hbl]; omega) ?_
          conv => whnf
          rw [show List.drop ((A : Int)).toNat (List.take (((A + z : Nat) : Int)).toNat (bl b)) = bl ((b.drop A).take z) from by rw [Int.toNat_natCast, Int.toNat_natCast, List.drop_take, Nat.add_sub_cancel_left, bl_drop, bl_take]]
          conv => whnf
          refine ⟨((b.drop A).take z), ?_⟩
          conv => whnf
          refine And.intro (by simp only [allP, List.nil_append, List.cons_append, true_and]; exact ⟨rfl, by rw [List.length_take, List.length_drop]; omega⟩) ?_
          conv => whnf
          refine And.intro (by simp only [allP, List.nil_append, List.cons_append, true_and]; rw [ll_length]; simp only [List.length_cons, List.length_nil]; omega) ?_
          conv => whnf
          refine And.intro (by first | exact Nat.le_of_ble_eq_true rfl | exact ⟨Nat.le_of_ble_eq_true rfl, rfl⟩ | exact rfl | decide | (simp [allP]; done)) ?_
          conv => whnf
          refine ⟨by rfl, ?_⟩
          show aw _ _ _ _ _ _ _
          conv => whnf
          rw [hwz]
          refine And.intro (by first | exact Nat.le_of_ble_eq_true rfl | exact ⟨Nat.le_of_ble_eq_true rfl, rfl⟩ | exact rfl | decide | (simp [allP]; done)) ?_
          conv => whnf
          refine ⟨⟨(n - 1, ((A + z : Nat) : Int), F5, rs ++ [(b.drop A).take z]), ?_⟩, by simp only; omega, ?_⟩
          · refine ⟨by simp only; omega, by simp only [List.length_append, List.length_cons, List.length_nil]; omega, by simp only; omega, by simp only; omega, fun h => e7 h, fun h => ⟨A + z, rfl, N, by simp only [List.length_append, List.length_cons, List.length_nil]; omega, e8 h (by omega)⟩⟩
          conv => whnf
          exact ⟨by rw [wrap_i64 (by omega) (by omega)]; rfl, rfl, rfl, rfl, rfl, rfl, rfl, rfl, rfl, rfl, rfl, by rw [ll_append']; rfl⟩
    obtain rfl : n = 0 := by omega
    rw [decide_eq_false (show ¬ (0 : Int) > 0 by omega)]
    conv => whnf
    cases F
    · conv => whnf
      rcases o with _ | ⟨m, x⟩
      case' some => exact absurd ho.2 (k5 rfl m x ho.1)
      conv => whnf
      refine And.intro (by first | exact Nat.le_of_ble_eq_true rfl | exact ⟨Nat.le_of_ble_eq_true rfl, rfl⟩ | exact rfl | decide | (simp [allP]; done)) ?_
      conv => whnf
      refine And.intro (by first | exact Nat.le_of_ble_eq_true rfl | exact ⟨Nat.le_of_ble_eq_true rfl, rfl⟩ | exact rfl | decide | (simp [allP]; done)) ?_
      conv => whnf
      and_intros <;> rfl
    conv => whnf
    obtain ⟨A, rfl, N, hN, hs⟩ := k6 rfl
    obtain ⟨q1, q2⟩ := end_law hs (by omega)
    rw [hbl]
    by_cases hA : A = b.length
    case' neg =>
      rw [show ((A : Int) != (b.length : Int)) = true from by rw [bne_iff_ne]; omega]
      conv => whnf
      rcases o with _ | ⟨m, x⟩
      case' some => exact absurd ho.2 (q1 hA m x ho.1)
      conv => whnf
      refine And.intro (by first | exact Nat.le_of_ble_eq_true rfl | exact ⟨Nat.le_of_ble_eq_true rfl, rfl⟩ | exact rfl | decide | (simp [allP]; done)) ?_
      conv => whnf
      refine And.intro (by first | exact Nat.le_of_ble_eq_true rfl | exact ⟨Nat.le_of_ble_eq_true rfl, rfl⟩ | exact rfl | decide | (simp [allP]; done)) ?_
      conv => whnf
      and_intros <;> rfl
    obtain ⟨q3, q4⟩ := q2 hA
    rw [show ((A : Int) != (b.length : Int)) = false from by rw [hA]; exact bne_self_eq_false _]
    conv => whnf
    refine ⟨(b, 0), ?_⟩
    conv => whnf
    refine And.intro (by simp only [allP, List.nil_append, List.cons_append, true_and]; exact ⟨rfl, rfl, h1, by decide, by decide⟩) ?_
    conv => whnf
    rw [show numV b 0 8 = (((numN b 0 8 : Nat) : Int), true) from numV_ok (by omega)]
    conv => whnf
    refine ⟨(b, 8), ?_⟩
    conv => whnf
    refine And.intro (by simp only [allP, List.nil_append, List.cons_append, true_and]; exact ⟨rfl, rfl, h1, by decide, by decide⟩) ?_
    conv => whnf
    rw [show numV b 8 4 = (((numN b 8 4 : Nat) : Int), true) from numV_ok (by omega)]
    conv => whnf
    refine And.intro (by simp only [allP, List.nil_append, List.cons_append, true_and]; rw [hbl]; omega) ?_
    conv => whnf
    rw [show List.drop (Int.toNat 12) (List.take (((bl b).length : Int)).toNat (bl b)) = bl (b.drop 12) from by rw [Int.toNat_natCast, List.take_length, bl_drop]; rfl]
    conv => whnf
    refine ⟨b.drop 12, ?_⟩
    conv => whnf
    refine And.intro (by simp only [allP, List.nil_append, List.cons_append, true_and]; exact ⟨rfl, by rw [List.length_drop]; have := hs.2.1; omega⟩) ?_
    conv => whnf
    by_cases hsum : numN b 8 4 = crV 0 (b.drop 12)
    case' neg =>
      rw [show (((numN b 8 4 : Nat) : Int) != ((crV 0 (b.drop 12) : Nat) : Int)) = true from by rw [bne_iff_ne]; omega]
      conv => whnf
      rcases o with _ | ⟨m, x⟩
      case' some => exact absurd ho.2 (q3 hsum m x ho.1)
      conv => whnf
      refine And.intro (by first | exact Nat.le_of_ble_eq_true rfl | exact ⟨Nat.le_of_ble_eq_true rfl, rfl⟩ | exact rfl | decide | (simp [allP]; done)) ?_
      conv => whnf
      refine And.intro (by first | exact Nat.le_of_ble_eq_true rfl | exact ⟨Nat.le_of_ble_eq_true rfl, rfl⟩ | exact rfl | decide | (simp [allP]; done)) ?_
      conv => whnf
      and_intros <;> rfl
    rw [show (((numN b 8 4 : Nat) : Int) != ((crV 0 (b.drop 12) : Nat) : Int)) = false from by rw [hsum]; exact bne_self_eq_false _]
    conv => whnf
    obtain ⟨w1, w2⟩ := i64_of (numN b 0 8) (numN_lt b 0 8)
    obtain ⟨w3, w4⟩ := q4 hsum _ w1 w2
    have hwv : IntKind.i64.wrap (((numN b 0 8 : Nat) : Int), true).1 = IntKind.i64.wrap ((numN b 0 8 : Nat) : Int) := rfl
    rw [hwv]
    generalize IntKind.i64.wrap ((numN b 0 8 : Nat) : Int) = m0 at w1 w2 w3 w4 ⊢
    refine And.intro (by first | exact Nat.le_of_ble_eq_true rfl | exact ⟨Nat.le_of_ble_eq_true rfl, rfl⟩ | exact rfl | decide | (simp [allP]; done)) ?_
    conv => whnf
    refine And.intro (by first | exact Nat.le_of_ble_eq_true rfl | exact ⟨Nat.le_of_ble_eq_true rfl, rfl⟩ | exact rfl | decide | (simp [allP]; done)) ?_
    conv => whnf
    rcases o with _ | ⟨m, x⟩
    case' none => exact absurd w4 (ho _ _ w3)
    obtain ⟨v1, v2, _⟩ := enB_sd (r := []) (s := []) ho.1 w3 (by rw [ho.2, w4])
    subst v1
    subst v2
    refine ⟨by rfl, ?_⟩
    show aw _ _ _ _ _ _ _
    conv => whnf
    refine And.intro (by first | exact Nat.le_of_ble_eq_true rfl | exact ⟨Nat.le_of_ble_eq_true rfl, rfl⟩ | exact rfl | decide | (simp [allP]; done)) ?_
    conv => whnf
    and_intros <;> rfl
  · rw [decide_eq_true (show ((b.length : Int) ≥ 12) by omega)]
    (set_option smartUnfolding false in conv => whnf)
    rw [hbl, decide_eq_false (show ¬ ((b.length : Int) ≤ 60000) by omega)]
    (set_option smartUnfolding false in conv => whnf)
    refine And.intro (by first | exact Nat.le_of_ble_eq_true rfl | exact ⟨Nat.le_of_ble_eq_true rfl, rfl⟩ | exact rfl | decide | (simp [allP]; done)) ?_
    conv => whnf
    refine And.intro (by first | exact Nat.le_of_ble_eq_true rfl | exact ⟨Nat.le_of_ble_eq_true rfl, rfl⟩ | exact rfl | decide | (simp [allP]; done)) ?_
    conv => whnf
    refine ⟨by rfl, ?_⟩
    show aw _ _ _ _ _ _ _
    conv => whnf
    refine ⟨(b, 12, false), ?_⟩
    conv => whnf
    refine And.intro (by simp only [allP, List.nil_append, List.cons_append, true_and]; and_intros <;> first | rfl | exact h1 | decide | omega) ?_
    conv => whnf
    have he1 := vGet_end b 12
    generalize hg1 : vGet b 12 = g1 at he1
    have hm1 : 12 ≤ mx g1.2.1 12 ∧ mx g1.2.1 12 ≤ b.length + 12 := by unfold mx; split <;> omega
    refine ⟨(b, mx g1.2.1 12, false && g1.2.2), ?_⟩
    conv => whnf
    refine And.intro (by simp only [allP, List.nil_append, List.cons_append, true_and]; and_intros <;> first | rfl | exact h1 | decide | omega) ?_
    conv => whnf
    have he2 := vGet_end b (mx g1.2.1 12)
    generalize hg2 : vGet b (mx g1.2.1 12) = g2 at he2
    have hm2 : 12 ≤ mx g2.2.1 (mx g1.2.1 12) ∧ mx g2.2.1 (mx g1.2.1 12) ≤ b.length + 12 := by rw [mx]; split <;> omega
    refine ⟨(b, mx g2.2.1 (mx g1.2.1 12), (false && g1.2.2) && g2.2.2), ?_⟩
    conv => whnf
    refine And.intro (by simp only [allP, List.nil_append, List.cons_append, true_and]; and_intros <;> first | rfl | exact h1 | decide | omega) ?_
    conv => whnf
    have he3 := vGet_end b (mx g2.2.1 (mx g1.2.1 12))
    generalize hg3 : vGet b (mx g2.2.1 (mx g1.2.1 12)) = g3 at he3
    have hm3 : 12 ≤ mx g3.2.1 (mx g2.2.1 (mx g1.2.1 12)) ∧ mx g3.2.1 (mx g2.2.1 (mx g1.2.1 12)) ≤ b.length + 12 := by rw [mx]; split <;> omega
    refine And.intro (by first | exact Nat.le_of_ble_eq_true rfl | exact ⟨Nat.le_of_ble_eq_true rfl, rfl⟩ | exact rfl | decide | (simp [allP]; done)) ?_
    conv => whnf
    refine And.intro (by first | exact Nat.le_of_ble_eq_true rfl | exact ⟨Nat.le_of_ble_eq_true rfl, rfl⟩ | exact rfl | decide | (simp [allP]; done)) ?_
    conv => whnf
    refine And.intro (by first | exact Nat.le_of_ble_eq_true rfl | exact ⟨Nat.le_of_ble_eq_true rfl, rfl⟩ | exact rfl | decide | (simp [allP]; done)) ?_
    conv => whnf
    refine ⟨(b, mx g3.2.1 (mx g2.2.1 (mx g1.2.1 12)), ((false && g1.2.2) && g2.2.2) && g3.2.2, 256), ?_⟩
    conv => whnf
    refine And.intro (by simp only [allP, List.nil_append, List.cons_append, true_and]; and_intros <;> first | rfl | exact h1 | decide | omega) ?_
    conv => whnf
    have he4 := vGet_end b (mx g3.2.1 (mx g2.2.1 (mx g1.2.1 12)))
    have hl4 := vGet_lt b (mx g3.2.1 (mx g2.2.1 (mx g1.2.1 12)))
    generalize hg4 : vGet b (mx g3.2.1 (mx g2.2.1 (mx g1.2.1 12))) = g4 at he4 hl4
    have hm4 : 12 ≤ mx g4.2.1 (mx g3.2.1 (mx g2.2.1 (mx g1.2.1 12))) ∧ mx g4.2.1 (mx g3.2.1 (mx g2.2.1 (mx g1.2.1 12))) ≤ b.length + 12 := by rw [mx]; split <;> omega
    have hn4 : 0 ≤ mn g4.1 ((256 : Nat) : Int) ∧ mn g4.1 ((256 : Nat) : Int) ≤ 256 := by rw [mn]; split <;> omega
    have hJ0 : decI b (unzig g1.1) (unzig g2.1) (unzig g3.1) (mn g4.1 ((256 : Nat) : Int)) (mx g4.2.1 (mx g3.2.1 (mx g2.2.1 (mx g1.2.1 12)))) ((((false && g1.2.2) && g2.2.2) && g3.2.2) && (g4.2.2 && decide (g4.1 ≤ ((256 : Nat) : Int)))) [] := by
      refine ⟨hn4.1, by simpa using hn4.2, hm4.1, hm4.2, fun _ => hbad, fun h => by simp at h⟩
    clear he1 he2 he3 he4 hl4 hm1 hm2 hm3
    generalize mx g4.2.1 (mx g3.2.1 (mx g2.2.1 (mx g1.2.1 12))) = a0 at hm4 hJ0
    generalize mn g4.1 ((256 : Nat) : Int) = n0 at hn4 hJ0
    generalize hF4 : ((((false && g1.2.2) && g2.2.2) && g3.2.2) && (g4.2.2 && decide (g4.1 ≤ ((256 : Nat) : Int)))) = F4 at hJ0
    generalize unzig g1.1 = p at hJ0
    generalize unzig g2.1 = e at hJ0
    generalize unzig g3.1 = f at hJ0
    refine ⟨{q : Int × Int × Bool × List (List UInt8) // decI b p e f q.1 q.2.1 q.2.2.1 q.2.2.2}, fun q => ⟨[(1, .ptr 0 0), (3, .ptr 1 0), (5, .ptr 2 0), (6, .ptr 3 0), (8, .func 54 [] [.ptr 0 0, .ptr 2 0, .ptr 3 0]), (9, .ptr 4 0), (10, isI .i64 q.1.1)], [(0, .box [.p false (.sl 1 (bl b))]), (1, .box [isI .i64 0, isI .i64 0, isI .i64 0, .p true .nilsl]), (2, .box [isI .i64 q.1.2.1]), (3, .box [isB q.1.2.2.1]), (4, .box [isI .i64 p, isI .i64 e, isI .i64 f, .rowf 5]), (5, .row 22 1 true false (ll q.1.2.2.2))], 99⟩, fun q => q.1.1.toNat, ⟨⟨(n0, a0, F4, []), hJ0⟩, ?_⟩, ?_⟩
    · conv => whnf
      exact ⟨rfl, rfl, rfl, rfl, rfl, rfl, rfl, rfl, rfl, rfl, rfl, rfl⟩
    rintro ⟨⟨n, a, F, rs⟩, hJ⟩
    simp only at hJ
    show aw _ _ _ _ _ _ ⟨[(1, .ptr 0 0), (3, .ptr 1 0), (5, .ptr 2 0), (6, .ptr 3 0), (8, .func 54 [] [.ptr 0 0, .ptr 2 0, .ptr 3 0]), (9, .ptr 4 0), (10, isI .i64 n)], [(0, .box [.p false (.sl 1 (bl b))]), (1, .box [isI .i64 0, isI .i64 0, isI .i64 0, .p true .nilsl]), (2, .box [isI .i64 a]), (3, .box [isB F]), (4, .box [isI .i64 p, isI .i64 e, isI .i64 f, .rowf 5]), (5, .row 22 1 true false (ll rs))], 99⟩
    clear hJ0 hm4 hn4 hF4 hg1 hg2 hg3 hg4
    conv => whnf
    obtain ⟨k1, k2, k3, k4, k5, k6⟩ := hJ
    by_cases hn : 0 < n
    · rw [decide_eq_true (show n > 0 from hn)]
      conv => whnf
      cases F
      · conv => whnf
        rcases o with _ | ⟨m, x⟩
        case' some => exact absurd ho.2 (k5 rfl m x ho.1)
        conv => whnf
        refine And.intro (by first | exact Nat.le_of_ble_eq_true rfl | exact ⟨Nat.le_of_ble_eq_true rfl, rfl⟩ | exact rfl | decide | (simp [allP]; done)) ?_
        conv => whnf
        refine And.intro (by first | exact Nat.le_of_ble_eq_true rfl | exact ⟨Nat.le_of_ble_eq_true rfl, rfl⟩ | exact rfl | decide | (simp [allP]; done)) ?_
        conv => whnf
        and_intros <;> rfl
      · conv => whnf
        obtain ⟨A0, rfl, N, hN, hs⟩ := k6 rfl
        refine ⟨(b, (A0 : Int), true, 1024), ?_⟩
        conv => whnf
        refine And.intro (by simp only [allP, List.nil_append, List.cons_append, true_and]; and_intros <;> first | rfl | exact h1 | decide | omega) ?_
        conv => whnf
        obtain ⟨A, z, e1, e2, e3, e4, e5, e6, e7, e8⟩ := row_law2 hs (by omega) (g := vGet b (A0 : Int)) rfl
        rw [e1, e2]
        generalize hF5 : (true && ((vGet b (A0 : Int)).2.2 && decide ((vGet b (A0 : Int)).1 ≤ ((1024 : Nat) : Int)))) = F5
        rw [Bool.true_and] at hF5
        rw [hF5] at e7 e8
        clear hF5
        have hwz : IntKind.i64.wrap ((A : Int) + (z : Int)) = ((A + z : Nat) : Int) := by rw [wrap_i64 (by omega) (by omega)]; rfl
        rw [hwz, hbl]
        by_cases hlz : b.length < A + z
        · rw [decide_eq_true (show ((A + z : Nat) : Int) > (b.length : Int) by omega)]
          conv => whnf
          refine And.intro (by first | exact Nat.le_of_ble_eq_true rfl | exact ⟨Nat.le_of_ble_eq_true rfl, rfl⟩ | exact rfl | decide | (simp [allP]; done)) ?_
          conv => whnf
          rcases o with _ | ⟨m, x⟩
          case' some => exact absurd ho.2 (e6 hlz m x ho.1)
          conv => whnf
          refine And.intro (by first | exact Nat.le_of_ble_eq_true rfl | exact ⟨Nat.le_of_ble_eq_true rfl, rfl⟩ | exact rfl | decide | (simp [allP]; done)) ?_
          conv => whnf
          refine And.intro (by first | exact Nat.le_of_ble_eq_true rfl | exact ⟨Nat.le_of_ble_eq_true rfl, rfl⟩ | exact rfl | decide | (simp [allP]; done)) ?_
          conv => whnf
          and_intros <;> rfl
        · rw [decide_eq_false (show ¬ ((A + z : Nat) : Int) > (b.length : Int) by omega)]
          conv => whnf
          rw [hwz]
          refine And.intro (by simp only [allP, List.nil_append, List.cons_append, true_and]; rw [hbl]; omega) ?_
          conv => whnf
          rw [show List.drop ((A : Int)).toNat (List.take (((A + z : Nat) : Int)).toNat (bl b)) = bl ((b.drop A).take z) from by rw [Int.toNat_natCast, Int.toNat_natCast, List.drop_take, Nat.add_sub_cancel_left, bl_drop, bl_take]]
          conv => whnf
          refine ⟨((b.drop A).take z), ?_⟩
          conv => whnf
          refine And.intro (by simp only [allP, List.nil_append, List.cons_append, true_and]; exact ⟨rfl, by rw [List.length_take, List.length_drop]; omega⟩) ?_
          conv => whnf
          refine And.intro (by simp only [allP, List.nil_append, List.cons_append, true_and]; rw [ll_length]; simp only [List.length_cons, List.length_nil]; omega) ?_
          conv => whnf
          refine And.intro (by first | exact Nat.le_of_ble_eq_true rfl | exact ⟨Nat.le_of_ble_eq_true rfl, rfl⟩ | exact rfl | decide | (simp [allP]; done)) ?_
          conv => whnf
          refine ⟨by rfl, ?_⟩
          show aw _ _ _ _ _ _ _
          conv => whnf
          rw [hwz]
          refine And.intro (by first | exact Nat.le_of_ble_eq_true rfl | exact ⟨Nat.le_of_ble_eq_true rfl, rfl⟩ | exact rfl | decide | (simp [allP]; done)) ?_
          conv => whnf
          refine ⟨⟨(n - 1, ((A + z : Nat) : Int), F5, rs ++ [(b.drop A).take z]), ?_⟩, by simp only; omega, ?_⟩
          · refine ⟨by simp only; omega, by simp only [List.length_append, List.length_cons, List.length_nil]; omega, by simp only; omega, by simp only; omega, fun h => e7 h, fun h => ⟨A + z, rfl, N, by simp only [List.length_append, List.length_cons, List.length_nil]; omega, e8 h (by omega)⟩⟩
          conv => whnf
          exact ⟨by rw [wrap_i64 (by omega) (by omega)]; rfl, rfl, rfl, rfl, rfl, rfl, rfl, rfl, rfl, rfl, rfl, by rw [ll_append']; rfl⟩
    obtain rfl : n = 0 := by omega
    rw [decide_eq_false (show ¬ (0 : Int) > 0 by omega)]
    conv => whnf
    cases F
    · conv => whnf
      rcases o with _ | ⟨m, x⟩
      case' some => exact absurd ho.2 (k5 rfl m x ho.1)
      conv => whnf
      refine And.intro (by first | exact Nat.le_of_ble_eq_true rfl | exact ⟨Nat.le_of_ble_eq_true rfl, rfl⟩ | exact rfl | decide | (simp [allP]; done)) ?_
      conv => whnf
      refine And.intro (by first | exact Nat.le_of_ble_eq_true rfl | exact ⟨Nat.le_of_ble_eq_true rfl, rfl⟩ | exact rfl | decide | (simp [allP]; done)) ?_
      conv => whnf
      and_intros <;> rfl
    conv => whnf
    obtain ⟨A, rfl, N, hN, hs⟩ := k6 rfl
    obtain ⟨q1, q2⟩ := end_law hs (by omega)
    rw [hbl]
    by_cases hA : A = b.length
    case' neg =>
      rw [show ((A : Int) != (b.length : Int)) = true from by rw [bne_iff_ne]; omega]
      conv => whnf
      rcases o with _ | ⟨m, x⟩
      case' some => exact absurd ho.2 (q1 hA m x ho.1)
      conv => whnf
      refine And.intro (by first | exact Nat.le_of_ble_eq_true rfl | exact ⟨Nat.le_of_ble_eq_true rfl, rfl⟩ | exact rfl | decide | (simp [allP]; done)) ?_
      conv => whnf
      refine And.intro (by first | exact Nat.le_of_ble_eq_true rfl | exact ⟨Nat.le_of_ble_eq_true rfl, rfl⟩ | exact rfl | decide | (simp [allP]; done)) ?_
      conv => whnf
      and_intros <;> rfl
    obtain ⟨q3, q4⟩ := q2 hA
    rw [show ((A : Int) != (b.length : Int)) = false from by rw [hA]; exact bne_self_eq_false _]
    conv => whnf
    refine ⟨(b, 0), ?_⟩
    conv => whnf
    refine And.intro (by simp only [allP, List.nil_append, List.cons_append, true_and]; exact ⟨rfl, rfl, h1, by decide, by decide⟩) ?_
    conv => whnf
    rw [show numV b 0 8 = (((numN b 0 8 : Nat) : Int), true) from numV_ok (by omega)]
    conv => whnf
    refine ⟨(b, 8), ?_⟩
    conv => whnf
    refine And.intro (by simp only [allP, List.nil_append, List.cons_append, true_and]; exact ⟨rfl, rfl, h1, by decide, by decide⟩) ?_
    conv => whnf
    rw [show numV b 8 4 = (((numN b 8 4 : Nat) : Int), true) from numV_ok (by omega)]
    conv => whnf
    refine And.intro (by simp only [allP, List.nil_append, List.cons_append, true_and]; rw [hbl]; omega) ?_
    conv => whnf
    rw [show List.drop (Int.toNat 12) (List.take (((bl b).length : Int)).toNat (bl b)) = bl (b.drop 12) from by rw [Int.toNat_natCast, List.take_length, bl_drop]; rfl]
    conv => whnf
    refine ⟨b.drop 12, ?_⟩
    conv => whnf
    refine And.intro (by simp only [allP, List.nil_append, List.cons_append, true_and]; exact ⟨rfl, by rw [List.length_drop]; have := hs.2.1; omega⟩) ?_
    conv => whnf
    by_cases hsum : numN b 8 4 = crV 0 (b.drop 12)
    case' neg =>
      rw [show (((numN b 8 4 : Nat) : Int) != ((crV 0 (b.drop 12) : Nat) : Int)) = true from by rw [bne_iff_ne]; omega]
      conv => whnf
      rcases o with _ | ⟨m, x⟩
      case' some => exact absurd ho.2 (q3 hsum m x ho.1)
      conv => whnf
      refine And.intro (by first | exact Nat.le_of_ble_eq_true rfl | exact ⟨Nat.le_of_ble_eq_true rfl, rfl⟩ | exact rfl | decide | (simp [allP]; done)) ?_
      conv => whnf
      refine And.intro (by first | exact Nat.le_of_ble_eq_true rfl | exact ⟨Nat.le_of_ble_eq_true rfl, rfl⟩ | exact rfl | decide | (simp [allP]; done)) ?_
      conv => whnf
      and_intros <;> rfl
    rw [show (((numN b 8 4 : Nat) : Int) != ((crV 0 (b.drop 12) : Nat) : Int)) = false from by rw [hsum]; exact bne_self_eq_false _]
    conv => whnf
    obtain ⟨w1, w2⟩ := i64_of (numN b 0 8) (numN_lt b 0 8)
    obtain ⟨w3, w4⟩ := q4 hsum _ w1 w2
    have hwv : IntKind.i64.wrap (((numN b 0 8 : Nat) : Int), true).1 = IntKind.i64.wrap ((numN b 0 8 : Nat) : Int) := rfl
    rw [hwv]
    generalize IntKind.i64.wrap ((numN b 0 8 : Nat) : Int) = m0 at w1 w2 w3 w4 ⊢
    refine And.intro (by first | exact Nat.le_of_ble_eq_true rfl | exact ⟨Nat.le_of_ble_eq_true rfl, rfl⟩ | exact rfl | decide | (simp [allP]; done)) ?_
    conv => whnf
    refine And.intro (by first | exact Nat.le_of_ble_eq_true rfl | exact ⟨Nat.le_of_ble_eq_true rfl, rfl⟩ | exact rfl | decide | (simp [allP]; done)) ?_
    conv => whnf
    rcases o with _ | ⟨m, x⟩
    case' none => exact absurd w4 (ho _ _ w3)
    obtain ⟨v1, v2, _⟩ := enB_sd (r := []) (s := []) ho.1 w3 (by rw [ho.2, w4])
    subst v1
    subst v2
    refine ⟨by rfl, ?_⟩
    show aw _ _ _ _ _ _ _
    conv => whnf
    refine And.intro (by first | exact Nat.le_of_ble_eq_true rfl | exact ⟨Nat.le_of_ble_eq_true rfl, rfl⟩ | exact rfl | decide | (simp [allP]; done)) ?_
    conv => whnf
    and_intros <;> rfl
  · rw [decide_eq_true (show ((b.length : Int) ≥ 12) by omega)]
    (set_option smartUnfolding false in conv => whnf)
    rw [hbl, decide_eq_true (show ((b.length : Int) ≤ 60000) by omega)]
    (set_option smartUnfolding false in conv => whnf)
    refine And.intro (by first | exact Nat.le_of_ble_eq_true rfl | exact ⟨Nat.le_of_ble_eq_true rfl, rfl⟩ | exact rfl | decide | (simp [allP]; done)) ?_
    conv => whnf
    refine And.intro (by first | exact Nat.le_of_ble_eq_true rfl | exact ⟨Nat.le_of_ble_eq_true rfl, rfl⟩ | exact rfl | decide | (simp [allP]; done)) ?_
    conv => whnf
    refine ⟨by rfl, ?_⟩
    show aw _ _ _ _ _ _ _
    conv => whnf
    refine ⟨(b, 12, true), ?_⟩
    conv => whnf
    refine And.intro (by simp only [allP, List.nil_append, List.cons_append, true_and]; and_intros <;> first | rfl | exact h1 | decide | omega) ?_
    conv => whnf
    have he1 := vGet_end b 12
    generalize hg1 : vGet b 12 = g1 at he1
    have hm1 : 12 ≤ mx g1.2.1 12 ∧ mx g1.2.1 12 ≤ b.length + 12 := by unfold mx; split <;> omega
    refine ⟨(b, mx g1.2.1 12, true && g1.2.2), ?_⟩
    conv => whnf
    refine And.intro (by simp only [allP, List.nil_append, List.cons_append, true_and]; and_intros <;> first | rfl | exact h1 | decide | omega) ?_
    conv => whnf
    have he2 := vGet_end b (mx g1.2.1 12)
    generalize hg2 : vGet b (mx g1.2.1 12) = g2 at he2
    have hm2 : 12 ≤ mx g2.2.1 (mx g1.2.1 12) ∧ mx g2.2.1 (mx g1.2.1 12) ≤ b.length + 12 := by rw [mx]; split <;> omega
    refine ⟨(b, mx g2.2.1 (mx g1.2.1 12), (true && g1.2.2) && g2.2.2), ?_⟩
    conv => whnf
    refine And.intro (by simp only [allP, List.nil_append, List.cons_append, true_and]; and_intros <;> first | rfl | exact h1 | decide | omega) ?_
    conv => whnf
    have he3 := vGet_end b (mx g2.2.1 (mx g1.2.1 12))
    generalize hg3 : vGet b (mx g2.2.1 (mx g1.2.1 12)) = g3 at he3
    have hm3 : 12 ≤ mx g3.2.1 (mx g2.2.1 (mx g1.2.1 12)) ∧ mx g3.2.1 (mx g2.2.1 (mx g1.2.1 12)) ≤ b.length + 12 := by rw [mx]; split <;> omega
    refine And.intro (by first | exact Nat.le_of_ble_eq_true rfl | exact ⟨Nat.le_of_ble_eq_true rfl, rfl⟩ | exact rfl | decide | (simp [allP]; done)) ?_
    conv => whnf
    refine And.intro (by first | exact Nat.le_of_ble_eq_true rfl | exact ⟨Nat.le_of_ble_eq_true rfl, rfl⟩ | exact rfl | decide | (simp [allP]; done)) ?_
    conv => whnf
    refine And.intro (by first | exact Nat.le_of_ble_eq_true rfl | exact ⟨Nat.le_of_ble_eq_true rfl, rfl⟩ | exact rfl | decide | (simp [allP]; done)) ?_
    conv => whnf
    refine ⟨(b, mx g3.2.1 (mx g2.2.1 (mx g1.2.1 12)), ((true && g1.2.2) && g2.2.2) && g3.2.2, 256), ?_⟩
    conv => whnf
    refine And.intro (by simp only [allP, List.nil_append, List.cons_append, true_and]; and_intros <;> first | rfl | exact h1 | decide | omega) ?_
    conv => whnf
    have he4 := vGet_end b (mx g3.2.1 (mx g2.2.1 (mx g1.2.1 12)))
    have hl4 := vGet_lt b (mx g3.2.1 (mx g2.2.1 (mx g1.2.1 12)))
    generalize hg4 : vGet b (mx g3.2.1 (mx g2.2.1 (mx g1.2.1 12))) = g4 at he4 hl4
    have hm4 : 12 ≤ mx g4.2.1 (mx g3.2.1 (mx g2.2.1 (mx g1.2.1 12))) ∧ mx g4.2.1 (mx g3.2.1 (mx g2.2.1 (mx g1.2.1 12))) ≤ b.length + 12 := by rw [mx]; split <;> omega
    have hn4 : 0 ≤ mn g4.1 ((256 : Nat) : Int) ∧ mn g4.1 ((256 : Nat) : Int) ≤ 256 := by rw [mn]; split <;> omega
    have hJ0 : decI b (unzig g1.1) (unzig g2.1) (unzig g3.1) (mn g4.1 ((256 : Nat) : Int)) (mx g4.2.1 (mx g3.2.1 (mx g2.2.1 (mx g1.2.1 12)))) ((((true && g1.2.2) && g2.2.2) && g3.2.2) && (g4.2.2 && decide (g4.1 ≤ ((256 : Nat) : Int)))) [] := by
      obtain ⟨hl, hr⟩ := hdr_law h12 hg1 hg2 hg3 hg4
      refine ⟨hn4.1, by simpa using hn4.2, hm4.1, hm4.2, fun h => hr (by simpa using h), fun h => ?_⟩
      obtain ⟨r1, r2, r3, n, a, e1, e2, e3, e4, e5, e6⟩ := hl (by simpa using h)
      refine ⟨a, e3, n, ?_, h12, h60, r1, r2, r3, e2, Nat.zero_le _, fun r hr' => (by cases hr'), e4, e5, by rw [recsB_nil, List.nil_append]; exact e6⟩
      rw [e1, mn, if_neg (by omega)]
      simp
    clear he1 he2 he3 he4 hl4 hm1 hm2 hm3
    generalize mx g4.2.1 (mx g3.2.1 (mx g2.2.1 (mx g1.2.1 12))) = a0 at hm4 hJ0
    generalize mn g4.1 ((256 : Nat) : Int) = n0 at hn4 hJ0
    generalize hF4 : ((((true && g1.2.2) && g2.2.2) && g3.2.2) && (g4.2.2 && decide (g4.1 ≤ ((256 : Nat) : Int)))) = F4 at hJ0
    generalize unzig g1.1 = p at hJ0
    generalize unzig g2.1 = e at hJ0
    generalize unzig g3.1 = f at hJ0
    refine ⟨{q : Int × Int × Bool × List (List UInt8) // decI b p e f q.1 q.2.1 q.2.2.1 q.2.2.2}, fun q => ⟨[(1, .ptr 0 0), (3, .ptr 1 0), (5, .ptr 2 0), (6, .ptr 3 0), (8, .func 54 [] [.ptr 0 0, .ptr 2 0, .ptr 3 0]), (9, .ptr 4 0), (10, isI .i64 q.1.1)], [(0, .box [.p false (.sl 1 (bl b))]), (1, .box [isI .i64 0, isI .i64 0, isI .i64 0, .p true .nilsl]), (2, .box [isI .i64 q.1.2.1]), (3, .box [isB q.1.2.2.1]), (4, .box [isI .i64 p, isI .i64 e, isI .i64 f, .rowf 5]), (5, .row 22 1 true false (ll q.1.2.2.2))], 99⟩, fun q => q.1.1.toNat, ⟨⟨(n0, a0, F4, []), hJ0⟩, ?_⟩, ?_⟩
    · conv => whnf
      exact ⟨rfl, rfl, rfl, rfl, rfl, rfl, rfl, rfl, rfl, rfl, rfl, rfl⟩
    rintro ⟨⟨n, a, F, rs⟩, hJ⟩
    simp only at hJ
    show aw _ _ _ _ _ _ ⟨[(1, .ptr 0 0), (3, .ptr 1 0), (5, .ptr 2 0), (6, .ptr 3 0), (8, .func 54 [] [.ptr 0 0, .ptr 2 0, .ptr 3 0]), (9, .ptr 4 0), (10, isI .i64 n)], [(0, .box [.p false (.sl 1 (bl b))]), (1, .box [isI .i64 0, isI .i64 0, isI .i64 0, .p true .nilsl]), (2, .box [isI .i64 a]), (3, .box [isB F]), (4, .box [isI .i64 p, isI .i64 e, isI .i64 f, .rowf 5]), (5, .row 22 1 true false (ll rs))], 99⟩
    clear hJ0 hm4 hn4 hF4 hg1 hg2 hg3 hg4
    conv => whnf
    obtain ⟨k1, k2, k3, k4, k5, k6⟩ := hJ
    by_cases hn : 0 < n
    · rw [decide_eq_true (show n > 0 from hn)]
      conv => whnf
      cases F
      · conv => whnf
        rcases o with _ | ⟨m, x⟩
        case' some => exact absurd ho.2 (k5 rfl m x ho.1)
        conv => whnf
        refine And.intro (by first | exact Nat.le_of_ble_eq_true rfl | exact ⟨Nat.le_of_ble_eq_true rfl, rfl⟩ | exact rfl | decide | (simp [allP]; done)) ?_
        conv => whnf
        refine And.intro (by first | exact Nat.le_of_ble_eq_true rfl | exact ⟨Nat.le_of_ble_eq_true rfl, rfl⟩ | exact rfl | decide | (simp [allP]; done)) ?_
        conv => whnf
        and_intros <;> rfl
      · conv => whnf
        obtain ⟨A0, rfl, N, hN, hs⟩ := k6 rfl
        refine ⟨(b, (A0 : Int), true, 1024), ?_⟩
        conv => whnf
        refine And.intro (by simp only [allP, List.nil_append, List.cons_append, true_and]; and_intros <;> first | rfl | exact h1 | decide | omega) ?_
        conv => whnf
        obtain ⟨A, z, e1, e2, e3, e4, e5, e6, e7, e8⟩ := row_law2 hs (by omega) (g := vGet b (A0 : Int)) rfl
        rw [e1, e2]
        generalize hF5 : (true && ((vGet b (A0 : Int)).2.2 && decide ((vGet b (A0 : Int)).1 ≤ ((1024 : Nat) : Int)))) = F5
        rw [Bool.true_and] at hF5
        rw [hF5] at e7 e8
        clear hF5
        have hwz : IntKind.i64.wrap ((A : Int) + (z : Int)) = ((A + z : Nat) : Int) := by rw [wrap_i64 (by omega) (by omega)]; rfl
        rw [hwz, hbl]
        by_cases hlz : b.length < A + z
        · rw [decide_eq_true (show ((A + z : Nat) : Int) > (b.length : Int) by omega)]
          conv => whnf
          refine And.intro (by first | exact Nat.le_of_ble_eq_true rfl | exact ⟨Nat.le_of_ble_eq_true rfl, rfl⟩ | exact rfl | decide | (simp [allP]; done)) ?_
          conv => whnf
          rcases o with _ | ⟨m, x⟩
          case' some => exact absurd ho.2 (e6 hlz m x ho.1)
          conv => whnf
          refine And.intro (by first | exact Nat.le_of_ble_eq_true rfl | exact ⟨Nat.le_of_ble_eq_true rfl, rfl⟩ | exact rfl | decide | (simp [allP]; done)) ?_
          conv => whnf
          refine And.intro (by first | exact Nat.le_of_ble_eq_true rfl | exact ⟨Nat.le_of_ble_eq_true rfl, rfl⟩ | exact rfl | decide | (simp [allP]; done)) ?_
          conv => whnf
          and_intros <;> rfl
        · rw [decide_eq_false (show ¬ ((A + z : Nat) : Int) > (b.length : Int) by omega)]
          conv => whnf
          rw [hwz]
          refine And.intro (by simp only [allP, List.nil_append, List.cons_append, true_and]; rw [hbl]; omega) ?_
          conv => whnf
          rw [show List.drop ((A : Int)).toNat (List.take (((A + z : Nat) : Int)).toNat (bl b)) = bl ((b.drop A).take z) from by rw [Int.toNat_natCast, Int.toNat_natCast, List.drop_take, Nat.add_sub_cancel_left, bl_drop, bl_take]]
          conv => whnf
          refine ⟨((b.drop A).take z), ?_⟩
          conv => whnf
          refine And.intro (by simp only [allP, List.nil_append, List.cons_append, true_and]; exact ⟨rfl, by rw [List.length_take, List.length_drop]; omega⟩) ?_
          conv => whnf
          refine And.intro (by simp only [allP, List.nil_append, List.cons_append, true_and]; rw [ll_length]; simp only [List.length_cons, List.length_nil]; omega) ?_
          conv => whnf
          refine And.intro (by first | exact Nat.le_of_ble_eq_true rfl | exact ⟨Nat.le_of_ble_eq_true rfl, rfl⟩ | exact rfl | decide | (simp [allP]; done)) ?_
          conv => whnf
          refine ⟨by rfl, ?_⟩
          show aw _ _ _ _ _ _ _
          conv => whnf
          rw [hwz]
          refine And.intro (by first | exact Nat.le_of_ble_eq_true rfl | exact ⟨Nat.le_of_ble_eq_true rfl, rfl⟩ | exact rfl | decide | (simp [allP]; done)) ?_
          conv => whnf
          refine ⟨⟨(n - 1, ((A + z : Nat) : Int), F5, rs ++ [(b.drop A).take z]), ?_⟩, by simp only; omega, ?_⟩
          · refine ⟨by simp only; omega, by simp only [List.length_append, List.length_cons, List.length_nil]; omega, by simp only; omega, by simp only; omega, fun h => e7 h, fun h => ⟨A + z, rfl, N, by simp only [List.length_append, List.length_cons, List.length_nil]; omega, e8 h (by omega)⟩⟩
          conv => whnf
          exact ⟨by rw [wrap_i64 (by omega) (by omega)]; rfl, rfl, rfl, rfl, rfl, rfl, rfl, rfl, rfl, rfl, rfl, by rw [ll_append']; rfl⟩
    obtain rfl : n = 0 := by omega
    rw [decide_eq_false (show ¬ (0 : Int) > 0 by omega)]
    conv => whnf
    cases F
    · conv => whnf
      rcases o with _ | ⟨m, x⟩
      case' some => exact absurd ho.2 (k5 rfl m x ho.1)
      conv => whnf
      refine And.intro (by first | exact Nat.le_of_ble_eq_true rfl | exact ⟨Nat.le_of_ble_eq_true rfl, rfl⟩ | exact rfl | decide | (simp [allP]; done)) ?_
      conv => whnf
      refine And.intro (by first | exact Nat.le_of_ble_eq_true rfl | exact ⟨Nat.le_of_ble_eq_true rfl, rfl⟩ | exact rfl | decide | (simp [allP]; done)) ?_
      conv => whnf
      and_intros <;> rfl
    conv => whnf
    obtain ⟨A, rfl, N, hN, hs⟩ := k6 rfl
    obtain ⟨q1, q2⟩ := end_law hs (by omega)
    rw [hbl]
    by_cases hA : A = b.length
    case' neg =>
      rw [show ((A : Int) != (b.length : Int)) = true from by rw [bne_iff_ne]; omega]
      conv => whnf
      rcases o with _ | ⟨m, x⟩
      case' some => exact absurd ho.2 (q1 hA m x ho.1)
      conv => whnf
      refine And.intro (by first | exact Nat.le_of_ble_eq_true rfl | exact ⟨Nat.le_of_ble_eq_true rfl, rfl⟩ | exact rfl | decide | (simp [allP]; done)) ?_
      conv => whnf
      refine And.intro (by first | exact Nat.le_of_ble_eq_true rfl | exact ⟨Nat.le_of_ble_eq_true rfl, rfl⟩ | exact rfl | decide | (simp [allP]; done)) ?_
      conv => whnf
      and_intros <;> rfl
    obtain ⟨q3, q4⟩ := q2 hA
    rw [show ((A : Int) != (b.length : Int)) = false from by rw [hA]; exact bne_self_eq_false _]
    conv => whnf
    refine ⟨(b, 0), ?_⟩
    conv => whnf
    refine And.intro (by simp only [allP, List.nil_append, List.cons_append, true_and]; exact ⟨rfl, rfl, h1, by decide, by decide⟩) ?_
    conv => whnf
    rw [show numV b 0 8 = (((numN b 0 8 : Nat) : Int), true) from numV_ok (by omega)]
    conv => whnf
    refine ⟨(b, 8), ?_⟩
    conv => whnf
    refine And.intro (by simp only [allP, List.nil_append, List.cons_append, true_and]; exact ⟨rfl, rfl, h1, by decide, by decide⟩) ?_
    conv => whnf
    rw [show numV b 8 4 = (((numN b 8 4 : Nat) : Int), true) from numV_ok (by omega)]
    conv => whnf
    refine And.intro (by simp only [allP, List.nil_append, List.cons_append, true_and]; rw [hbl]; omega) ?_
    conv => whnf
    rw [show List.drop (Int.toNat 12) (List.take (((bl b).length : Int)).toNat (bl b)) = bl (b.drop 12) from by rw [Int.toNat_natCast, List.take_length, bl_drop]; rfl]
    conv => whnf
    refine ⟨b.drop 12, ?_⟩
    conv => whnf
    refine And.intro (by simp only [allP, List.nil_append, List.cons_append, true_and]; exact ⟨rfl, by rw [List.length_drop]; have := hs.2.1; omega⟩) ?_
    conv => whnf
    by_cases hsum : numN b 8 4 = crV 0 (b.drop 12)
    case' neg =>
      rw [show (((numN b 8 4 : Nat) : Int) != ((crV 0 (b.drop 12) : Nat) : Int)) = true from by rw [bne_iff_ne]; omega]
      conv => whnf
      rcases o with _ | ⟨m, x⟩
      case' some => exact absurd ho.2 (q3 hsum m x ho.1)
      conv => whnf
      refine And.intro (by first | exact Nat.le_of_ble_eq_true rfl | exact ⟨Nat.le_of_ble_eq_true rfl, rfl⟩ | exact rfl | decide | (simp [allP]; done)) ?_
      conv => whnf
      refine And.intro (by first | exact Nat.le_of_ble_eq_true rfl | exact ⟨Nat.le_of_ble_eq_true rfl, rfl⟩ | exact rfl | decide | (simp [allP]; done)) ?_
      conv => whnf
      and_intros <;> rfl
    rw [show (((numN b 8 4 : Nat) : Int) != ((crV 0 (b.drop 12) : Nat) : Int)) = false from by rw [hsum]; exact bne_self_eq_false _]
    conv => whnf
    obtain ⟨w1, w2⟩ := i64_of (numN b 0 8) (numN_lt b 0 8)
    obtain ⟨w3, w4⟩ := q4 hsum _ w1 w2
    have hwv : IntKind.i64.wrap (((numN b 0 8 : Nat) : Int), true).1 = IntKind.i64.wrap ((numN b 0 8 : Nat) : Int) := rfl
    rw [hwv]
    generalize IntKind.i64.wrap ((numN b 0 8 : Nat) : Int) = m0 at w1 w2 w3 w4 ⊢
    refine And.intro (by first | exact Nat.le_of_ble_eq_true rfl | exact ⟨Nat.le_of_ble_eq_true rfl, rfl⟩ | exact rfl | decide | (simp [allP]; done)) ?_
    conv => whnf
    refine And.intro (by first | exact Nat.le_of_ble_eq_true rfl | exact ⟨Nat.le_of_ble_eq_true rfl, rfl⟩ | exact rfl | decide | (simp [allP]; done)) ?_
    conv => whnf
    rcases o with _ | ⟨m, x⟩
    case' none => exact absurd w4 (ho _ _ w3)
    obtain ⟨v1, v2, _⟩ := enB_sd (r := []) (s := []) ho.1 w3 (by rw [ho.2, w4])
    subst v1
    subst v2
    refine ⟨by rfl, ?_⟩
    show aw _ _ _ _ _ _ _
    conv => whnf
    refine And.intro (by first | exact Nat.le_of_ble_eq_true rfl | exact ⟨Nat.le_of_ble_eq_true rfl, rfl⟩ | exact rfl | decide | (simp [allP]; done)) ?_
    conv => whnf
    and_intros <;> rfl
theorem dec_sound : Sound Try.prog 28 cDec := does_sound mixed tabOk_prog gDec_ok Try.func28 dec_does
end Go.Proofs.Ytjgmlkogppibfaa.Ev
