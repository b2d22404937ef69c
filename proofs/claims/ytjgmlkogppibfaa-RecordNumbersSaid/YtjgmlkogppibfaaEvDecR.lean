/- Batches read: the document's. No conditions. -/
import Derived.Test.YtjgmlkogppibfaaEvDec
namespace Go.Proofs.Ytjgmlkogppibfaa.Ev
open Go
set_option linter.unusedVariables false
set_option linter.unusedSimpArgs false
set_option maxRecDepth 100000
set_option maxHeartbeats 4000000
def gRDec : List (FuncId × Ctr) := (34, cEnc) :: gREnc
theorem gRDec_ok : GamOk Try.prog gRDec := GamOk.cons gREnc_ok Try.func34 (by kernel_rfl) (by kernel_rfl) renc_sound
theorem rdec_does : Does gRDec tab Try.f35 cDec := by
  rintro ⟨b, o⟩ ⟨h1, ho⟩
  have hbl := bl_length b
  conv => whnf
  rw [hbl]
  by_cases h12 : b.length < 12
  · have hbad := bad_len (Or.inl h12)
    rw [decide_eq_true (show (b.length : Int) < 12 by omega)]
    conv => whnf
    rcases o with _ | ⟨m, x⟩
    case' some => exact absurd ho.2 (hbad m x ho.1)
    conv => whnf
    refine And.intro (by first | exact Nat.le_of_ble_eq_true rfl | exact ⟨Nat.le_of_ble_eq_true rfl, rfl⟩ | exact rfl | decide | (simp [allP]; done)) ?_
    conv => whnf
    refine And.intro (by first | exact Nat.le_of_ble_eq_true rfl | exact ⟨Nat.le_of_ble_eq_true rfl, rfl⟩ | exact rfl | decide | (simp [allP]; done)) ?_
    conv => whnf
    and_intros <;> rfl
  rw [decide_eq_false (show ¬ (b.length : Int) < 12 by omega)]
  conv => whnf
  rw [hbl]
  by_cases h60 : 60000 < b.length
  · have hbad := bad_len (Or.inr h60)
    rw [decide_eq_true (show (b.length : Int) > 60000 by omega)]
    conv => whnf
    rcases o with _ | ⟨m, x⟩
    case' some => exact absurd ho.2 (hbad m x ho.1)
    conv => whnf
    refine And.intro (by first | exact Nat.le_of_ble_eq_true rfl | exact ⟨Nat.le_of_ble_eq_true rfl, rfl⟩ | exact rfl | decide | (simp [allP]; done)) ?_
    conv => whnf
    refine And.intro (by first | exact Nat.le_of_ble_eq_true rfl | exact ⟨Nat.le_of_ble_eq_true rfl, rfl⟩ | exact rfl | decide | (simp [allP]; done)) ?_
    conv => whnf
    and_intros <;> rfl
  rw [decide_eq_false (show ¬ (b.length : Int) > 60000 by omega)]
  conv => whnf
  refine ⟨(b, 0, 8), ?_⟩
  conv => whnf
  refine And.intro (by simp only [allP, List.nil_append, List.cons_append, true_and]; exact ⟨rfl, rfl, rfl, by decide, h1, by decide, by decide⟩) ?_
  conv => whnf
  rw [show numV b 0 8 = (((numN b 0 8 : Nat) : Int), true) from numV_ok (by omega)]
  conv => whnf
  refine ⟨(b, 12), ?_⟩
  conv => whnf
  refine And.intro (by simp only [allP, List.nil_append, List.cons_append, true_and]; exact ⟨rfl, rfl, h1, by decide, by decide⟩) ?_
  conv => whnf
  have he1 := vGet_end b 12
  generalize hg1 : vGet b 12 = g1 at he1 ⊢
  refine ⟨(b, g1.2.1), ?_⟩
  conv => whnf
  refine And.intro (by simp only [allP, List.nil_append, List.cons_append, true_and]; exact ⟨rfl, rfl, h1, by omega, by omega⟩) ?_
  conv => whnf
  have he2 := vGet_end b g1.2.1
  generalize hg2 : vGet b g1.2.1 = g2 at he2 ⊢
  refine ⟨(b, g2.2.1), ?_⟩
  conv => whnf
  refine And.intro (by simp only [allP, List.nil_append, List.cons_append, true_and]; exact ⟨rfl, rfl, h1, by omega, by omega⟩) ?_
  conv => whnf
  have he3 := vGet_end b g2.2.1
  generalize hg3 : vGet b g2.2.1 = g3 at he3 ⊢
  refine ⟨(b, g3.2.1), ?_⟩
  conv => whnf
  refine And.intro (by simp only [allP, List.nil_append, List.cons_append, true_and]; exact ⟨rfl, rfl, h1, by omega, by omega⟩) ?_
  conv => whnf
  have he4 := vGet_end b g3.2.1
  have hl4 := vGet_lt b g3.2.1
  generalize hg4 : vGet b g3.2.1 = g4 at he4 hl4 ⊢
  obtain ⟨hY, hZ⟩ := hdr_ref (by omega) hg1 hg2 hg3 hg4
  cases k1 : g1.2.2
  · rw [k1] at hZ
    conv => whnf
    rcases o with _ | ⟨m, x⟩
    case' some => exact absurd ho.2 (hZ (by simp) m x ho.1)
    conv => whnf
    refine And.intro (by first | exact Nat.le_of_ble_eq_true rfl | exact ⟨Nat.le_of_ble_eq_true rfl, rfl⟩ | exact rfl | decide | (simp [allP]; done)) ?_
    conv => whnf
    refine And.intro (by first | exact Nat.le_of_ble_eq_true rfl | exact ⟨Nat.le_of_ble_eq_true rfl, rfl⟩ | exact rfl | decide | (simp [allP]; done)) ?_
    conv => whnf
    and_intros <;> rfl
  conv => whnf
  cases k2 : g2.2.2
  · rw [k2] at hZ
    conv => whnf
    rcases o with _ | ⟨m, x⟩
    case' some => exact absurd ho.2 (hZ (by simp) m x ho.1)
    conv => whnf
    refine And.intro (by first | exact Nat.le_of_ble_eq_true rfl | exact ⟨Nat.le_of_ble_eq_true rfl, rfl⟩ | exact rfl | decide | (simp [allP]; done)) ?_
    conv => whnf
    refine And.intro (by first | exact Nat.le_of_ble_eq_true rfl | exact ⟨Nat.le_of_ble_eq_true rfl, rfl⟩ | exact rfl | decide | (simp [allP]; done)) ?_
    conv => whnf
    and_intros <;> rfl
  conv => whnf
  cases k3 : g3.2.2
  · rw [k3] at hZ
    conv => whnf
    rcases o with _ | ⟨m, x⟩
    case' some => exact absurd ho.2 (hZ (by simp) m x ho.1)
    conv => whnf
    refine And.intro (by first | exact Nat.le_of_ble_eq_true rfl | exact ⟨Nat.le_of_ble_eq_true rfl, rfl⟩ | exact rfl | decide | (simp [allP]; done)) ?_
    conv => whnf
    refine And.intro (by first | exact Nat.le_of_ble_eq_true rfl | exact ⟨Nat.le_of_ble_eq_true rfl, rfl⟩ | exact rfl | decide | (simp [allP]; done)) ?_
    conv => whnf
    and_intros <;> rfl
  conv => whnf
  cases k4 : g4.2.2
  · rw [k4] at hZ
    conv => whnf
    rcases o with _ | ⟨m, x⟩
    case' some => exact absurd ho.2 (hZ (by simp) m x ho.1)
    conv => whnf
    refine And.intro (by first | exact Nat.le_of_ble_eq_true rfl | exact ⟨Nat.le_of_ble_eq_true rfl, rfl⟩ | exact rfl | decide | (simp [allP]; done)) ?_
    conv => whnf
    refine And.intro (by first | exact Nat.le_of_ble_eq_true rfl | exact ⟨Nat.le_of_ble_eq_true rfl, rfl⟩ | exact rfl | decide | (simp [allP]; done)) ?_
    conv => whnf
    and_intros <;> rfl
  conv => whnf
  rw [k1, k2, k3, k4] at hZ hY
  by_cases h256 : 256 < g4.1
  · rw [decide_eq_true (show g4.1 > 256 from h256)]
    conv => whnf
    rcases o with _ | ⟨m, x⟩
    case' some => exact absurd ho.2 (hZ (by simp; omega) m x ho.1)
    conv => whnf
    refine And.intro (by first | exact Nat.le_of_ble_eq_true rfl | exact ⟨Nat.le_of_ble_eq_true rfl, rfl⟩ | exact rfl | decide | (simp [allP]; done)) ?_
    conv => whnf
    refine And.intro (by first | exact Nat.le_of_ble_eq_true rfl | exact ⟨Nat.le_of_ble_eq_true rfl, rfl⟩ | exact rfl | decide | (simp [allP]; done)) ?_
    conv => whnf
    and_intros <;> rfl
  rw [decide_eq_false (show ¬ g4.1 > 256 by omega)]
  conv => whnf
  obtain ⟨r1, r2, r3, N, A4, e1, e2, e3, e4, e5, e6⟩ := hY (by simp; omega)
  refine And.intro (by first | exact Nat.le_of_ble_eq_true rfl | exact ⟨Nat.le_of_ble_eq_true rfl, rfl⟩ | exact rfl | decide | (simp [allP]; done)) ?_
  conv => whnf
  refine And.intro (by first | exact Nat.le_of_ble_eq_true rfl | exact ⟨Nat.le_of_ble_eq_true rfl, rfl⟩ | exact rfl | decide | (simp [allP]; done)) ?_
  conv => whnf
  refine And.intro (by first | exact Nat.le_of_ble_eq_true rfl | exact ⟨Nat.le_of_ble_eq_true rfl, rfl⟩ | exact rfl | decide | (simp [allP]; done)) ?_
  conv => whnf
  rw [e1, e3]
  have hs0 : soFar b (unzig g1.1) (unzig g2.1) (unzig g3.1) N [] A4 := ⟨by omega, by omega, r1, r2, r3, e2, Nat.zero_le _, fun r hr' => (by cases hr'), e4, e5, by rw [recsB_nil, List.nil_append]; exact e6⟩
  generalize unzig g1.1 = p at hs0 ⊢
  generalize unzig g2.1 = e at hs0 ⊢
  generalize unzig g3.1 = f at hs0 ⊢
  clear hY hZ he1 he2 he3 he4 hl4
  refine ⟨{q : List (List UInt8) × Nat // soFar b p e f N q.1 q.2}, fun q => ⟨[(0, .p false (.sl 1 (bl b))), (3, .ptr 0 0), (5, isI .u64 (numN b 0 8 : Nat)), (7, .ptr 1 0), (9, isI .i64 (q.1.2 : Nat)), (17, isI .u64 (N : Nat)), (19, isI .i64 (q.1.1.length : Nat))], [(0, .box [isI .i64 0, isI .i64 0, isI .i64 0, .p true .nilsl]), (1, .box [isI .i64 p, isI .i64 e, isI .i64 f, .rowf 2]), (2, .row 22 1 true false (ll q.1.1))], 99⟩, fun q => N - q.1.1.length, ⟨⟨([], A4), hs0⟩, ?_⟩, ?_⟩
  · conv => whnf
    and_intros <;> rfl
  rintro ⟨⟨rs, A⟩, hs⟩
  simp only at hs
  show aw _ _ _ _ _ _ ⟨[(0, .p false (.sl 1 (bl b))), (3, .ptr 0 0), (5, isI .u64 (numN b 0 8 : Nat)), (7, .ptr 1 0), (9, isI .i64 (A : Nat)), (17, isI .u64 (N : Nat)), (19, isI .i64 (rs.length : Nat))], [(0, .box [isI .i64 0, isI .i64 0, isI .i64 0, .p true .nilsl]), (1, .box [isI .i64 p, isI .i64 e, isI .i64 f, .rowf 2]), (2, .row 22 1 true false (ll rs))], 99⟩
  have hN256 := hs.2.2.2.2.2.1
  have hrN := hs.2.2.2.2.2.2.1
  have hAl := hs.2.2.2.2.2.2.2.2.2.1
  have hwN : IntKind.i64.wrap ((N : Nat) : Int) = ((N : Nat) : Int) := wrap_i64n (by omega)
  conv => whnf
  rw [hwN]
  by_cases hi : rs.length < N
  · rw [decide_eq_true (show ((rs.length : Nat) : Int) < (N : Int) by omega)]
    conv => whnf
    refine ⟨(b, (A : Int)), ?_⟩
    conv => whnf
    refine And.intro (by simp only [allP, List.nil_append, List.cons_append, true_and]; exact ⟨rfl, rfl, h1, by omega, by omega⟩) ?_
    conv => whnf
    rcases row_law hs hi with ⟨q, hb⟩ | ⟨v, c, hv, hc, hc2, hl, q, w1, w2, w3⟩
    · rw [q]
      conv => whnf
      rcases o with _ | ⟨m, x⟩
      case' some => exact absurd ho.2 (hb m x ho.1)
      conv => whnf
      refine And.intro (by first | exact Nat.le_of_ble_eq_true rfl | exact ⟨Nat.le_of_ble_eq_true rfl, rfl⟩ | exact rfl | decide | (simp [allP]; done)) ?_
      conv => whnf
      refine And.intro (by first | exact Nat.le_of_ble_eq_true rfl | exact ⟨Nat.le_of_ble_eq_true rfl, rfl⟩ | exact rfl | decide | (simp [allP]; done)) ?_
      conv => whnf
      and_intros <;> rfl
    rw [q]
    conv => whnf
    by_cases hv2 : v ≤ 1024
    case' neg =>
      rw [decide_eq_true (show (((v : Nat) : Int), ((A + c : Nat) : Int), true).1 > 1024 by show (v : Int) > 1024; omega)]
      conv => whnf
      rcases o with _ | ⟨m, x⟩
      case' some => exact absurd ho.2 (w1 hv2 m x ho.1)
      conv => whnf
      refine And.intro (by first | exact Nat.le_of_ble_eq_true rfl | exact ⟨Nat.le_of_ble_eq_true rfl, rfl⟩ | exact rfl | decide | (simp [allP]; done)) ?_
      conv => whnf
      refine And.intro (by first | exact Nat.le_of_ble_eq_true rfl | exact ⟨Nat.le_of_ble_eq_true rfl, rfl⟩ | exact rfl | decide | (simp [allP]; done)) ?_
      conv => whnf
      and_intros <;> rfl
    rw [decide_eq_false (show ¬ (((v : Nat) : Int), ((A + c : Nat) : Int), true).1 > 1024 by show ¬ (v : Int) > 1024; omega)]
    conv => whnf
    have hwv : IntKind.i64.wrap ((((A + c : Nat) : Int) + IntKind.i64.wrap ((v : Nat) : Int))) = ((A + c + v : Nat) : Int) := by rw [wrap_i64n (n := v) (by omega), wrap_i64 (by omega) (by omega)]; rfl
    have hwv2 : IntKind.i64.wrap ((((v : Nat) : Int), ((A + c : Nat) : Int), true).2.1 + IntKind.i64.wrap (((v : Nat) : Int), ((A + c : Nat) : Int), true).1) = ((A + c + v : Nat) : Int) := hwv
    rw [hwv2, hbl]
    by_cases hlen : b.length < A + c + v
    · rw [decide_eq_true (show ((A + c + v : Nat) : Int) > (b.length : Int) by omega)]
      conv => whnf
      rcases o with _ | ⟨m, x⟩
      case' some => exact absurd ho.2 (w2 hlen m x ho.1)
      conv => whnf
      refine And.intro (by first | exact Nat.le_of_ble_eq_true rfl | exact ⟨Nat.le_of_ble_eq_true rfl, rfl⟩ | exact rfl | decide | (simp [allP]; done)) ?_
      conv => whnf
      refine And.intro (by first | exact Nat.le_of_ble_eq_true rfl | exact ⟨Nat.le_of_ble_eq_true rfl, rfl⟩ | exact rfl | decide | (simp [allP]; done)) ?_
      conv => whnf
      and_intros <;> rfl
    rw [decide_eq_false (show ¬ ((A + c + v : Nat) : Int) > (b.length : Int) by omega)]
    conv => whnf
    rw [hwv2]
    refine And.intro (by simp only [allP, List.nil_append, List.cons_append, true_and]; rw [hbl]; omega) ?_
    conv => whnf
    rw [show List.drop ((((v : Nat) : Int), ((A + c : Nat) : Int), true).2.1).toNat (List.take (((A + c + v : Nat) : Int)).toNat (bl b)) = bl ((b.drop (A + c)).take v) from by show List.drop (((A + c : Nat) : Int)).toNat _ = _; rw [Int.toNat_natCast, Int.toNat_natCast, List.drop_take, Nat.add_sub_cancel_left, bl_drop, bl_take]]
    conv => whnf
    refine ⟨((b.drop (A + c)).take v), ?_⟩
    conv => whnf
    refine And.intro (by simp only [allP, List.nil_append, List.cons_append, true_and]; exact ⟨rfl, by rw [List.length_take, List.length_drop]; omega⟩) ?_
    conv => whnf
    refine And.intro (by simp only [allP, List.nil_append, List.cons_append, true_and]; rw [ll_length]; simp only [List.length_cons, List.length_nil]; omega) ?_
    conv => whnf
    refine And.intro (by first | exact Nat.le_of_ble_eq_true rfl | exact ⟨Nat.le_of_ble_eq_true rfl, rfl⟩ | exact rfl | decide | (simp [allP]; done)) ?_
    conv => whnf
    refine ⟨by rfl, ?_⟩
    show aw _ _ _ _ _ _ _
    conv => whnf
    rw [hwv2]
    refine ⟨⟨(rs ++ [(b.drop (A + c)).take v], A + c + v), w3 hv2 (by omega)⟩, by simp only [List.length_append, List.length_cons, List.length_nil]; omega, ?_⟩
    conv => whnf
    exact ⟨rfl, rfl, rfl, rfl, by rw [wrap_i64 (by omega) (by omega), List.length_append]; rfl, rfl, rfl, rfl, rfl, rfl, rfl, rfl, by rw [ll_append']; rfl⟩
  · have hNr : rs.length = N := by omega
    rw [decide_eq_false (show ¬ ((rs.length : Nat) : Int) < (N : Int) by omega)]
    conv => whnf
    refine And.intro (by first | exact Nat.le_of_ble_eq_true rfl | exact ⟨Nat.le_of_ble_eq_true rfl, rfl⟩ | exact rfl | decide | (simp [allP]; done)) ?_
    conv => whnf
    obtain ⟨w1, w2⟩ := i64_of (numN b 0 8) (numN_lt b 0 8)
    obtain ⟨x1, x2, x3, x4⟩ := end_ref hs hNr w1 w2
    generalize hm0 : IntKind.i64.wrap ((numN b 0 8 : Nat) : Int) = m0 at w1 w2 x1 x2 x3 x4 ⊢
    refine ⟨(0, m0, (p, e, f, rs)), ?_⟩
    conv => whnf
    refine And.intro (by simp only [allP, List.nil_append, List.cons_append, true_and]; exact ⟨rfl, rfl, rfl, rfl, rfl, ⟨w1, hs.2.2.1, hs.2.2.2.1, hs.2.2.2.2.1, by show rs.length ≤ _; omega⟩, x1, x2⟩) ?_
    conv => whnf
    refine ⟨(enB m0 (p, e, f, rs), b), ?_⟩
    conv => whnf
    refine And.intro (by simp only [allP, List.nil_append, List.cons_append, true_and]; exact ⟨rfl, rfl, trivial⟩) ?_
    conv => whnf
    by_cases hen : enB m0 (p, e, f, rs) = b
    case' neg =>
      rw [decide_eq_false hen]
      conv => whnf
      rcases o with _ | ⟨m, x⟩
      case' some => exact absurd ho.2 (x4 hen m x ho.1)
      conv => whnf
      refine And.intro (by first | exact Nat.le_of_ble_eq_true rfl | exact ⟨Nat.le_of_ble_eq_true rfl, rfl⟩ | exact rfl | decide | (simp [allP]; done)) ?_
      conv => whnf
      refine And.intro (by first | exact Nat.le_of_ble_eq_true rfl | exact ⟨Nat.le_of_ble_eq_true rfl, rfl⟩ | exact rfl | decide | (simp [allP]; done)) ?_
      conv => whnf
      and_intros <;> rfl
    rw [decide_eq_true hen]
    conv => whnf
    refine And.intro (by first | exact Nat.le_of_ble_eq_true rfl | exact ⟨Nat.le_of_ble_eq_true rfl, rfl⟩ | exact rfl | decide | (simp [allP]; done)) ?_
    conv => whnf
    refine And.intro (by first | exact Nat.le_of_ble_eq_true rfl | exact ⟨Nat.le_of_ble_eq_true rfl, rfl⟩ | exact rfl | decide | (simp [allP]; done)) ?_
    conv => whnf
    rcases o with _ | ⟨m, x⟩
    case' none => exact absurd hen (ho _ _ x3)
    obtain ⟨v1, v2, _⟩ := enB_sd (r := []) (s := []) ho.1 x3 (by rw [ho.2, hen])
    subst v1
    subst v2
    refine ⟨by rfl, ?_⟩
    show aw _ _ _ _ _ _ _
    conv => whnf
    refine And.intro (by first | exact Nat.le_of_ble_eq_true rfl | exact ⟨Nat.le_of_ble_eq_true rfl, rfl⟩ | exact rfl | decide | (simp [allP]; done)) ?_
    conv => whnf
    and_intros <;> first | rfl | (rw [← hm0]; rfl)
theorem rdec_sound : Sound Try.prog 35 cDec := does_sound mixed tabOk_prog gRDec_ok Try.func35 rdec_does
end Go.Proofs.Ytjgmlkogppibfaa.Ev
