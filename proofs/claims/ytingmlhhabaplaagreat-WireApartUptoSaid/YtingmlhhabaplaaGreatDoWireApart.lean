/- Wire: the law WireApart. No conditions. -/
import Derived.Test.YtingmlhhabaplaaGreatEvPuts
import Derived.Test.YtingmlhhabaplaaGreatEvLike
import Derived.Test.YtingmlhhabaplaaGreatEvAwake06
import Derived.Test.YtingmlhhabaplaaGreatEvBulk6z
import Derived.Test.YtingmlhhabaplaaGreatEvWire8b
import Derived.Test.YtingmlhhabaplaaGreatEvWire8c
namespace Go.Proofs.YtingmlhhabaplaaGreat.Ev
open Go
set_option linter.unusedVariables false
set_option linter.unusedSimpArgs false
set_option maxRecDepth 100000
set_option maxHeartbeats 4000000
theorem oT_len {X : Type} (kd : UInt8) (enc : X → List UInt8) (g : Bool) (x : X) : (bl (oT kd enc g x)).length = (oT kd enc g x).length := bl_length _
/-- Bytes are the same just if the things are. -/
theorem RL.inj {X : Type} {get : In → X × In} {enc : X → List UInt8} {ok : X → Prop} (a : RL get enc ok) {x y : X} (hx : ok x) (hy : ok y) (h : enc x = enc y) : x = y := by
  have h1 := a.put x [] hx
  have h2 := a.put y [] hy
  rw [h] at h1
  rw [h2] at h1
  exact (Prod.mk.inj h1).1.symm
def gAp : List (FuncId × Ctr) := (31, cPuts) :: (33, cLike) :: (gAwake ++ gLow)
theorem gAp_ok : GamOk Tryz.prog gAp := GamOk.cons (GamOk.cons (GamOk.app gAwake_ok gLow_ok) Tryz.func33 (by kernel_rfl) (by kernel_rfl) like_sound) Tryz.func31 (by kernel_rfl) (by kernel_rfl) puts_sound
theorem prePick (x : S84) (h : ok84 x) (hb : ms84 x ≤ 1048576) : ∃ g : G7, preP g x := by
  have hk := h
  obtain ⟨k0, k1, k2, k3, k4, k5, k6⟩ := h
  simp only [ms84] at hb
  have b0 := bn48 _ k0
  have b1 := bn57 _ k1
  have b2 := bn28 _ k2
  have b3 := bn37 _ k3
  have b4 := bn63 _ k4
  have b5 := bn72 _ k5
  have b6 := bn79 _ k6
  exact ⟨(decide (1 + (en48 x.1).length ≤ 60000), decide (1 + (en57 x.2.1).length ≤ 60000), decide (1 + (en28 x.2.2.1).length ≤ 60000), decide (1 + (en37 x.2.2.2.1).length ≤ 60000), decide (1 + (en63 x.2.2.2.2.1).length ≤ 60000), decide (1 + (en72 x.2.2.2.2.2.1).length ≤ 60000), decide (1 + (en79 x.2.2.2.2.2.2).length ≤ 65545)), hk, ⟨by omega, by omega, by omega, by omega, by omega, by omega, by omega⟩, ⟨rfl, rfl, rfl, rfl, rfl, rfl, rfl⟩⟩
theorem oT_pos {X : Type} (kd : UInt8) (enc : X → List UInt8) (g : Bool) (x : X) : decide (((bl (oT kd enc g x)).length : Int) > 0) = g := by
  rw [oT_len]
  cases g
  · rfl
  · exact decide_eq_true (by simp only [oT, List.length_cons]; omega)
theorem exB (p : Prop) : ∃ g : Bool, g = true ↔ p := by
  by_cases h : p
  · exact ⟨true, by simp [h]⟩
  · exact ⟨false, by simp [h]⟩
theorem sameB {X : Type} {get : In → X × In} {enc : X → List UInt8} {ok : X → Prop} (a : RL get enc ok) {kd : UInt8} {x y : X} (hx : ok x) (hy : ok y) {g : Bool} (hg : g = true ↔ x = y) : (!(decide (kd :: enc x = kd :: enc y) == g)) = false := by
  by_cases h : x = y
  · rw [hg.2 h, h]; simp
  · have h1 : ¬ (kd :: enc x = kd :: enc y) := fun e => h (a.inj hx hy (List.cons.inj e).2)
    rw [decide_eq_false h1]
    cases g
    · rfl
    · exact absurd (hg.1 rfl) h
theorem WireApart_does : Does gAp tab Tryz.f5 lawWireApartU := by
  rintro ⟨x, y⟩ ⟨ox, oy, hb⟩
  simp only at hb ox oy
  obtain ⟨g, hg⟩ := prePick x ox (by omega)
  obtain ⟨h, hh⟩ := prePick y oy (by omega)
  obtain ⟨g0, g1, g2, g3, g4, g5, g6⟩ := g
  obtain ⟨h0, h1, h2, h3, h4, h5, h6⟩ := h
  obtain ⟨x0, x1, x2, x3, x4, x5, x6⟩ := x
  obtain ⟨y0, y1, y2, y3, y4, y5, y6⟩ := y
  obtain ⟨hk0, hk1, hk2, hk3, hk4, hk5, hk6⟩ := ox
  obtain ⟨kk0, kk1, kk2, kk3, kk4, kk5, kk6⟩ := oy
  have ox : ok84 (x0, x1, x2, x3, x4, x5, x6) := ⟨hk0, hk1, hk2, hk3, hk4, hk5, hk6⟩
  conv => whnf
  refine dI (k := ?_)
  conv => whnf
  refine ⟨((g0, g1, g2, g3, g4, g5, g6), (x0, x1, x2, x3, x4, x5, x6)), ?_⟩
  conv => whnf
  refine And.intro (by simp only [allP, List.nil_append, List.cons_append, true_and]; repeat' (first | exact hg | rfl | refine And.intro ?_ ?_)) ?_
  conv => whnf
  refine dI (k := ?_)
  conv => whnf
  refine dI (k := ?_)
  conv => whnf
  refine ⟨((h0, h1, h2, h3, h4, h5, h6), (y0, y1, y2, y3, y4, y5, y6)), ?_⟩
  conv => whnf
  refine And.intro (by simp only [allP, List.nil_append, List.cons_append, true_and]; repeat' (first | exact hh | rfl | refine And.intro ?_ ?_)) ?_
  conv => whnf
  refine dI (k := ?_)
  conv => whnf
  refine ⟨{i : Nat // i ≤ 7}, fun i => ⟨[(2, .ptr 0 0), (3, .ptr 1 0), (5, .ptr 2 0), (7, .ptr 3 0), (9, isI .i64 (i.1 : Nat))], [(0, .box ((pv84 (x0, x1, x2, x3, x4, x5, x6)).map avOf)), (1, .box ((pv84 (y0, y1, y2, y3, y4, y5, y6)).map avOf)), (2, .box [.p true (.sl 1 (bl (oT 1 en48 g0 x0))), .p true (.sl 1 (bl (oT 2 en57 g1 x1))), .p true (.sl 1 (bl (oT 3 en28 g2 x2))), .p true (.sl 1 (bl (oT 4 en37 g3 x3))), .p true (.sl 1 (bl (oT 5 en63 g4 x4))), .p true (.sl 1 (bl (oT 6 en72 g5 x5))), .p true (.sl 1 (bl (oT 7 en79 g6 x6)))]), (3, .box [.p true (.sl 1 (bl (oT 1 en48 h0 y0))), .p true (.sl 1 (bl (oT 2 en57 h1 y1))), .p true (.sl 1 (bl (oT 3 en28 h2 y2))), .p true (.sl 1 (bl (oT 4 en37 h3 y3))), .p true (.sl 1 (bl (oT 5 en63 h4 y4))), .p true (.sl 1 (bl (oT 6 en72 h5 y5))), .p true (.sl 1 (bl (oT 7 en79 h6 y6)))])], 99⟩, fun i => 7 - i.1, ⟨⟨0, by omega⟩, ?_⟩, ?_⟩
  · conv => whnf
    and_intros <;> first | rfl | exact trivial
  rintro ⟨i, hi⟩
  obtain rfl | rfl | rfl | rfl | rfl | rfl | rfl | rfl : i = 0 ∨ i = 1 ∨ i = 2 ∨ i = 3 ∨ i = 4 ∨ i = 5 ∨ i = 6 ∨ i = 7 := by omega
  · show aw _ _ _ _ _ _ ⟨[(2, .ptr 0 0), (3, .ptr 1 0), (5, .ptr 2 0), (7, .ptr 3 0), (9, isI .i64 0)], [(0, .box ((pv84 (x0, x1, x2, x3, x4, x5, x6)).map avOf)), (1, .box ((pv84 (y0, y1, y2, y3, y4, y5, y6)).map avOf)), (2, .box [.p true (.sl 1 (bl (oT 1 en48 g0 x0))), .p true (.sl 1 (bl (oT 2 en57 g1 x1))), .p true (.sl 1 (bl (oT 3 en28 g2 x2))), .p true (.sl 1 (bl (oT 4 en37 g3 x3))), .p true (.sl 1 (bl (oT 5 en63 g4 x4))), .p true (.sl 1 (bl (oT 6 en72 g5 x5))), .p true (.sl 1 (bl (oT 7 en79 g6 x6)))]), (3, .box [.p true (.sl 1 (bl (oT 1 en48 h0 y0))), .p true (.sl 1 (bl (oT 2 en57 h1 y1))), .p true (.sl 1 (bl (oT 3 en28 h2 y2))), .p true (.sl 1 (bl (oT 4 en37 h3 y3))), .p true (.sl 1 (bl (oT 5 en63 h4 y4))), .p true (.sl 1 (bl (oT 6 en72 h5 y5))), .p true (.sl 1 (bl (oT 7 en79 h6 y6)))])], 99⟩
    conv => whnf
    refine dI (k := ?_)
    conv => whnf
    rw [oT_pos]
    cases g0
    · conv => whnf
      refine ⟨by rfl, ?_⟩
      (set_option smartUnfolding false in conv => whnf)
      refine ⟨⟨1, by omega⟩, by simp only; omega, ?_⟩
      (set_option smartUnfolding false in conv => whnf)
      first | done | (and_intros <;> first | rfl | exact trivial)
    · conv => whnf
      refine dI (k := ?_)
      conv => whnf
      rw [oT_pos]
      cases h0
      · conv => whnf
        refine ⟨by rfl, ?_⟩
        (set_option smartUnfolding false in conv => whnf)
        refine ⟨⟨1, by omega⟩, by simp only; omega, ?_⟩
        (set_option smartUnfolding false in conv => whnf)
        first | done | (and_intros <;> first | rfl | exact trivial)
      · conv => whnf
        obtain ⟨gg, hgg⟩ := exB (x0 = y0)
        refine dI (k := ?_)
        conv => whnf
        refine dI (k := ?_)
        conv => whnf
        refine ⟨(1 :: en48 x0, 1 :: en48 y0), ?_⟩
        conv => whnf
        refine And.intro (by simp only [allP, List.nil_append, List.cons_append, true_and]; repeat' (first | rfl | exact trivial | refine And.intro ?_ ?_)) ?_
        conv => whnf
        refine dI (k := ?_)
        conv => whnf
        refine dI (k := ?_)
        conv => whnf
        refine ⟨(gg, ⟨0, by decide⟩, (x0, x1, x2, x3, x4, x5, x6), (y0, y1, y2, y3, y4, y5, y6)), ?_⟩
        conv => whnf
        refine And.intro (by simp only [allP, List.nil_append, List.cons_append, true_and]; repeat' (first | exact hgg | exact ox | rfl | exact trivial | refine And.intro ?_ ?_)) ?_
        conv => whnf
        rw [sameB (x := x0) (y := y0) (kd := 1) rt48 hk0 kk0 hgg]
        conv => whnf
        refine ⟨by rfl, ?_⟩
        (set_option smartUnfolding false in conv => whnf)
        refine ⟨⟨1, by omega⟩, by simp only; omega, ?_⟩
        (set_option smartUnfolding false in conv => whnf)
        first | done | (and_intros <;> first | rfl | exact trivial)
  · show aw _ _ _ _ _ _ ⟨[(2, .ptr 0 0), (3, .ptr 1 0), (5, .ptr 2 0), (7, .ptr 3 0), (9, isI .i64 1)], [(0, .box ((pv84 (x0, x1, x2, x3, x4, x5, x6)).map avOf)), (1, .box ((pv84 (y0, y1, y2, y3, y4, y5, y6)).map avOf)), (2, .box [.p true (.sl 1 (bl (oT 1 en48 g0 x0))), .p true (.sl 1 (bl (oT 2 en57 g1 x1))), .p true (.sl 1 (bl (oT 3 en28 g2 x2))), .p true (.sl 1 (bl (oT 4 en37 g3 x3))), .p true (.sl 1 (bl (oT 5 en63 g4 x4))), .p true (.sl 1 (bl (oT 6 en72 g5 x5))), .p true (.sl 1 (bl (oT 7 en79 g6 x6)))]), (3, .box [.p true (.sl 1 (bl (oT 1 en48 h0 y0))), .p true (.sl 1 (bl (oT 2 en57 h1 y1))), .p true (.sl 1 (bl (oT 3 en28 h2 y2))), .p true (.sl 1 (bl (oT 4 en37 h3 y3))), .p true (.sl 1 (bl (oT 5 en63 h4 y4))), .p true (.sl 1 (bl (oT 6 en72 h5 y5))), .p true (.sl 1 (bl (oT 7 en79 h6 y6)))])], 99⟩
    conv => whnf
    refine dI (k := ?_)
    conv => whnf
    rw [oT_pos]
    cases g1
    · conv => whnf
      refine ⟨by rfl, ?_⟩
      (set_option smartUnfolding false in conv => whnf)
      refine ⟨⟨2, by omega⟩, by simp only; omega, ?_⟩
      (set_option smartUnfolding false in conv => whnf)
      first | done | (and_intros <;> first | rfl | exact trivial)
    · conv => whnf
      refine dI (k := ?_)
      conv => whnf
      rw [oT_pos]
      cases h1
      · conv => whnf
        refine ⟨by rfl, ?_⟩
        (set_option smartUnfolding false in conv => whnf)
        refine ⟨⟨2, by omega⟩, by simp only; omega, ?_⟩
        (set_option smartUnfolding false in conv => whnf)
        first | done | (and_intros <;> first | rfl | exact trivial)
      · conv => whnf
        obtain ⟨gg, hgg⟩ := exB (x1 = y1)
        refine dI (k := ?_)
        conv => whnf
        refine dI (k := ?_)
        conv => whnf
        refine ⟨(2 :: en57 x1, 2 :: en57 y1), ?_⟩
        conv => whnf
        refine And.intro (by simp only [allP, List.nil_append, List.cons_append, true_and]; repeat' (first | rfl | exact trivial | refine And.intro ?_ ?_)) ?_
        conv => whnf
        refine dI (k := ?_)
        conv => whnf
        refine dI (k := ?_)
        conv => whnf
        refine ⟨(gg, ⟨1, by decide⟩, (x0, x1, x2, x3, x4, x5, x6), (y0, y1, y2, y3, y4, y5, y6)), ?_⟩
        conv => whnf
        refine And.intro (by simp only [allP, List.nil_append, List.cons_append, true_and]; repeat' (first | exact hgg | exact ox | rfl | exact trivial | refine And.intro ?_ ?_)) ?_
        conv => whnf
        rw [sameB (x := x1) (y := y1) (kd := 2) rt57 hk1 kk1 hgg]
        conv => whnf
        refine ⟨by rfl, ?_⟩
        (set_option smartUnfolding false in conv => whnf)
        refine ⟨⟨2, by omega⟩, by simp only; omega, ?_⟩
        (set_option smartUnfolding false in conv => whnf)
        first | done | (and_intros <;> first | rfl | exact trivial)
  · show aw _ _ _ _ _ _ ⟨[(2, .ptr 0 0), (3, .ptr 1 0), (5, .ptr 2 0), (7, .ptr 3 0), (9, isI .i64 2)], [(0, .box ((pv84 (x0, x1, x2, x3, x4, x5, x6)).map avOf)), (1, .box ((pv84 (y0, y1, y2, y3, y4, y5, y6)).map avOf)), (2, .box [.p true (.sl 1 (bl (oT 1 en48 g0 x0))), .p true (.sl 1 (bl (oT 2 en57 g1 x1))), .p true (.sl 1 (bl (oT 3 en28 g2 x2))), .p true (.sl 1 (bl (oT 4 en37 g3 x3))), .p true (.sl 1 (bl (oT 5 en63 g4 x4))), .p true (.sl 1 (bl (oT 6 en72 g5 x5))), .p true (.sl 1 (bl (oT 7 en79 g6 x6)))]), (3, .box [.p true (.sl 1 (bl (oT 1 en48 h0 y0))), .p true (.sl 1 (bl (oT 2 en57 h1 y1))), .p true (.sl 1 (bl (oT 3 en28 h2 y2))), .p true (.sl 1 (bl (oT 4 en37 h3 y3))), .p true (.sl 1 (bl (oT 5 en63 h4 y4))), .p true (.sl 1 (bl (oT 6 en72 h5 y5))), .p true (.sl 1 (bl (oT 7 en79 h6 y6)))])], 99⟩
    conv => whnf
    refine dI (k := ?_)
    conv => whnf
    rw [oT_pos]
    cases g2
    · conv => whnf
      refine ⟨by rfl, ?_⟩
      (set_option smartUnfolding false in conv => whnf)
      refine ⟨⟨3, by omega⟩, by simp only; omega, ?_⟩
      (set_option smartUnfolding false in conv => whnf)
      first | done | (and_intros <;> first | rfl | exact trivial)
    · conv => whnf
      refine dI (k := ?_)
      conv => whnf
      rw [oT_pos]
      cases h2
      · conv => whnf
        refine ⟨by rfl, ?_⟩
        (set_option smartUnfolding false in conv => whnf)
        refine ⟨⟨3, by omega⟩, by simp only; omega, ?_⟩
        (set_option smartUnfolding false in conv => whnf)
        first | done | (and_intros <;> first | rfl | exact trivial)
      · conv => whnf
        obtain ⟨gg, hgg⟩ := exB (x2 = y2)
        refine dI (k := ?_)
        conv => whnf
        refine dI (k := ?_)
        conv => whnf
        refine ⟨(3 :: en28 x2, 3 :: en28 y2), ?_⟩
        conv => whnf
        refine And.intro (by simp only [allP, List.nil_append, List.cons_append, true_and]; repeat' (first | rfl | exact trivial | refine And.intro ?_ ?_)) ?_
        conv => whnf
        refine dI (k := ?_)
        conv => whnf
        refine dI (k := ?_)
        conv => whnf
        refine ⟨(gg, ⟨2, by decide⟩, (x0, x1, x2, x3, x4, x5, x6), (y0, y1, y2, y3, y4, y5, y6)), ?_⟩
        conv => whnf
        refine And.intro (by simp only [allP, List.nil_append, List.cons_append, true_and]; repeat' (first | exact hgg | exact ox | rfl | exact trivial | refine And.intro ?_ ?_)) ?_
        conv => whnf
        rw [sameB (x := x2) (y := y2) (kd := 3) rt28 hk2 kk2 hgg]
        conv => whnf
        refine ⟨by rfl, ?_⟩
        (set_option smartUnfolding false in conv => whnf)
        refine ⟨⟨3, by omega⟩, by simp only; omega, ?_⟩
        (set_option smartUnfolding false in conv => whnf)
        first | done | (and_intros <;> first | rfl | exact trivial)
  · show aw _ _ _ _ _ _ ⟨[(2, .ptr 0 0), (3, .ptr 1 0), (5, .ptr 2 0), (7, .ptr 3 0), (9, isI .i64 3)], [(0, .box ((pv84 (x0, x1, x2, x3, x4, x5, x6)).map avOf)), (1, .box ((pv84 (y0, y1, y2, y3, y4, y5, y6)).map avOf)), (2, .box [.p true (.sl 1 (bl (oT 1 en48 g0 x0))), .p true (.sl 1 (bl (oT 2 en57 g1 x1))), .p true (.sl 1 (bl (oT 3 en28 g2 x2))), .p true (.sl 1 (bl (oT 4 en37 g3 x3))), .p true (.sl 1 (bl (oT 5 en63 g4 x4))), .p true (.sl 1 (bl (oT 6 en72 g5 x5))), .p true (.sl 1 (bl (oT 7 en79 g6 x6)))]), (3, .box [.p true (.sl 1 (bl (oT 1 en48 h0 y0))), .p true (.sl 1 (bl (oT 2 en57 h1 y1))), .p true (.sl 1 (bl (oT 3 en28 h2 y2))), .p true (.sl 1 (bl (oT 4 en37 h3 y3))), .p true (.sl 1 (bl (oT 5 en63 h4 y4))), .p true (.sl 1 (bl (oT 6 en72 h5 y5))), .p true (.sl 1 (bl (oT 7 en79 h6 y6)))])], 99⟩
    conv => whnf
    refine dI (k := ?_)
    conv => whnf
    rw [oT_pos]
    cases g3
    · conv => whnf
      refine ⟨by rfl, ?_⟩
      (set_option smartUnfolding false in conv => whnf)
      refine ⟨⟨4, by omega⟩, by simp only; omega, ?_⟩
      (set_option smartUnfolding false in conv => whnf)
      first | done | (and_intros <;> first | rfl | exact trivial)
    · conv => whnf
      refine dI (k := ?_)
      conv => whnf
      rw [oT_pos]
      cases h3
      · conv => whnf
        refine ⟨by rfl, ?_⟩
        (set_option smartUnfolding false in conv => whnf)
        refine ⟨⟨4, by omega⟩, by simp only; omega, ?_⟩
        (set_option smartUnfolding false in conv => whnf)
        first | done | (and_intros <;> first | rfl | exact trivial)
      · conv => whnf
        obtain ⟨gg, hgg⟩ := exB (x3 = y3)
        refine dI (k := ?_)
        conv => whnf
        refine dI (k := ?_)
        conv => whnf
        refine ⟨(4 :: en37 x3, 4 :: en37 y3), ?_⟩
        conv => whnf
        refine And.intro (by simp only [allP, List.nil_append, List.cons_append, true_and]; repeat' (first | rfl | exact trivial | refine And.intro ?_ ?_)) ?_
        conv => whnf
        refine dI (k := ?_)
        conv => whnf
        refine dI (k := ?_)
        conv => whnf
        refine ⟨(gg, ⟨3, by decide⟩, (x0, x1, x2, x3, x4, x5, x6), (y0, y1, y2, y3, y4, y5, y6)), ?_⟩
        conv => whnf
        refine And.intro (by simp only [allP, List.nil_append, List.cons_append, true_and]; repeat' (first | exact hgg | exact ox | rfl | exact trivial | refine And.intro ?_ ?_)) ?_
        conv => whnf
        rw [sameB (x := x3) (y := y3) (kd := 4) rt37 hk3 kk3 hgg]
        conv => whnf
        refine ⟨by rfl, ?_⟩
        (set_option smartUnfolding false in conv => whnf)
        refine ⟨⟨4, by omega⟩, by simp only; omega, ?_⟩
        (set_option smartUnfolding false in conv => whnf)
        first | done | (and_intros <;> first | rfl | exact trivial)
  · show aw _ _ _ _ _ _ ⟨[(2, .ptr 0 0), (3, .ptr 1 0), (5, .ptr 2 0), (7, .ptr 3 0), (9, isI .i64 4)], [(0, .box ((pv84 (x0, x1, x2, x3, x4, x5, x6)).map avOf)), (1, .box ((pv84 (y0, y1, y2, y3, y4, y5, y6)).map avOf)), (2, .box [.p true (.sl 1 (bl (oT 1 en48 g0 x0))), .p true (.sl 1 (bl (oT 2 en57 g1 x1))), .p true (.sl 1 (bl (oT 3 en28 g2 x2))), .p true (.sl 1 (bl (oT 4 en37 g3 x3))), .p true (.sl 1 (bl (oT 5 en63 g4 x4))), .p true (.sl 1 (bl (oT 6 en72 g5 x5))), .p true (.sl 1 (bl (oT 7 en79 g6 x6)))]), (3, .box [.p true (.sl 1 (bl (oT 1 en48 h0 y0))), .p true (.sl 1 (bl (oT 2 en57 h1 y1))), .p true (.sl 1 (bl (oT 3 en28 h2 y2))), .p true (.sl 1 (bl (oT 4 en37 h3 y3))), .p true (.sl 1 (bl (oT 5 en63 h4 y4))), .p true (.sl 1 (bl (oT 6 en72 h5 y5))), .p true (.sl 1 (bl (oT 7 en79 h6 y6)))])], 99⟩
    conv => whnf
    refine dI (k := ?_)
    conv => whnf
    rw [oT_pos]
    cases g4
    · conv => whnf
      refine ⟨by rfl, ?_⟩
      (set_option smartUnfolding false in conv => whnf)
      refine ⟨⟨5, by omega⟩, by simp only; omega, ?_⟩
      (set_option smartUnfolding false in conv => whnf)
      first | done | (and_intros <;> first | rfl | exact trivial)
    · conv => whnf
      refine dI (k := ?_)
      conv => whnf
      rw [oT_pos]
      cases h4
      · conv => whnf
        refine ⟨by rfl, ?_⟩
        (set_option smartUnfolding false in conv => whnf)
        refine ⟨⟨5, by omega⟩, by simp only; omega, ?_⟩
        (set_option smartUnfolding false in conv => whnf)
        first | done | (and_intros <;> first | rfl | exact trivial)
      · conv => whnf
        obtain ⟨gg, hgg⟩ := exB (x4 = y4)
        refine dI (k := ?_)
        conv => whnf
        refine dI (k := ?_)
        conv => whnf
        refine ⟨(5 :: en63 x4, 5 :: en63 y4), ?_⟩
        conv => whnf
        refine And.intro (by simp only [allP, List.nil_append, List.cons_append, true_and]; repeat' (first | rfl | exact trivial | refine And.intro ?_ ?_)) ?_
        conv => whnf
        refine dI (k := ?_)
        conv => whnf
        refine dI (k := ?_)
        conv => whnf
        refine ⟨(gg, ⟨4, by decide⟩, (x0, x1, x2, x3, x4, x5, x6), (y0, y1, y2, y3, y4, y5, y6)), ?_⟩
        conv => whnf
        refine And.intro (by simp only [allP, List.nil_append, List.cons_append, true_and]; repeat' (first | exact hgg | exact ox | rfl | exact trivial | refine And.intro ?_ ?_)) ?_
        conv => whnf
        rw [sameB (x := x4) (y := y4) (kd := 5) rt63 hk4 kk4 hgg]
        conv => whnf
        refine ⟨by rfl, ?_⟩
        (set_option smartUnfolding false in conv => whnf)
        refine ⟨⟨5, by omega⟩, by simp only; omega, ?_⟩
        (set_option smartUnfolding false in conv => whnf)
        first | done | (and_intros <;> first | rfl | exact trivial)
  · show aw _ _ _ _ _ _ ⟨[(2, .ptr 0 0), (3, .ptr 1 0), (5, .ptr 2 0), (7, .ptr 3 0), (9, isI .i64 5)], [(0, .box ((pv84 (x0, x1, x2, x3, x4, x5, x6)).map avOf)), (1, .box ((pv84 (y0, y1, y2, y3, y4, y5, y6)).map avOf)), (2, .box [.p true (.sl 1 (bl (oT 1 en48 g0 x0))), .p true (.sl 1 (bl (oT 2 en57 g1 x1))), .p true (.sl 1 (bl (oT 3 en28 g2 x2))), .p true (.sl 1 (bl (oT 4 en37 g3 x3))), .p true (.sl 1 (bl (oT 5 en63 g4 x4))), .p true (.sl 1 (bl (oT 6 en72 g5 x5))), .p true (.sl 1 (bl (oT 7 en79 g6 x6)))]), (3, .box [.p true (.sl 1 (bl (oT 1 en48 h0 y0))), .p true (.sl 1 (bl (oT 2 en57 h1 y1))), .p true (.sl 1 (bl (oT 3 en28 h2 y2))), .p true (.sl 1 (bl (oT 4 en37 h3 y3))), .p true (.sl 1 (bl (oT 5 en63 h4 y4))), .p true (.sl 1 (bl (oT 6 en72 h5 y5))), .p true (.sl 1 (bl (oT 7 en79 h6 y6)))])], 99⟩
    conv => whnf
    refine dI (k := ?_)
    conv => whnf
    rw [oT_pos]
    cases g5
    · conv => whnf
      refine ⟨by rfl, ?_⟩
      (set_option smartUnfolding false in conv => whnf)
      refine ⟨⟨6, by omega⟩, by simp only; omega, ?_⟩
      (set_option smartUnfolding false in conv => whnf)
      first | done | (and_intros <;> first | rfl | exact trivial)
    · conv => whnf
      refine dI (k := ?_)
      conv => whnf
      rw [oT_pos]
      cases h5
      · conv => whnf
        refine ⟨by rfl, ?_⟩
        (set_option smartUnfolding false in conv => whnf)
        refine ⟨⟨6, by omega⟩, by simp only; omega, ?_⟩
        (set_option smartUnfolding false in conv => whnf)
        first | done | (and_intros <;> first | rfl | exact trivial)
      · conv => whnf
        obtain ⟨gg, hgg⟩ := exB (x5 = y5)
        refine dI (k := ?_)
        conv => whnf
        refine dI (k := ?_)
        conv => whnf
        refine ⟨(6 :: en72 x5, 6 :: en72 y5), ?_⟩
        conv => whnf
        refine And.intro (by simp only [allP, List.nil_append, List.cons_append, true_and]; repeat' (first | rfl | exact trivial | refine And.intro ?_ ?_)) ?_
        conv => whnf
        refine dI (k := ?_)
        conv => whnf
        refine dI (k := ?_)
        conv => whnf
        refine ⟨(gg, ⟨5, by decide⟩, (x0, x1, x2, x3, x4, x5, x6), (y0, y1, y2, y3, y4, y5, y6)), ?_⟩
        conv => whnf
        refine And.intro (by simp only [allP, List.nil_append, List.cons_append, true_and]; repeat' (first | exact hgg | exact ox | rfl | exact trivial | refine And.intro ?_ ?_)) ?_
        conv => whnf
        rw [sameB (x := x5) (y := y5) (kd := 6) rt72 hk5 kk5 hgg]
        conv => whnf
        refine ⟨by rfl, ?_⟩
        (set_option smartUnfolding false in conv => whnf)
        refine ⟨⟨6, by omega⟩, by simp only; omega, ?_⟩
        (set_option smartUnfolding false in conv => whnf)
        first | done | (and_intros <;> first | rfl | exact trivial)
  · show aw _ _ _ _ _ _ ⟨[(2, .ptr 0 0), (3, .ptr 1 0), (5, .ptr 2 0), (7, .ptr 3 0), (9, isI .i64 6)], [(0, .box ((pv84 (x0, x1, x2, x3, x4, x5, x6)).map avOf)), (1, .box ((pv84 (y0, y1, y2, y3, y4, y5, y6)).map avOf)), (2, .box [.p true (.sl 1 (bl (oT 1 en48 g0 x0))), .p true (.sl 1 (bl (oT 2 en57 g1 x1))), .p true (.sl 1 (bl (oT 3 en28 g2 x2))), .p true (.sl 1 (bl (oT 4 en37 g3 x3))), .p true (.sl 1 (bl (oT 5 en63 g4 x4))), .p true (.sl 1 (bl (oT 6 en72 g5 x5))), .p true (.sl 1 (bl (oT 7 en79 g6 x6)))]), (3, .box [.p true (.sl 1 (bl (oT 1 en48 h0 y0))), .p true (.sl 1 (bl (oT 2 en57 h1 y1))), .p true (.sl 1 (bl (oT 3 en28 h2 y2))), .p true (.sl 1 (bl (oT 4 en37 h3 y3))), .p true (.sl 1 (bl (oT 5 en63 h4 y4))), .p true (.sl 1 (bl (oT 6 en72 h5 y5))), .p true (.sl 1 (bl (oT 7 en79 h6 y6)))])], 99⟩
    conv => whnf
    refine dI (k := ?_)
    conv => whnf
    rw [oT_pos]
    cases g6
    · conv => whnf
      refine ⟨by rfl, ?_⟩
      (set_option smartUnfolding false in conv => whnf)
      refine ⟨⟨7, by omega⟩, by simp only; omega, ?_⟩
      (set_option smartUnfolding false in conv => whnf)
      first | done | (and_intros <;> first | rfl | exact trivial)
    · conv => whnf
      refine dI (k := ?_)
      conv => whnf
      rw [oT_pos]
      cases h6
      · conv => whnf
        refine ⟨by rfl, ?_⟩
        (set_option smartUnfolding false in conv => whnf)
        refine ⟨⟨7, by omega⟩, by simp only; omega, ?_⟩
        (set_option smartUnfolding false in conv => whnf)
        first | done | (and_intros <;> first | rfl | exact trivial)
      · conv => whnf
        obtain ⟨gg, hgg⟩ := exB (x6 = y6)
        refine dI (k := ?_)
        conv => whnf
        refine dI (k := ?_)
        conv => whnf
        refine ⟨(7 :: en79 x6, 7 :: en79 y6), ?_⟩
        conv => whnf
        refine And.intro (by simp only [allP, List.nil_append, List.cons_append, true_and]; repeat' (first | rfl | exact trivial | refine And.intro ?_ ?_)) ?_
        conv => whnf
        refine dI (k := ?_)
        conv => whnf
        refine dI (k := ?_)
        conv => whnf
        refine ⟨(gg, ⟨6, by decide⟩, (x0, x1, x2, x3, x4, x5, x6), (y0, y1, y2, y3, y4, y5, y6)), ?_⟩
        conv => whnf
        refine And.intro (by simp only [allP, List.nil_append, List.cons_append, true_and]; repeat' (first | exact hgg | exact ox | rfl | exact trivial | refine And.intro ?_ ?_)) ?_
        conv => whnf
        rw [sameB (x := x6) (y := y6) (kd := 7) rt79 hk6 kk6 hgg]
        conv => whnf
        refine ⟨by rfl, ?_⟩
        (set_option smartUnfolding false in conv => whnf)
        refine ⟨⟨7, by omega⟩, by simp only; omega, ?_⟩
        (set_option smartUnfolding false in conv => whnf)
        first | done | (and_intros <;> first | rfl | exact trivial)
  · show aw _ _ _ _ _ _ ⟨[(2, .ptr 0 0), (3, .ptr 1 0), (5, .ptr 2 0), (7, .ptr 3 0), (9, isI .i64 7)], [(0, .box ((pv84 (x0, x1, x2, x3, x4, x5, x6)).map avOf)), (1, .box ((pv84 (y0, y1, y2, y3, y4, y5, y6)).map avOf)), (2, .box [.p true (.sl 1 (bl (oT 1 en48 g0 x0))), .p true (.sl 1 (bl (oT 2 en57 g1 x1))), .p true (.sl 1 (bl (oT 3 en28 g2 x2))), .p true (.sl 1 (bl (oT 4 en37 g3 x3))), .p true (.sl 1 (bl (oT 5 en63 g4 x4))), .p true (.sl 1 (bl (oT 6 en72 g5 x5))), .p true (.sl 1 (bl (oT 7 en79 g6 x6)))]), (3, .box [.p true (.sl 1 (bl (oT 1 en48 h0 y0))), .p true (.sl 1 (bl (oT 2 en57 h1 y1))), .p true (.sl 1 (bl (oT 3 en28 h2 y2))), .p true (.sl 1 (bl (oT 4 en37 h3 y3))), .p true (.sl 1 (bl (oT 5 en63 h4 y4))), .p true (.sl 1 (bl (oT 6 en72 h5 y5))), .p true (.sl 1 (bl (oT 7 en79 h6 y6)))])], 99⟩
    (set_option smartUnfolding false in conv => whnf)
    refine ⟨(), ?_⟩
    conv => whnf
    refine And.intro (by simp only [allP, List.nil_append, List.cons_append, true_and]; skip) ?_
    (set_option smartUnfolding false in conv => whnf)
    first | done | (and_intros <;> first | rfl | exact trivial)
theorem WireApart_sound : Sound Tryz.prog 5 lawWireApartU := does_sound mixed tabOk_prog gAp_ok Tryz.func5 WireApart_does

end Go.Proofs.YtingmlhhabaplaaGreat.Ev
