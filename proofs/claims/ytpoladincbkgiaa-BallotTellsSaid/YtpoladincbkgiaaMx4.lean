/- Functions of the program as Lean functions, each with a proof that the Go code answers just so; written by a program of this session (mkprint.py). No conditions. -/
import Derived.Test.YtpoladincbkgiaaMx0
import Derived.Test.YtpoladincbkgiaaMx1
import Derived.Test.YtpoladincbkgiaaMx3
namespace Go.Proofs.Ytpoladincbkgiaa.M
open Go.RowKit Go.Proofs.YtpoladincbkgiaaW.PrintWords Go.Proofs.YtpoladincbkgiaaW.PrintLast Go.Proofs.YtpoladincbkgiaaW.PrintMore
attribute [local go_sem] max2_int min2_int max_two min_two max_three min_three max_four min_four   -- for this text's walks alone
set_option linter.unusedVariables false
set_option linter.unusedSimpArgs false

/-! ### conduitref20_Vote: function 28 -/
mutual
def conduitref20_Vote.j0 : Nat → Int → Int → Int → ByteArray → Int → Int → Int → Int → Int → Int → Int → Int → Bool → List (S68) → List Int → Option (Int × Int × Bool)
  | 0, _, _, _, _, _, _, _, _, _, _, _, _, _, _, _ => none
  | k + 1, x1, x2, x3, x267000, x267001, x267002, x267003, x267004, x267005, x267006, x267007, x267008, x267009, x267010, x267011 => (conduitref20_Newer.f x267006 x267005 x2 x3).bind fun t267 => (if x1 = 0 then (conduitref20_Vote.j1 k x1 t267 false x267000 x267001 x267002 x267003 x267004 x267005 x267006 x267007 x267008 x267009 x267010 x267011) else (conduitref20_Vote.j1 k x1 t267 (x1 != x267002) x267000 x267001 x267002 x267003 x267004 x267005 x267006 x267007 x267008 x267009 x267010 x267011))
def conduitref20_Vote.j1 : Nat → Int → Bool → Bool → ByteArray → Int → Int → Int → Int → Int → Int → Int → Int → Bool → List (S68) → List Int → Option (Int × Int × Bool)
  | 0, _, _, _, _, _, _, _, _, _, _, _, _, _, _, _ => none
  | k + 1, x1, x13, x38, x267000, x267001, x267002, x267003, x267004, x267005, x267006, x267007, x267008, x267009, x267010, x267011 => if x38 = true then (some (x267004, x1, false)) else (if x13 = true then (some (x267004, x267002, x13)) else (some (x267004, x1, x13)))
end
def conduitref20_Vote.f (k : Nat) (a0 : Int) (a1 : Int) (a2 : Int) (a3 : Int) (a4_0 : ByteArray) (a4_1 : Int) (a4_2 : Int) (a4_3 : Int) (a4_4 : Int) (a4_5 : Int) (a4_6 : Int) (a4_7 : Int) (a4_8 : Int) (a4_9 : Bool) (l4_10 : List (S68)) (l4_11 : List Int) : Option (Int × Int × Bool) := if a4_4 < a0 then (some (a0, a1, false)) else (if a4_4 > a0 then (conduitref20_Vote.j0 k 0 a2 a3 a4_0 a4_1 a4_2 a4_3 a4_4 a4_5 a4_6 a4_7 a4_8 a4_9 l4_10 l4_11) else (conduitref20_Vote.j0 k a1 a2 a3 a4_0 a4_1 a4_2 a4_3 a4_4 a4_5 a4_6 a4_7 a4_8 a4_9 l4_10 l4_11))
theorem conduitref20_Vote.mono_l : ∀ k, (∀ y0 y1 y2 y3 y4 y5 y6 y7 y8 y9 y10 y11 y12 y13 y14, LeO (conduitref20_Vote.j0 k y0 y1 y2 y3 y4 y5 y6 y7 y8 y9 y10 y11 y12 y13 y14) (conduitref20_Vote.j0 (k + 1) y0 y1 y2 y3 y4 y5 y6 y7 y8 y9 y10 y11 y12 y13 y14)) ∧ (∀ y0 y1 y2 y3 y4 y5 y6 y7 y8 y9 y10 y11 y12 y13 y14, LeO (conduitref20_Vote.j1 k y0 y1 y2 y3 y4 y5 y6 y7 y8 y9 y10 y11 y12 y13 y14) (conduitref20_Vote.j1 (k + 1) y0 y1 y2 y3 y4 y5 y6 y7 y8 y9 y10 y11 y12 y13 y14))
  | 0 => ⟨fun _ _ _ _ _ _ _ _ _ _ _ _ _ _ _ r h => by simp [conduitref20_Vote.j0] at h, fun _ _ _ _ _ _ _ _ _ _ _ _ _ _ _ r h => by simp [conduitref20_Vote.j1] at h⟩
  | k + 1 => by
    obtain ⟨ih0, ih1⟩ := conduitref20_Vote.mono_l k
    refine ⟨?_, ?_⟩
    · intro y0 y1 y2 y3 y4 y5 y6 y7 y8 y9 y10 y11 y12 y13 y14
      unfold conduitref20_Vote.j0
      repeat' first
      | (with_reducible exact ih0 _ _ _ _ _ _ _ _ _ _ _ _ _ _ _)
      | (with_reducible exact ih1 _ _ _ _ _ _ _ _ _ _ _ _ _ _ _)
      | (with_reducible exact LeO.refl _)
      | (with_reducible exact LeO.none _)
      | (with_reducible refine LeO.ite ?_ ?_)
      | (with_reducible refine LeO.bind ?_ (fun _ => ?_))
      | exact ih0 _ _ _ _ _ _ _ _ _ _ _ _ _ _ _
      | exact ih1 _ _ _ _ _ _ _ _ _ _ _ _ _ _ _
      | exact LeO.none _
      | refine LeO.ite ?_ ?_
      | refine LeO.bind ?_ (fun _ => ?_)
    · intro y0 y1 y2 y3 y4 y5 y6 y7 y8 y9 y10 y11 y12 y13 y14
      unfold conduitref20_Vote.j1
      repeat' first
      | (with_reducible exact ih0 _ _ _ _ _ _ _ _ _ _ _ _ _ _ _)
      | (with_reducible exact ih1 _ _ _ _ _ _ _ _ _ _ _ _ _ _ _)
      | (with_reducible exact LeO.refl _)
      | (with_reducible exact LeO.none _)
      | (with_reducible refine LeO.ite ?_ ?_)
      | (with_reducible refine LeO.bind ?_ (fun _ => ?_))
      | exact ih0 _ _ _ _ _ _ _ _ _ _ _ _ _ _ _
      | exact ih1 _ _ _ _ _ _ _ _ _ _ _ _ _ _ _
      | exact LeO.none _
      | refine LeO.ite ?_ ?_
      | refine LeO.bind ?_ (fun _ => ?_)
theorem conduitref20_Vote.mono : ∀ a0 a1 a2 a3 a4 a5 a6 a7 a8 a9 a10 a11 a12 a13 a14 a15 k, LeO (conduitref20_Vote.f k a0 a1 a2 a3 a4 a5 a6 a7 a8 a9 a10 a11 a12 a13 a14 a15) (conduitref20_Vote.f (k + 1) a0 a1 a2 a3 a4 a5 a6 a7 a8 a9 a10 a11 a12 a13 a14 a15) := by
  intro a0 a1 a2 a3 a4 a5 a6 a7 a8 a9 a10 a11 a12 a13 a14 a15 k
  obtain ⟨ih0, ih1⟩ := conduitref20_Vote.mono_l k
  unfold conduitref20_Vote.f
  repeat' first
      | (with_reducible exact ih0 _ _ _ _ _ _ _ _ _ _ _ _ _ _ _)
      | (with_reducible exact ih1 _ _ _ _ _ _ _ _ _ _ _ _ _ _ _)
      | (with_reducible exact LeO.refl _)
      | (with_reducible exact LeO.none _)
      | (with_reducible refine LeO.ite ?_ ?_)
      | (with_reducible refine LeO.bind ?_ (fun _ => ?_))
      | exact ih0 _ _ _ _ _ _ _ _ _ _ _ _ _ _ _
      | exact ih1 _ _ _ _ _ _ _ _ _ _ _ _ _ _ _
      | exact LeO.none _
      | refine LeO.ite ?_ ?_
      | refine LeO.bind ?_ (fun _ => ?_)
set_option maxHeartbeats 8000000 in
set_option maxRecDepth 100000 in
theorem conduitref20_Vote.calls (k : Nat) (a0 : Int) (a1 : Int) (a2 : Int) (a3 : Int) (a4_0 : ByteArray) (a4_1 : Int) (a4_2 : Int) (a4_3 : Int) (a4_4 : Int) (a4_5 : Int) (a4_6 : Int) (a4_7 : Int) (a4_8 : Int) (a4_9 : Bool) (A4_10 : Option Addr) (c4_10 : Nat) (l4_10 : List (S68)) (A4_11 : Option Addr) (c4_11 : Nat) (l4_11 : List Int) (r1 : Int) (r2 : Int) (r3 : Bool) (w : World) (hr4_10 : Kd.C k68 w A4_10 l4_10.length l4_10) (hc4_10 : l4_10.length ≤ c4_10) (hr4_11 : Kd.C (Kd.int .u8) w A4_11 l4_11.length l4_11) (hc4_11 : l4_11.length ≤ c4_11) (h : conduitref20_Vote.f k a0 a1 a2 a3 a4_0 a4_1 a4_2 a4_3 a4_4 a4_5 a4_6 a4_7 a4_8 a4_9 l4_10 l4_11 = some (r1, r2, r3)) :
    Calls Try.prog 28 #[.int .i64 a0, .int .i64 a1, .int .i64 a2, .int .i64 a3, .agg #[.string a4_0, .int .u8 a4_1, .int .i64 a4_2, .int .i64 a4_3, .int .i64 a4_4, .int .i64 a4_5, .int .i64 a4_6, .int .i64 a4_7, .int .i64 a4_8, .bool a4_9, .slice A4_10 l4_10.length c4_10, .slice A4_11 l4_11.length c4_11]] w fun e w' => e = .returned (.tuple #[.int .i64 r1, .int .i64 r2, .bool r3]) ∧ Below w.heap.size w w' := by
  have hu28 := Try.underlying28
  have HR4_10 := Aside0.mk hr4_10
  have HC4_10 := Aside0.mk hc4_10
  clear hr4_10 hc4_10
  have HR4_11 := Aside0.mk hr4_11
  have HC4_11 := Aside0.mk hc4_11
  clear hr4_11 hc4_11
  have HB := Aside0.mk (Below.refl w.heap.size w)
  have H : (if a4_4 < a0 then (some (a0, a1, false)) else (if a4_4 > a0 then (conduitref20_Vote.j0 k 0 a2 a3 a4_0 a4_1 a4_2 a4_3 a4_4 a4_5 a4_6 a4_7 a4_8 a4_9 l4_10 l4_11) else (conduitref20_Vote.j0 k a1 a2 a3 a4_0 a4_1 a4_2 a4_3 a4_4 a4_5 a4_6 a4_7 a4_8 a4_9 l4_10 l4_11))) = some (r1, r2, r3) := h
  clear h
  by_cases c6 : a4_4 < a0
  · rw [if_pos c6] at H
    have c6b0 : decide (a4_4 < a0) = true := decide_eq_true c6
    clear c6
    simp only [Option.some.injEq, Prod.mk.injEq] at H
    obtain ⟨rfl, rfl, rfl⟩ := H
    go_enter Try.func28, Try.ntmps28
    go_wp2_with (first | ((with_reducible refine gate_dst (N := 9) rfl ?_); refine box_event ?hg (N := 9) ?hd (cs := #[.string a4_0, .int .u8 a4_1, .int .i64 a4_2, .int .i64 a4_3, .int .i64 a4_4, .int .i64 a4_5, .int .i64 a4_6, .int .i64 a4_7, .int .i64 a4_8, .bool a4_9, .slice A4_10 l4_10.length c4_10, .slice A4_11 l4_11.length c4_11]) (t := 28) ?hr ?_; (case hd => rfl); (case hg => rfl); (case hr => first | (go_simp; done) | (go_simp; rfl)); intro gb266 hg w7 hbox hb; have n0_ := Aside0.mk (below_step (by repeat (first | (with_reducible first | exact HB.out | apply below_alloc | apply pw_below_drewN | apply below_drew1) | exact HB.out)) hb); have n1_ := Aside0.mk (hbox); have n2_ := Aside0.mk ((by rw [hg]; exact (below_size (by repeat (first | (with_reducible first | exact HB.out | apply below_alloc | apply pw_below_drewN | apply below_drew1) | exact HB.out))) : w.heap.size ≤ gb266)); have n3_ := Aside0.mk ((by rw [hg]; exact (below_size (by repeat (first | (with_reducible first | exact HB.out | apply below_alloc | apply pw_below_drewN | apply below_drew1) | exact HB.out))) : w.heap.size ≤ gb266)); clear HB; have HB := n0_; have BK266 := n1_; have GW266 := n2_; have GE266 := n3_; clear n0_ n1_ n2_ n3_; clear hb hbox hg; have hcz8_0 : w7.cell? ⟨gb266, 0, none⟩ = some (.string a4_0) := (blk_cell BK266.out 0).trans rfl; have hcz8_1 : w7.cell? ⟨gb266, 1, none⟩ = some (.int .u8 a4_1) := (blk_cell BK266.out 1).trans rfl; have hcz8_2 : w7.cell? ⟨gb266, 2, none⟩ = some (.int .i64 a4_2) := (blk_cell BK266.out 2).trans rfl; have hcz8_3 : w7.cell? ⟨gb266, 3, none⟩ = some (.int .i64 a4_3) := (blk_cell BK266.out 3).trans rfl; have hcz8_4 : w7.cell? ⟨gb266, 4, none⟩ = some (.int .i64 a4_4) := (blk_cell BK266.out 4).trans rfl; have hcz8_5 : w7.cell? ⟨gb266, 5, none⟩ = some (.int .i64 a4_5) := (blk_cell BK266.out 5).trans rfl; have hcz8_6 : w7.cell? ⟨gb266, 6, none⟩ = some (.int .i64 a4_6) := (blk_cell BK266.out 6).trans rfl; have hcz8_7 : w7.cell? ⟨gb266, 7, none⟩ = some (.int .i64 a4_7) := (blk_cell BK266.out 7).trans rfl; have hcz8_8 : w7.cell? ⟨gb266, 8, none⟩ = some (.int .i64 a4_8) := (blk_cell BK266.out 8).trans rfl; have hcz8_9 : w7.cell? ⟨gb266, 9, none⟩ = some (.bool a4_9) := (blk_cell BK266.out 9).trans rfl; have hcz8_10 : w7.cell? ⟨gb266, 10, none⟩ = some (.slice A4_10 l4_10.length c4_10) := (blk_cell BK266.out 10).trans rfl; have hcz8_11 : w7.cell? ⟨gb266, 11, none⟩ = some (.slice A4_11 l4_11.length c4_11) := (blk_cell BK266.out 11).trans rfl; have hfz8_0 := blk_frozen BK266.out 0; have hfz8_1 := blk_frozen BK266.out 1; have hfz8_2 := blk_frozen BK266.out 2; have hfz8_3 := blk_frozen BK266.out 3; have hfz8_4 := blk_frozen BK266.out 4; have hfz8_5 := blk_frozen BK266.out 5; have hfz8_6 := blk_frozen BK266.out 6; have hfz8_7 := blk_frozen BK266.out 7; have hfz8_8 := blk_frozen BK266.out 8; have hfz8_9 := blk_frozen BK266.out 9; have hfz8_10 := blk_frozen BK266.out 10; have hfz8_11 := blk_frozen BK266.out 11))
    go_ret3
    exact ⟨by first | rfl | (simp [errW_none, errW_some] <;> rfl) | (simp [*, errW_none, errW_some] <;> rfl), by repeat (first | (with_reducible first | exact HB.out | apply below_alloc | apply pw_below_drewN | apply below_drew1 | refine below_set ?_ GE266.out) | exact HB.out)⟩
  · rw [if_neg c6] at H
    have c6b0 : decide (a4_4 < a0) = false := decide_eq_false c6
    clear c6
    have HC9 := Aside0.mk H
    clear H
    go_enter Try.func28, Try.ntmps28
    go_upto_if 23 with (first | ((with_reducible refine gate_dst (N := 9) rfl ?_); refine box_event ?hg (N := 9) ?hd (cs := #[.string a4_0, .int .u8 a4_1, .int .i64 a4_2, .int .i64 a4_3, .int .i64 a4_4, .int .i64 a4_5, .int .i64 a4_6, .int .i64 a4_7, .int .i64 a4_8, .bool a4_9, .slice A4_10 l4_10.length c4_10, .slice A4_11 l4_11.length c4_11]) (t := 28) ?hr ?_; (case hd => rfl); (case hg => rfl); (case hr => first | (go_simp; done) | (go_simp; rfl)); intro gb266 hg w10 hbox hb; have n0_ := Aside0.mk (below_step (by repeat (first | (with_reducible first | exact HB.out | apply below_alloc | apply pw_below_drewN | apply below_drew1) | exact HB.out)) hb); have n1_ := Aside0.mk (hbox); have n2_ := Aside0.mk ((by rw [hg]; exact (below_size (by repeat (first | (with_reducible first | exact HB.out | apply below_alloc | apply pw_below_drewN | apply below_drew1) | exact HB.out))) : w.heap.size ≤ gb266)); have n3_ := Aside0.mk ((by rw [hg]; exact (below_size (by repeat (first | (with_reducible first | exact HB.out | apply below_alloc | apply pw_below_drewN | apply below_drew1) | exact HB.out))) : w.heap.size ≤ gb266)); clear HB; have HB := n0_; have BK266 := n1_; have GW266 := n2_; have GE266 := n3_; clear n0_ n1_ n2_ n3_; clear hb hbox hg; have hcz11_0 : w10.cell? ⟨gb266, 0, none⟩ = some (.string a4_0) := (blk_cell BK266.out 0).trans rfl; have hcz11_1 : w10.cell? ⟨gb266, 1, none⟩ = some (.int .u8 a4_1) := (blk_cell BK266.out 1).trans rfl; have hcz11_2 : w10.cell? ⟨gb266, 2, none⟩ = some (.int .i64 a4_2) := (blk_cell BK266.out 2).trans rfl; have hcz11_3 : w10.cell? ⟨gb266, 3, none⟩ = some (.int .i64 a4_3) := (blk_cell BK266.out 3).trans rfl; have hcz11_4 : w10.cell? ⟨gb266, 4, none⟩ = some (.int .i64 a4_4) := (blk_cell BK266.out 4).trans rfl; have hcz11_5 : w10.cell? ⟨gb266, 5, none⟩ = some (.int .i64 a4_5) := (blk_cell BK266.out 5).trans rfl; have hcz11_6 : w10.cell? ⟨gb266, 6, none⟩ = some (.int .i64 a4_6) := (blk_cell BK266.out 6).trans rfl; have hcz11_7 : w10.cell? ⟨gb266, 7, none⟩ = some (.int .i64 a4_7) := (blk_cell BK266.out 7).trans rfl; have hcz11_8 : w10.cell? ⟨gb266, 8, none⟩ = some (.int .i64 a4_8) := (blk_cell BK266.out 8).trans rfl; have hcz11_9 : w10.cell? ⟨gb266, 9, none⟩ = some (.bool a4_9) := (blk_cell BK266.out 9).trans rfl; have hcz11_10 : w10.cell? ⟨gb266, 10, none⟩ = some (.slice A4_10 l4_10.length c4_10) := (blk_cell BK266.out 10).trans rfl; have hcz11_11 : w10.cell? ⟨gb266, 11, none⟩ = some (.slice A4_11 l4_11.length c4_11) := (blk_cell BK266.out 11).trans rfl; have hfz11_0 := blk_frozen BK266.out 0; have hfz11_1 := blk_frozen BK266.out 1; have hfz11_2 := blk_frozen BK266.out 2; have hfz11_3 := blk_frozen BK266.out 3; have hfz11_4 := blk_frozen BK266.out 4; have hfz11_5 := blk_frozen BK266.out 5; have hfz11_6 := blk_frozen BK266.out 6; have hfz11_7 := blk_frozen BK266.out 7; have hfz11_8 := blk_frozen BK266.out 8; have hfz11_9 := blk_frozen BK266.out 9; have hfz11_10 := blk_frozen BK266.out 10; have hfz11_11 := blk_frozen BK266.out 11))
    (try simp only [Act.put, List.setIfInBounds_toArray, List.set_cons_zero, List.set_cons_succ])
    go_cut [1] (fun v1 wc => ∃ (kq : Nat) (x1_8 : Int), v1 = .int .i64 x1_8 ∧ Aside0 (conduitref20_Vote.j0 kq x1_8 a2 a3 a4_0 a4_1 a4_2 a4_3 a4_4 a4_5 a4_6 a4_7 a4_8 a4_9 l4_10 l4_11 = some (r1, r2, r3)) ∧ Aside0 (kq ≤ k) ∧ Aside0 (wc.heap[gb266]? = some (.cells #[.string a4_0, .int .u8 a4_1, .int .i64 a4_2, .int .i64 a4_3, .int .i64 a4_4, .int .i64 a4_5, .int .i64 a4_6, .int .i64 a4_7, .int .i64 a4_8, .bool a4_9, (.slice A4_10 l4_10.length c4_10), (.slice A4_11 l4_11.length c4_11)] 28 (0, 0))) ∧ Aside0 (Below w.heap.size w wc))
    case first =>
      have H := HC9.out
      clear HC9
      by_cases c12 : a4_4 > a0
      · rw [if_pos c12] at H
        have c12b0 : decide (a0 < a4_4) = true := decide_eq_true c12
        clear c12
        (first | rw [c12b0] | (simp only [i64_w, i32_w]; rw [c12b0]) | skip)
        have H' := Aside0.mk H
        clear H
        go_wp2
        go_meet
        case rel => exact ⟨_, (0), (by first | rfl | (simp; done) | (simp [*]; done)), H', ⟨by first | omega | exact Nat.le_refl _⟩, ⟨by (with_reducible repeat (first | refine blk_drewN ?_ _ | refine blk_drew ?_ | refine blk_alloc ?_ _)); exact BK266.out⟩, ⟨by repeat (first | (with_reducible first | exact HB.out | apply below_alloc | apply pw_below_drewN | apply below_drew1 | refine below_set ?_ GE266.out) | exact HB.out)⟩⟩
      · rw [if_neg c12] at H
        have c12b0 : decide (a0 < a4_4) = false := decide_eq_false c12
        clear c12
        (first | rw [c12b0] | (simp only [i64_w, i32_w]; rw [c12b0]) | skip)
        have H' := Aside0.mk H
        clear H
        go_wp2
        go_meet
        case rel => exact ⟨_, (a1), (by first | rfl | (simp; done) | (simp [*]; done)), H', ⟨by first | omega | exact Nat.le_refl _⟩, ⟨by (with_reducible repeat (first | refine blk_drewN ?_ _ | refine blk_drew ?_ | refine blk_alloc ?_ _)); exact BK266.out⟩, ⟨by repeat (first | (with_reducible first | exact HB.out | apply below_alloc | apply pw_below_drewN | apply below_drew1 | refine below_set ?_ GE266.out) | exact HB.out)⟩⟩
    case rest =>
      clear HC9
      try clear c1
      try clear c2
      try clear p2
      try clear c4
      try clear c6
      try clear c6b0
      try clear c12
      try clear c12b0
      try clear hcz11_0
      try clear hcz11_1
      try clear hcz11_10
      try clear hcz11_11
      try clear hcz11_2
      try clear hcz11_3
      try clear hcz11_4
      try clear hcz11_5
      try clear hcz11_6
      try clear hcz11_7
      try clear hcz11_8
      try clear hcz11_9
      try clear hcz8_0
      try clear hcz8_1
      try clear hcz8_10
      try clear hcz8_11
      try clear hcz8_2
      try clear hcz8_3
      try clear hcz8_4
      try clear hcz8_5
      try clear hcz8_6
      try clear hcz8_7
      try clear hcz8_8
      try clear hcz8_9
      try clear hfz11_0
      try clear hfz11_1
      try clear hfz11_10
      try clear hfz11_11
      try clear hfz11_2
      try clear hfz11_3
      try clear hfz11_4
      try clear hfz11_5
      try clear hfz11_6
      try clear hfz11_7
      try clear hfz11_8
      try clear hfz11_9
      try clear hfz8_0
      try clear hfz8_1
      try clear hfz8_10
      try clear hfz8_11
      try clear hfz8_2
      try clear hfz8_3
      try clear hfz8_4
      try clear hfz8_5
      try clear hfz8_6
      try clear hfz8_7
      try clear hfz8_8
      try clear hfz8_9
      obtain ⟨kq, x1_8, rfl, HA, HJ8, BK266, HB⟩ := hcut
      cases kq with
      | zero => exact absurd HA.out (by simp [conduitref20_Vote.j0])
      | succ kj8 =>
        have H := HA.out
        clear HA
        simp only [conduitref20_Vote.j0] at H
        replace H := Option.bind_eq_some_iff.mp H
        obtain ⟨t267, A130, H⟩ := H
        replace H : (if x1_8 = 0 then (conduitref20_Vote.j1 kj8 x1_8 t267 false a4_0 a4_1 a4_2 a4_3 a4_4 a4_5 a4_6 a4_7 a4_8 a4_9 l4_10 l4_11) else (conduitref20_Vote.j1 kj8 x1_8 t267 (x1_8 != a4_2) a4_0 a4_1 a4_2 a4_3 a4_4 a4_5 a4_6 a4_7 a4_8 a4_9 l4_10 l4_11)) = some (r1, r2, r3) := H
        have A13 := Aside0.mk A130
        clear A130
        have HC14 := Aside0.mk H
        clear H
        have hcz15_0 : wc.cell? ⟨gb266, 0, none⟩ = some (.string a4_0) := (blk_cell BK266.out 0).trans rfl
        have hcz15_1 : wc.cell? ⟨gb266, 1, none⟩ = some (.int .u8 a4_1) := (blk_cell BK266.out 1).trans rfl
        have hcz15_2 : wc.cell? ⟨gb266, 2, none⟩ = some (.int .i64 a4_2) := (blk_cell BK266.out 2).trans rfl
        have hcz15_3 : wc.cell? ⟨gb266, 3, none⟩ = some (.int .i64 a4_3) := (blk_cell BK266.out 3).trans rfl
        have hcz15_4 : wc.cell? ⟨gb266, 4, none⟩ = some (.int .i64 a4_4) := (blk_cell BK266.out 4).trans rfl
        have hcz15_5 : wc.cell? ⟨gb266, 5, none⟩ = some (.int .i64 a4_5) := (blk_cell BK266.out 5).trans rfl
        have hcz15_6 : wc.cell? ⟨gb266, 6, none⟩ = some (.int .i64 a4_6) := (blk_cell BK266.out 6).trans rfl
        have hcz15_7 : wc.cell? ⟨gb266, 7, none⟩ = some (.int .i64 a4_7) := (blk_cell BK266.out 7).trans rfl
        have hcz15_8 : wc.cell? ⟨gb266, 8, none⟩ = some (.int .i64 a4_8) := (blk_cell BK266.out 8).trans rfl
        have hcz15_9 : wc.cell? ⟨gb266, 9, none⟩ = some (.bool a4_9) := (blk_cell BK266.out 9).trans rfl
        have hcz15_10 : wc.cell? ⟨gb266, 10, none⟩ = some (.slice A4_10 l4_10.length c4_10) := (blk_cell BK266.out 10).trans rfl
        have hcz15_11 : wc.cell? ⟨gb266, 11, none⟩ = some (.slice A4_11 l4_11.length c4_11) := (blk_cell BK266.out 11).trans rfl
        have hfz15_0 := blk_frozen BK266.out 0
        have hfz15_1 := blk_frozen BK266.out 1
        have hfz15_2 := blk_frozen BK266.out 2
        have hfz15_3 := blk_frozen BK266.out 3
        have hfz15_4 := blk_frozen BK266.out 4
        have hfz15_5 := blk_frozen BK266.out 5
        have hfz15_6 := blk_frozen BK266.out 6
        have hfz15_7 := blk_frozen BK266.out 7
        have hfz15_8 := blk_frozen BK266.out 8
        have hfz15_9 := blk_frozen BK266.out 9
        have hfz15_10 := blk_frozen BK266.out 10
        have hfz15_11 := blk_frozen BK266.out 11
        go_upto_region 6 with (first | ((with_reducible refine gate_callee (f := 29) rfl ?_); refine goesL_ (some 30) rfl rfl Try.func29 (by kernel_rfl) rfl #[.int .i64 a4_6, .int .i64 a4_5, .int .i64 a2, .int .i64 a3] rfl (by (try simp only [List.map_toArray, List.map_cons, List.map_nil]); first | done | rfl | (simp only [List.length_drop, List.length_take]; rfl)) ?_; (with_reducible refine (conduitref20_Newer.calls a4_6 a4_5 a2 a3 t267 _ A13.out).mono ?_); rintro e w' ⟨rfl, ⟨nd, rfl⟩⟩; refine ⟨_, rfl, ?_⟩))
        (try simp only [Act.put, List.setIfInBounds_toArray, List.set_cons_zero, List.set_cons_succ])
        go_cut [38] (fun v38 wc => ∃ (kq : Nat) (x38_13 : Bool), v38 = .bool x38_13 ∧ Aside0 (conduitref20_Vote.j1 kq x1_8 t267 x38_13 a4_0 a4_1 a4_2 a4_3 a4_4 a4_5 a4_6 a4_7 a4_8 a4_9 l4_10 l4_11 = some (r1, r2, r3)) ∧ Aside0 (kq ≤ kj8) ∧ Aside0 (wc.heap[gb266]? = some (.cells #[.string a4_0, .int .u8 a4_1, .int .i64 a4_2, .int .i64 a4_3, .int .i64 a4_4, .int .i64 a4_5, .int .i64 a4_6, .int .i64 a4_7, .int .i64 a4_8, .bool a4_9, (.slice A4_10 l4_10.length c4_10), (.slice A4_11 l4_11.length c4_11)] 28 (0, 0))) ∧ Aside0 (Below w.heap.size w wc))
        case first =>
          have H := HC14.out
          clear HC14
          by_cases c16 : x1_8 = 0
          · rw [if_pos c16] at H
            have c16b0 : (x1_8 == 0) = true := beq_iff_eq.mpr c16
            have c16b1 : (x1_8 != 0) = false := bne_eq_false_iff_eq.mpr c16
            clear c16
            (first | rw [c16b0] | (simp only [i64_w, i32_w]; rw [c16b0]) | skip)
            have H' := Aside0.mk H
            clear H
            go_wp2
            go_meet
            case rel => exact ⟨_, (false), (by first | rfl | (simp; done) | (simp [*]; done)), H', ⟨by have := HJ8.out; first | omega | exact Nat.le_refl _⟩, ⟨by (with_reducible repeat (first | refine blk_drewN ?_ _ | refine blk_drew ?_ | refine blk_alloc ?_ _)); exact BK266.out⟩, ⟨by repeat (first | (with_reducible first | exact HB.out | apply below_alloc | apply pw_below_drewN | apply below_drew1 | refine below_set ?_ GE266.out) | exact HB.out)⟩⟩
          · rw [if_neg c16] at H
            have c16b0 : (x1_8 == 0) = false := beq_eq_false_iff_ne.mpr c16
            have c16b1 : (x1_8 != 0) = true := bne_iff_ne.mpr c16
            (first | rw [c16b0] | (simp only [i64_w, i32_w]; rw [c16b0]) | skip)
            have H' := Aside0.mk H
            clear H
            have hcz17_0 : wc.cell? ⟨gb266, 0, none⟩ = some (.string a4_0) := (blk_cell BK266.out 0).trans rfl
            have hcz17_1 : wc.cell? ⟨gb266, 1, none⟩ = some (.int .u8 a4_1) := (blk_cell BK266.out 1).trans rfl
            have hcz17_2 : wc.cell? ⟨gb266, 2, none⟩ = some (.int .i64 a4_2) := (blk_cell BK266.out 2).trans rfl
            have hcz17_3 : wc.cell? ⟨gb266, 3, none⟩ = some (.int .i64 a4_3) := (blk_cell BK266.out 3).trans rfl
            have hcz17_4 : wc.cell? ⟨gb266, 4, none⟩ = some (.int .i64 a4_4) := (blk_cell BK266.out 4).trans rfl
            have hcz17_5 : wc.cell? ⟨gb266, 5, none⟩ = some (.int .i64 a4_5) := (blk_cell BK266.out 5).trans rfl
            have hcz17_6 : wc.cell? ⟨gb266, 6, none⟩ = some (.int .i64 a4_6) := (blk_cell BK266.out 6).trans rfl
            have hcz17_7 : wc.cell? ⟨gb266, 7, none⟩ = some (.int .i64 a4_7) := (blk_cell BK266.out 7).trans rfl
            have hcz17_8 : wc.cell? ⟨gb266, 8, none⟩ = some (.int .i64 a4_8) := (blk_cell BK266.out 8).trans rfl
            have hcz17_9 : wc.cell? ⟨gb266, 9, none⟩ = some (.bool a4_9) := (blk_cell BK266.out 9).trans rfl
            have hcz17_10 : wc.cell? ⟨gb266, 10, none⟩ = some (.slice A4_10 l4_10.length c4_10) := (blk_cell BK266.out 10).trans rfl
            have hcz17_11 : wc.cell? ⟨gb266, 11, none⟩ = some (.slice A4_11 l4_11.length c4_11) := (blk_cell BK266.out 11).trans rfl
            have hfz17_0 := blk_frozen BK266.out 0
            have hfz17_1 := blk_frozen BK266.out 1
            have hfz17_2 := blk_frozen BK266.out 2
            have hfz17_3 := blk_frozen BK266.out 3
            have hfz17_4 := blk_frozen BK266.out 4
            have hfz17_5 := blk_frozen BK266.out 5
            have hfz17_6 := blk_frozen BK266.out 6
            have hfz17_7 := blk_frozen BK266.out 7
            have hfz17_8 := blk_frozen BK266.out 8
            have hfz17_9 := blk_frozen BK266.out 9
            have hfz17_10 := blk_frozen BK266.out 10
            have hfz17_11 := blk_frozen BK266.out 11
            go_wp2
            go_meet
            case rel => exact ⟨_, ((x1_8 != a4_2)), (by first | rfl | (simp; done) | (simp [*]; done)), H', ⟨by have := HJ8.out; first | omega | exact Nat.le_refl _⟩, ⟨by (with_reducible repeat (first | refine blk_drewN ?_ _ | refine blk_drew ?_ | refine blk_alloc ?_ _)); exact BK266.out⟩, ⟨by repeat (first | (with_reducible first | exact HB.out | apply below_alloc | apply pw_below_drewN | apply below_drew1 | refine below_set ?_ GE266.out) | exact HB.out)⟩⟩
        case rest =>
          clear HC14
          try clear c1
          try clear c2
          try clear p2
          try clear c4
          try clear c6
          try clear c6b0
          try clear c12
          try clear c12b0
          try clear c16
          try clear c16b0
          try clear c16b1
          try clear hcz11_0
          try clear hcz11_1
          try clear hcz11_10
          try clear hcz11_11
          try clear hcz11_2
          try clear hcz11_3
          try clear hcz11_4
          try clear hcz11_5
          try clear hcz11_6
          try clear hcz11_7
          try clear hcz11_8
          try clear hcz11_9
          try clear hcz15_0
          try clear hcz15_1
          try clear hcz15_10
          try clear hcz15_11
          try clear hcz15_2
          try clear hcz15_3
          try clear hcz15_4
          try clear hcz15_5
          try clear hcz15_6
          try clear hcz15_7
          try clear hcz15_8
          try clear hcz15_9
          try clear hcz17_0
          try clear hcz17_1
          try clear hcz17_10
          try clear hcz17_11
          try clear hcz17_2
          try clear hcz17_3
          try clear hcz17_4
          try clear hcz17_5
          try clear hcz17_6
          try clear hcz17_7
          try clear hcz17_8
          try clear hcz17_9
          try clear hcz8_0
          try clear hcz8_1
          try clear hcz8_10
          try clear hcz8_11
          try clear hcz8_2
          try clear hcz8_3
          try clear hcz8_4
          try clear hcz8_5
          try clear hcz8_6
          try clear hcz8_7
          try clear hcz8_8
          try clear hcz8_9
          try clear hfz11_0
          try clear hfz11_1
          try clear hfz11_10
          try clear hfz11_11
          try clear hfz11_2
          try clear hfz11_3
          try clear hfz11_4
          try clear hfz11_5
          try clear hfz11_6
          try clear hfz11_7
          try clear hfz11_8
          try clear hfz11_9
          try clear hfz15_0
          try clear hfz15_1
          try clear hfz15_10
          try clear hfz15_11
          try clear hfz15_2
          try clear hfz15_3
          try clear hfz15_4
          try clear hfz15_5
          try clear hfz15_6
          try clear hfz15_7
          try clear hfz15_8
          try clear hfz15_9
          try clear hfz17_0
          try clear hfz17_1
          try clear hfz17_10
          try clear hfz17_11
          try clear hfz17_2
          try clear hfz17_3
          try clear hfz17_4
          try clear hfz17_5
          try clear hfz17_6
          try clear hfz17_7
          try clear hfz17_8
          try clear hfz17_9
          try clear hfz8_0
          try clear hfz8_1
          try clear hfz8_10
          try clear hfz8_11
          try clear hfz8_2
          try clear hfz8_3
          try clear hfz8_4
          try clear hfz8_5
          try clear hfz8_6
          try clear hfz8_7
          try clear hfz8_8
          try clear hfz8_9
          try clear p2
          obtain ⟨kq, x38_13, rfl, HA, HJ13, BK266, HB⟩ := hcut
          cases kq with
          | zero => exact absurd HA.out (by simp [conduitref20_Vote.j1])
          | succ kj13 =>
            have H := HA.out
            clear HA
            simp only [conduitref20_Vote.j1] at H
            by_cases c18 : x38_13 = true
            · subst c18
              have H1 : (some (a4_4, x1_8, false)) = some (r1, r2, r3) := by rw [if_pos rfl] at H; exact H
              clear H
              have H := H1
              clear H1
              simp only [Option.some.injEq, Prod.mk.injEq] at H
              obtain ⟨rfl, rfl, rfl⟩ := H
              have hcz19_0 : wc.cell? ⟨gb266, 0, none⟩ = some (.string a4_0) := (blk_cell BK266.out 0).trans rfl
              have hcz19_1 : wc.cell? ⟨gb266, 1, none⟩ = some (.int .u8 a4_1) := (blk_cell BK266.out 1).trans rfl
              have hcz19_2 : wc.cell? ⟨gb266, 2, none⟩ = some (.int .i64 a4_2) := (blk_cell BK266.out 2).trans rfl
              have hcz19_3 : wc.cell? ⟨gb266, 3, none⟩ = some (.int .i64 a4_3) := (blk_cell BK266.out 3).trans rfl
              have hcz19_4 : wc.cell? ⟨gb266, 4, none⟩ = some (.int .i64 a4_4) := (blk_cell BK266.out 4).trans rfl
              have hcz19_5 : wc.cell? ⟨gb266, 5, none⟩ = some (.int .i64 a4_5) := (blk_cell BK266.out 5).trans rfl
              have hcz19_6 : wc.cell? ⟨gb266, 6, none⟩ = some (.int .i64 a4_6) := (blk_cell BK266.out 6).trans rfl
              have hcz19_7 : wc.cell? ⟨gb266, 7, none⟩ = some (.int .i64 a4_7) := (blk_cell BK266.out 7).trans rfl
              have hcz19_8 : wc.cell? ⟨gb266, 8, none⟩ = some (.int .i64 a4_8) := (blk_cell BK266.out 8).trans rfl
              have hcz19_9 : wc.cell? ⟨gb266, 9, none⟩ = some (.bool a4_9) := (blk_cell BK266.out 9).trans rfl
              have hcz19_10 : wc.cell? ⟨gb266, 10, none⟩ = some (.slice A4_10 l4_10.length c4_10) := (blk_cell BK266.out 10).trans rfl
              have hcz19_11 : wc.cell? ⟨gb266, 11, none⟩ = some (.slice A4_11 l4_11.length c4_11) := (blk_cell BK266.out 11).trans rfl
              have hfz19_0 := blk_frozen BK266.out 0
              have hfz19_1 := blk_frozen BK266.out 1
              have hfz19_2 := blk_frozen BK266.out 2
              have hfz19_3 := blk_frozen BK266.out 3
              have hfz19_4 := blk_frozen BK266.out 4
              have hfz19_5 := blk_frozen BK266.out 5
              have hfz19_6 := blk_frozen BK266.out 6
              have hfz19_7 := blk_frozen BK266.out 7
              have hfz19_8 := blk_frozen BK266.out 8
              have hfz19_9 := blk_frozen BK266.out 9
              have hfz19_10 := blk_frozen BK266.out 10
              have hfz19_11 := blk_frozen BK266.out 11
              go_wp2
              go_ret3
              exact ⟨by first | rfl | (simp [errW_none, errW_some] <;> rfl) | (simp [*, errW_none, errW_some] <;> rfl), by repeat (first | (with_reducible first | exact HB.out | apply below_alloc | apply pw_below_drewN | apply below_drew1 | refine below_set ?_ GE266.out) | exact HB.out)⟩
            · replace c18 := Bool.eq_false_iff.mpr c18
              subst c18
              have H1 : (if t267 = true then (some (a4_4, a4_2, t267)) else (some (a4_4, x1_8, t267))) = some (r1, r2, r3) := by rw [if_neg (show ¬ (false = true) by decide)] at H; exact H
              clear H
              have H := H1
              clear H1
              by_cases c20 : t267 = true
              · subst c20
                have H1 : (some (a4_4, a4_2, true)) = some (r1, r2, r3) := by rw [if_pos rfl] at H; exact H
                clear H
                have H := H1
                clear H1
                simp only [Option.some.injEq, Prod.mk.injEq] at H
                obtain ⟨rfl, rfl, rfl⟩ := H
                have hcz21_0 : wc.cell? ⟨gb266, 0, none⟩ = some (.string a4_0) := (blk_cell BK266.out 0).trans rfl
                have hcz21_1 : wc.cell? ⟨gb266, 1, none⟩ = some (.int .u8 a4_1) := (blk_cell BK266.out 1).trans rfl
                have hcz21_2 : wc.cell? ⟨gb266, 2, none⟩ = some (.int .i64 a4_2) := (blk_cell BK266.out 2).trans rfl
                have hcz21_3 : wc.cell? ⟨gb266, 3, none⟩ = some (.int .i64 a4_3) := (blk_cell BK266.out 3).trans rfl
                have hcz21_4 : wc.cell? ⟨gb266, 4, none⟩ = some (.int .i64 a4_4) := (blk_cell BK266.out 4).trans rfl
                have hcz21_5 : wc.cell? ⟨gb266, 5, none⟩ = some (.int .i64 a4_5) := (blk_cell BK266.out 5).trans rfl
                have hcz21_6 : wc.cell? ⟨gb266, 6, none⟩ = some (.int .i64 a4_6) := (blk_cell BK266.out 6).trans rfl
                have hcz21_7 : wc.cell? ⟨gb266, 7, none⟩ = some (.int .i64 a4_7) := (blk_cell BK266.out 7).trans rfl
                have hcz21_8 : wc.cell? ⟨gb266, 8, none⟩ = some (.int .i64 a4_8) := (blk_cell BK266.out 8).trans rfl
                have hcz21_9 : wc.cell? ⟨gb266, 9, none⟩ = some (.bool a4_9) := (blk_cell BK266.out 9).trans rfl
                have hcz21_10 : wc.cell? ⟨gb266, 10, none⟩ = some (.slice A4_10 l4_10.length c4_10) := (blk_cell BK266.out 10).trans rfl
                have hcz21_11 : wc.cell? ⟨gb266, 11, none⟩ = some (.slice A4_11 l4_11.length c4_11) := (blk_cell BK266.out 11).trans rfl
                have hfz21_0 := blk_frozen BK266.out 0
                have hfz21_1 := blk_frozen BK266.out 1
                have hfz21_2 := blk_frozen BK266.out 2
                have hfz21_3 := blk_frozen BK266.out 3
                have hfz21_4 := blk_frozen BK266.out 4
                have hfz21_5 := blk_frozen BK266.out 5
                have hfz21_6 := blk_frozen BK266.out 6
                have hfz21_7 := blk_frozen BK266.out 7
                have hfz21_8 := blk_frozen BK266.out 8
                have hfz21_9 := blk_frozen BK266.out 9
                have hfz21_10 := blk_frozen BK266.out 10
                have hfz21_11 := blk_frozen BK266.out 11
                go_wp2
                go_ret3
                exact ⟨by first | rfl | (simp [errW_none, errW_some] <;> rfl) | (simp [*, errW_none, errW_some] <;> rfl), by repeat (first | (with_reducible first | exact HB.out | apply below_alloc | apply pw_below_drewN | apply below_drew1 | refine below_set ?_ GE266.out) | exact HB.out)⟩
              · replace c20 := Bool.eq_false_iff.mpr c20
                subst c20
                have H1 : (some (a4_4, x1_8, false)) = some (r1, r2, r3) := by rw [if_neg (show ¬ (false = true) by decide)] at H; exact H
                clear H
                have H := H1
                clear H1
                simp only [Option.some.injEq, Prod.mk.injEq] at H
                obtain ⟨rfl, rfl, rfl⟩ := H
                have hcz22_0 : wc.cell? ⟨gb266, 0, none⟩ = some (.string a4_0) := (blk_cell BK266.out 0).trans rfl
                have hcz22_1 : wc.cell? ⟨gb266, 1, none⟩ = some (.int .u8 a4_1) := (blk_cell BK266.out 1).trans rfl
                have hcz22_2 : wc.cell? ⟨gb266, 2, none⟩ = some (.int .i64 a4_2) := (blk_cell BK266.out 2).trans rfl
                have hcz22_3 : wc.cell? ⟨gb266, 3, none⟩ = some (.int .i64 a4_3) := (blk_cell BK266.out 3).trans rfl
                have hcz22_4 : wc.cell? ⟨gb266, 4, none⟩ = some (.int .i64 a4_4) := (blk_cell BK266.out 4).trans rfl
                have hcz22_5 : wc.cell? ⟨gb266, 5, none⟩ = some (.int .i64 a4_5) := (blk_cell BK266.out 5).trans rfl
                have hcz22_6 : wc.cell? ⟨gb266, 6, none⟩ = some (.int .i64 a4_6) := (blk_cell BK266.out 6).trans rfl
                have hcz22_7 : wc.cell? ⟨gb266, 7, none⟩ = some (.int .i64 a4_7) := (blk_cell BK266.out 7).trans rfl
                have hcz22_8 : wc.cell? ⟨gb266, 8, none⟩ = some (.int .i64 a4_8) := (blk_cell BK266.out 8).trans rfl
                have hcz22_9 : wc.cell? ⟨gb266, 9, none⟩ = some (.bool a4_9) := (blk_cell BK266.out 9).trans rfl
                have hcz22_10 : wc.cell? ⟨gb266, 10, none⟩ = some (.slice A4_10 l4_10.length c4_10) := (blk_cell BK266.out 10).trans rfl
                have hcz22_11 : wc.cell? ⟨gb266, 11, none⟩ = some (.slice A4_11 l4_11.length c4_11) := (blk_cell BK266.out 11).trans rfl
                have hfz22_0 := blk_frozen BK266.out 0
                have hfz22_1 := blk_frozen BK266.out 1
                have hfz22_2 := blk_frozen BK266.out 2
                have hfz22_3 := blk_frozen BK266.out 3
                have hfz22_4 := blk_frozen BK266.out 4
                have hfz22_5 := blk_frozen BK266.out 5
                have hfz22_6 := blk_frozen BK266.out 6
                have hfz22_7 := blk_frozen BK266.out 7
                have hfz22_8 := blk_frozen BK266.out 8
                have hfz22_9 := blk_frozen BK266.out 9
                have hfz22_10 := blk_frozen BK266.out 10
                have hfz22_11 := blk_frozen BK266.out 11
                go_wp2
                go_ret3
                exact ⟨by first | rfl | (simp [errW_none, errW_some] <;> rfl) | (simp [*, errW_none, errW_some] <;> rfl), by repeat (first | (with_reducible first | exact HB.out | apply below_alloc | apply pw_below_drewN | apply below_drew1 | refine below_set ?_ GE266.out) | exact HB.out)⟩

/-! ### conduitref20_Timeout: function 30 -/
def conduitref20_Timeout.f (a0 : Int) : Option (Int) := if (Int.tmod a0 10) < 0 then (some (wrap64 (10 + (wrap64 ((Int.tmod a0 10) + 10))))) else (some (wrap64 (10 + (Int.tmod a0 10))))
set_option maxHeartbeats 8000000 in
set_option maxRecDepth 100000 in
theorem conduitref20_Timeout.calls (a0 : Int) (r : Int) (w : World) (h : conduitref20_Timeout.f a0 = some r) :
    Calls Try.prog 30 #[.int .i64 a0] w fun e w' => e = .returned (.int .i64 r) ∧ Drawn0 w w' := by
  have H : (if (Int.tmod a0 10) < 0 then (some (wrap64 (10 + (wrap64 ((Int.tmod a0 10) + 10))))) else (some (wrap64 (10 + (Int.tmod a0 10))))) = some r := h
  clear h
  by_cases c2 : (Int.tmod a0 10) < 0
  · rw [if_pos c2] at H
    have c2b0 : decide ((Int.tmod a0 10) < 0) = true := decide_eq_true c2
    clear c2
    obtain rfl := Option.some.inj H
    go_enter Try.func30, Try.ntmps30
    go_wp2
    go_ret
    exact ⟨by first | rfl | (simp; done) | (simp [*]; done), by repeat (first | exact Drawn0.refl _ | apply Drawn0.step)⟩
  · rw [if_neg c2] at H
    have c2b0 : decide ((Int.tmod a0 10) < 0) = false := decide_eq_false c2
    clear c2
    obtain rfl := Option.some.inj H
    go_enter Try.func30, Try.ntmps30
    go_wp2
    go_ret
    exact ⟨by first | rfl | (simp; done) | (simp [*]; done), by repeat (first | exact Drawn0.refl _ | apply Drawn0.step)⟩

/-! ### conduitref20_Majority: function 31 -/
def conduitref20_Majority.f (a0 : Int) (a1 : Int) : Option (Bool) := some (decide (a0 > (wrap64 (Int.tdiv a1 2))))
set_option maxHeartbeats 8000000 in
set_option maxRecDepth 100000 in
theorem conduitref20_Majority.calls (a0 : Int) (a1 : Int) (r : Bool) (w : World) (h : conduitref20_Majority.f a0 a1 = some r) :
    Calls Try.prog 31 #[.int .i64 a0, .int .i64 a1] w fun e w' => e = .returned (.bool r) ∧ Drawn0 w w' := by
  have H : (some (decide (a0 > (wrap64 (Int.tdiv a1 2))))) = some r := h
  clear h
  obtain rfl := Option.some.inj H
  go_enter Try.func31, Try.ntmps31
  go_wp2
  go_ret
  exact ⟨by first | rfl | (simp; done) | (simp [*]; done), by repeat (first | exact Drawn0.refl _ | apply Drawn0.step)⟩

/-! ### conduitlaw20_BallotTells: function 10 -/
def conduitlaw20_BallotTells.f (k : Nat) (a0 : Int) (a1 : Int) (a2 : Int) (a3 : Int) (a4_0 : ByteArray) (a4_1 : Int) (a4_2 : Int) (a4_3 : Int) (a4_4 : Int) (a4_5 : Int) (a4_6 : Int) (a4_7 : Int) (a4_8 : Int) (a4_9 : Bool) (l4_10 : List (S68)) (l4_11 : List Int) (a5 : Int) : Option (Bool) := (ballot_Vote.f a0 a1 a2 a3 a4_0 a4_1 a4_2 a4_3 a4_4 a4_5 a4_6 a4_7 a4_8 a4_9 l4_10 l4_11).bind fun bt269 => ((conduitref20_Vote.f k a0 a1 a2 a3 a4_0 a4_1 a4_2 a4_3 a4_4 a4_5 a4_6 a4_7 a4_8 a4_9 l4_10 l4_11).bind fun bt272 => (if bt269.1 = bt272.1 then (if bt269.2.1 = bt272.2.1 then (if (bt269.2.2 == bt272.2.2) = true then ((ballot_Newer.f a0 a1 a2 a3).bind fun t275 => ((conduitref20_Newer.f a0 a1 a2 a3).bind fun t276 => (if (t275 == t276) = true then ((ballot_Timeout.f a5).bind fun t277 => ((conduitref20_Timeout.f a5).bind fun t278 => (if t277 = t278 then ((ballot_Majority.f (Go.bits .and .i64 a5 15) (Go.bits .and .i64 a1 15)).bind fun t279 => ((conduitref20_Majority.f (Go.bits .and .i64 a5 15) (Go.bits .and .i64 a1 15)).bind fun t280 => (if (t279 == t280) = true then ((conduitlaw20_awake.f).bind fun t281 => (some t281)) else (some false)))) else (some false)))) else (some false)))) else (some false)) else (some false)) else (some false)))
theorem conduitlaw20_BallotTells.mono : ∀ a0 a1 a2 a3 a4 a5 a6 a7 a8 a9 a10 a11 a12 a13 a14 a15 a16 k, LeO (conduitlaw20_BallotTells.f k a0 a1 a2 a3 a4 a5 a6 a7 a8 a9 a10 a11 a12 a13 a14 a15 a16) (conduitlaw20_BallotTells.f (k + 1) a0 a1 a2 a3 a4 a5 a6 a7 a8 a9 a10 a11 a12 a13 a14 a15 a16) := by
  intro a0 a1 a2 a3 a4 a5 a6 a7 a8 a9 a10 a11 a12 a13 a14 a15 a16 k
  unfold conduitlaw20_BallotTells.f
  repeat' first
      | (with_reducible exact conduitref20_Vote.mono _ _ _ _ _ _ _ _ _ _ _ _ _ _ _ _ _)
      | (with_reducible exact LeO.refl _)
      | (with_reducible exact LeO.none _)
      | (with_reducible refine LeO.ite ?_ ?_)
      | (with_reducible refine LeO.bind ?_ (fun _ => ?_))
      | exact conduitref20_Vote.mono _ _ _ _ _ _ _ _ _ _ _ _ _ _ _ _ _
      | exact LeO.none _
      | refine LeO.ite ?_ ?_
      | refine LeO.bind ?_ (fun _ => ?_)
set_option maxHeartbeats 8000000 in
set_option maxRecDepth 100000 in
theorem conduitlaw20_BallotTells.calls (k : Nat) (a0 : Int) (a1 : Int) (a2 : Int) (a3 : Int) (a4_0 : ByteArray) (a4_1 : Int) (a4_2 : Int) (a4_3 : Int) (a4_4 : Int) (a4_5 : Int) (a4_6 : Int) (a4_7 : Int) (a4_8 : Int) (a4_9 : Bool) (A4_10 : Option Addr) (c4_10 : Nat) (l4_10 : List (S68)) (A4_11 : Option Addr) (c4_11 : Nat) (l4_11 : List Int) (a5 : Int) (r : Bool) (w : World) (hr4_10 : Kd.C k68 w A4_10 l4_10.length l4_10) (hc4_10 : l4_10.length ≤ c4_10) (hr4_11 : Kd.C (Kd.int .u8) w A4_11 l4_11.length l4_11) (hc4_11 : l4_11.length ≤ c4_11) (h : conduitlaw20_BallotTells.f k a0 a1 a2 a3 a4_0 a4_1 a4_2 a4_3 a4_4 a4_5 a4_6 a4_7 a4_8 a4_9 l4_10 l4_11 a5 = some r) :
    Calls Try.prog 10 #[.int .i64 a0, .int .i64 a1, .int .i64 a2, .int .i64 a3, .agg #[.string a4_0, .int .u8 a4_1, .int .i64 a4_2, .int .i64 a4_3, .int .i64 a4_4, .int .i64 a4_5, .int .i64 a4_6, .int .i64 a4_7, .int .i64 a4_8, .bool a4_9, .slice A4_10 l4_10.length c4_10, .slice A4_11 l4_11.length c4_11], .int .i64 a5] w fun e w' => e = .returned (.bool r) ∧ Below w.heap.size w w' := by
  have hu28 := Try.underlying28
  have HR4_10 := Aside0.mk hr4_10
  have HC4_10 := Aside0.mk hc4_10
  clear hr4_10 hc4_10
  have HR4_11 := Aside0.mk hr4_11
  have HC4_11 := Aside0.mk hc4_11
  clear hr4_11 hc4_11
  have HB := Aside0.mk (Below.refl w.heap.size w)
  have H : ((ballot_Vote.f a0 a1 a2 a3 a4_0 a4_1 a4_2 a4_3 a4_4 a4_5 a4_6 a4_7 a4_8 a4_9 l4_10 l4_11).bind fun bt269 => ((conduitref20_Vote.f k a0 a1 a2 a3 a4_0 a4_1 a4_2 a4_3 a4_4 a4_5 a4_6 a4_7 a4_8 a4_9 l4_10 l4_11).bind fun bt272 => (if bt269.1 = bt272.1 then (if bt269.2.1 = bt272.2.1 then (if (bt269.2.2 == bt272.2.2) = true then ((ballot_Newer.f a0 a1 a2 a3).bind fun t275 => ((conduitref20_Newer.f a0 a1 a2 a3).bind fun t276 => (if (t275 == t276) = true then ((ballot_Timeout.f a5).bind fun t277 => ((conduitref20_Timeout.f a5).bind fun t278 => (if t277 = t278 then ((ballot_Majority.f (Go.bits .and .i64 a5 15) (Go.bits .and .i64 a1 15)).bind fun t279 => ((conduitref20_Majority.f (Go.bits .and .i64 a5 15) (Go.bits .and .i64 a1 15)).bind fun t280 => (if (t279 == t280) = true then ((conduitlaw20_awake.f).bind fun t281 => (some t281)) else (some false)))) else (some false)))) else (some false)))) else (some false)) else (some false)) else (some false)))) = some r := h
  clear h
  replace H := Option.bind_eq_some_iff.mp H
  obtain ⟨⟨t269, t270, t271⟩, A70, H⟩ := H
  replace H : ((conduitref20_Vote.f k a0 a1 a2 a3 a4_0 a4_1 a4_2 a4_3 a4_4 a4_5 a4_6 a4_7 a4_8 a4_9 l4_10 l4_11).bind fun bt272 => (if t269 = bt272.1 then (if t270 = bt272.2.1 then (if (t271 == bt272.2.2) = true then ((ballot_Newer.f a0 a1 a2 a3).bind fun t275 => ((conduitref20_Newer.f a0 a1 a2 a3).bind fun t276 => (if (t275 == t276) = true then ((ballot_Timeout.f a5).bind fun t277 => ((conduitref20_Timeout.f a5).bind fun t278 => (if t277 = t278 then ((ballot_Majority.f (Go.bits .and .i64 a5 15) (Go.bits .and .i64 a1 15)).bind fun t279 => ((conduitref20_Majority.f (Go.bits .and .i64 a5 15) (Go.bits .and .i64 a1 15)).bind fun t280 => (if (t279 == t280) = true then ((conduitlaw20_awake.f).bind fun t281 => (some t281)) else (some false)))) else (some false)))) else (some false)))) else (some false)) else (some false)) else (some false))) = some r := H
  have A7 := Aside0.mk A70
  clear A70
  replace H := Option.bind_eq_some_iff.mp H
  obtain ⟨⟨t272, t273, t274⟩, A80, H⟩ := H
  replace H : (if t269 = t272 then (if t270 = t273 then (if (t271 == t274) = true then ((ballot_Newer.f a0 a1 a2 a3).bind fun t275 => ((conduitref20_Newer.f a0 a1 a2 a3).bind fun t276 => (if (t275 == t276) = true then ((ballot_Timeout.f a5).bind fun t277 => ((conduitref20_Timeout.f a5).bind fun t278 => (if t277 = t278 then ((ballot_Majority.f (Go.bits .and .i64 a5 15) (Go.bits .and .i64 a1 15)).bind fun t279 => ((conduitref20_Majority.f (Go.bits .and .i64 a5 15) (Go.bits .and .i64 a1 15)).bind fun t280 => (if (t279 == t280) = true then ((conduitlaw20_awake.f).bind fun t281 => (some t281)) else (some false)))) else (some false)))) else (some false)))) else (some false)) else (some false)) else (some false)) = some r := H
  have A8 := Aside0.mk A80
  clear A80
  by_cases c9 : t269 = t272
  · rw [if_pos c9] at H
    have c9b0 : (t269 == t272) = true := beq_iff_eq.mpr c9
    have c9b1 : (t269 != t272) = false := bne_eq_false_iff_eq.mpr c9
    clear c9
    by_cases c10 : t270 = t273
    · rw [if_pos c10] at H
      have c10b0 : (t270 == t273) = true := beq_iff_eq.mpr c10
      have c10b1 : (t270 != t273) = false := bne_eq_false_iff_eq.mpr c10
      clear c10
      by_cases c11 : (t271 == t274) = true
      · rw [if_pos c11] at H
        have c11b0 : (t271 == t274) = true := c11
        (try (have c11b1 : decide (t271 = t274) = true := by simpa using c11))
        (try (have c11b2 : (t271 == t274) = true := by simpa using c11))
        clear c11
        replace H := Option.bind_eq_some_iff.mp H
        obtain ⟨t275, A120, H⟩ := H
        replace H : ((conduitref20_Newer.f a0 a1 a2 a3).bind fun t276 => (if (t275 == t276) = true then ((ballot_Timeout.f a5).bind fun t277 => ((conduitref20_Timeout.f a5).bind fun t278 => (if t277 = t278 then ((ballot_Majority.f (Go.bits .and .i64 a5 15) (Go.bits .and .i64 a1 15)).bind fun t279 => ((conduitref20_Majority.f (Go.bits .and .i64 a5 15) (Go.bits .and .i64 a1 15)).bind fun t280 => (if (t279 == t280) = true then ((conduitlaw20_awake.f).bind fun t281 => (some t281)) else (some false)))) else (some false)))) else (some false))) = some r := H
        have A12 := Aside0.mk A120
        clear A120
        replace H := Option.bind_eq_some_iff.mp H
        obtain ⟨t276, A130, H⟩ := H
        replace H : (if (t275 == t276) = true then ((ballot_Timeout.f a5).bind fun t277 => ((conduitref20_Timeout.f a5).bind fun t278 => (if t277 = t278 then ((ballot_Majority.f (Go.bits .and .i64 a5 15) (Go.bits .and .i64 a1 15)).bind fun t279 => ((conduitref20_Majority.f (Go.bits .and .i64 a5 15) (Go.bits .and .i64 a1 15)).bind fun t280 => (if (t279 == t280) = true then ((conduitlaw20_awake.f).bind fun t281 => (some t281)) else (some false)))) else (some false)))) else (some false)) = some r := H
        have A13 := Aside0.mk A130
        clear A130
        by_cases c14 : (t275 == t276) = true
        · rw [if_pos c14] at H
          have c14b0 : (t275 == t276) = true := c14
          (try (have c14b1 : decide (t275 = t276) = true := by simpa using c14))
          (try (have c14b2 : (t275 == t276) = true := by simpa using c14))
          clear c14
          replace H := Option.bind_eq_some_iff.mp H
          obtain ⟨t277, A150, H⟩ := H
          replace H : ((conduitref20_Timeout.f a5).bind fun t278 => (if t277 = t278 then ((ballot_Majority.f (Go.bits .and .i64 a5 15) (Go.bits .and .i64 a1 15)).bind fun t279 => ((conduitref20_Majority.f (Go.bits .and .i64 a5 15) (Go.bits .and .i64 a1 15)).bind fun t280 => (if (t279 == t280) = true then ((conduitlaw20_awake.f).bind fun t281 => (some t281)) else (some false)))) else (some false))) = some r := H
          have A15 := Aside0.mk A150
          clear A150
          replace H := Option.bind_eq_some_iff.mp H
          obtain ⟨t278, A160, H⟩ := H
          replace H : (if t277 = t278 then ((ballot_Majority.f (Go.bits .and .i64 a5 15) (Go.bits .and .i64 a1 15)).bind fun t279 => ((conduitref20_Majority.f (Go.bits .and .i64 a5 15) (Go.bits .and .i64 a1 15)).bind fun t280 => (if (t279 == t280) = true then ((conduitlaw20_awake.f).bind fun t281 => (some t281)) else (some false)))) else (some false)) = some r := H
          have A16 := Aside0.mk A160
          clear A160
          by_cases c17 : t277 = t278
          · rw [if_pos c17] at H
            have c17b0 : (t277 == t278) = true := beq_iff_eq.mpr c17
            have c17b1 : (t277 != t278) = false := bne_eq_false_iff_eq.mpr c17
            clear c17
            replace H := Option.bind_eq_some_iff.mp H
            obtain ⟨t279, A180, H⟩ := H
            replace H : ((conduitref20_Majority.f (Go.bits .and .i64 a5 15) (Go.bits .and .i64 a1 15)).bind fun t280 => (if (t279 == t280) = true then ((conduitlaw20_awake.f).bind fun t281 => (some t281)) else (some false))) = some r := H
            have A18 := Aside0.mk A180
            clear A180
            replace H := Option.bind_eq_some_iff.mp H
            obtain ⟨t280, A190, H⟩ := H
            replace H : (if (t279 == t280) = true then ((conduitlaw20_awake.f).bind fun t281 => (some t281)) else (some false)) = some r := H
            have A19 := Aside0.mk A190
            clear A190
            by_cases c20 : (t279 == t280) = true
            · rw [if_pos c20] at H
              have c20b0 : (t279 == t280) = true := c20
              (try (have c20b1 : decide (t279 = t280) = true := by simpa using c20))
              (try (have c20b2 : (t279 == t280) = true := by simpa using c20))
              clear c20
              replace H := Option.bind_eq_some_iff.mp H
              obtain ⟨t281, A210, H⟩ := H
              replace H : (some t281) = some r := H
              have A21 := Aside0.mk A210
              clear A210
              obtain rfl := Option.some.inj H
              go_enter Try.func10, Try.ntmps10
              go_wp2_with (first | ((with_reducible refine gate_dst (N := 10) rfl ?_); refine box_event ?hg (N := 10) ?hd (cs := #[.string a4_0, .int .u8 a4_1, .int .i64 a4_2, .int .i64 a4_3, .int .i64 a4_4, .int .i64 a4_5, .int .i64 a4_6, .int .i64 a4_7, .int .i64 a4_8, .bool a4_9, .slice A4_10 l4_10.length c4_10, .slice A4_11 l4_11.length c4_11]) (t := 28) ?hr ?_; (case hd => rfl); (case hg => rfl); (case hr => first | (go_simp; done) | (go_simp; rfl)); intro gb268 hg w22 hbox hb; have n0_ := Aside0.mk (below_step (by repeat (first | (with_reducible first | exact HB.out | apply below_alloc | apply pw_below_drewN | apply below_drew1) | exact HB.out)) hb); have n1_ := Aside0.mk (hbox); have n2_ := Aside0.mk ((by rw [hg]; exact (below_size (by repeat (first | (with_reducible first | exact HB.out | apply below_alloc | apply pw_below_drewN | apply below_drew1) | exact HB.out))) : w.heap.size ≤ gb268)); have n3_ := Aside0.mk ((by rw [hg]; exact (below_size (by repeat (first | (with_reducible first | exact HB.out | apply below_alloc | apply pw_below_drewN | apply below_drew1) | exact HB.out))) : w.heap.size ≤ gb268)); clear HB; have HB := n0_; have BK268 := n1_; have GW268 := n2_; have GE268 := n3_; clear n0_ n1_ n2_ n3_; clear hb hbox hg; have hcz23_0 : w22.cell? ⟨gb268, 0, none⟩ = some (.string a4_0) := (blk_cell BK268.out 0).trans rfl; have hcz23_1 : w22.cell? ⟨gb268, 1, none⟩ = some (.int .u8 a4_1) := (blk_cell BK268.out 1).trans rfl; have hcz23_2 : w22.cell? ⟨gb268, 2, none⟩ = some (.int .i64 a4_2) := (blk_cell BK268.out 2).trans rfl; have hcz23_3 : w22.cell? ⟨gb268, 3, none⟩ = some (.int .i64 a4_3) := (blk_cell BK268.out 3).trans rfl; have hcz23_4 : w22.cell? ⟨gb268, 4, none⟩ = some (.int .i64 a4_4) := (blk_cell BK268.out 4).trans rfl; have hcz23_5 : w22.cell? ⟨gb268, 5, none⟩ = some (.int .i64 a4_5) := (blk_cell BK268.out 5).trans rfl; have hcz23_6 : w22.cell? ⟨gb268, 6, none⟩ = some (.int .i64 a4_6) := (blk_cell BK268.out 6).trans rfl; have hcz23_7 : w22.cell? ⟨gb268, 7, none⟩ = some (.int .i64 a4_7) := (blk_cell BK268.out 7).trans rfl; have hcz23_8 : w22.cell? ⟨gb268, 8, none⟩ = some (.int .i64 a4_8) := (blk_cell BK268.out 8).trans rfl; have hcz23_9 : w22.cell? ⟨gb268, 9, none⟩ = some (.bool a4_9) := (blk_cell BK268.out 9).trans rfl; have hcz23_10 : w22.cell? ⟨gb268, 10, none⟩ = some (.slice A4_10 l4_10.length c4_10) := (blk_cell BK268.out 10).trans rfl; have hcz23_11 : w22.cell? ⟨gb268, 11, none⟩ = some (.slice A4_11 l4_11.length c4_11) := (blk_cell BK268.out 11).trans rfl; have hfz23_0 := blk_frozen BK268.out 0; have hfz23_1 := blk_frozen BK268.out 1; have hfz23_2 := blk_frozen BK268.out 2; have hfz23_3 := blk_frozen BK268.out 3; have hfz23_4 := blk_frozen BK268.out 4; have hfz23_5 := blk_frozen BK268.out 5; have hfz23_6 := blk_frozen BK268.out 6; have hfz23_7 := blk_frozen BK268.out 7; have hfz23_8 := blk_frozen BK268.out 8; have hfz23_9 := blk_frozen BK268.out 9; have hfz23_10 := blk_frozen BK268.out 10; have hfz23_11 := blk_frozen BK268.out 11) | ((with_reducible refine gate_callee (f := 12) rfl ?_); refine goesL_ (some 27) rfl rfl Try.func12 (by kernel_rfl) rfl #[.int .i64 a0, .int .i64 a1, .int .i64 a2, .int .i64 a3, .agg #[.string a4_0, .int .u8 a4_1, .int .i64 a4_2, .int .i64 a4_3, .int .i64 a4_4, .int .i64 a4_5, .int .i64 a4_6, .int .i64 a4_7, .int .i64 a4_8, .bool a4_9, .slice A4_10 l4_10.length c4_10, .slice A4_11 l4_11.length c4_11]] rfl (by (try simp only [List.map_toArray, List.map_cons, List.map_nil]); first | done | rfl | (simp only [List.length_drop, List.length_take]; rfl)) ?_; (with_reducible refine (ballot_Vote.calls a0 a1 a2 a3 a4_0 a4_1 a4_2 a4_3 a4_4 a4_5 a4_6 a4_7 a4_8 a4_9 _ _ l4_10 _ _ l4_11 t269 t270 t271 _ ?side1 ?side2 ?side3 ?side4 A7.out).mono ?_); (case side1 => repeat (first | exact (Kd.C_below HR4_10.out HB.out) | (with_reducible refine Kd.C_alloc ?_ _) | (with_reducible refine Kd.C_drewN ?_ _) | (with_reducible refine Kd.C_drew ?_))); (case side2 => exact HC4_10.out); (case side3 => repeat (first | exact (Kd.C_below HR4_11.out HB.out) | (with_reducible refine Kd.C_alloc ?_ _) | (with_reducible refine Kd.C_drewN ?_ _) | (with_reducible refine Kd.C_drew ?_))); (case side4 => exact HC4_11.out); rintro e w24 ⟨rfl, hb⟩; refine ⟨_, rfl, ?_⟩; have n0_ := Aside0.mk (blk_below (g := gb268) (o := .cells #[.string a4_0, .int .u8 a4_1, .int .i64 a4_2, .int .i64 a4_3, .int .i64 a4_4, .int .i64 a4_5, .int .i64 a4_6, .int .i64 a4_7, .int .i64 a4_8, .bool a4_9, .slice A4_10 l4_10.length c4_10, .slice A4_11 l4_11.length c4_11] 28 (0, 0)) (by (with_reducible repeat (first | refine blk_drewN ?_ _ | refine blk_drew ?_ | refine blk_alloc ?_ _)); exact BK268.out) hb); have n1_ := Aside0.mk (below_step (by repeat (first | (with_reducible first | exact HB.out | apply below_alloc | apply pw_below_drewN | apply below_drew1 | refine below_set ?_ GE268.out) | exact HB.out)) hb); clear BK268; clear HB; have BK268 := n0_; have HB := n1_; clear n0_ n1_; (try clear hb); (try clear hb2); (try clear hk); (try clear hi); have hcz25_0 : w24.cell? ⟨gb268, 0, none⟩ = some (.string a4_0) := (blk_cell BK268.out 0).trans rfl; have hcz25_1 : w24.cell? ⟨gb268, 1, none⟩ = some (.int .u8 a4_1) := (blk_cell BK268.out 1).trans rfl; have hcz25_2 : w24.cell? ⟨gb268, 2, none⟩ = some (.int .i64 a4_2) := (blk_cell BK268.out 2).trans rfl; have hcz25_3 : w24.cell? ⟨gb268, 3, none⟩ = some (.int .i64 a4_3) := (blk_cell BK268.out 3).trans rfl; have hcz25_4 : w24.cell? ⟨gb268, 4, none⟩ = some (.int .i64 a4_4) := (blk_cell BK268.out 4).trans rfl; have hcz25_5 : w24.cell? ⟨gb268, 5, none⟩ = some (.int .i64 a4_5) := (blk_cell BK268.out 5).trans rfl; have hcz25_6 : w24.cell? ⟨gb268, 6, none⟩ = some (.int .i64 a4_6) := (blk_cell BK268.out 6).trans rfl; have hcz25_7 : w24.cell? ⟨gb268, 7, none⟩ = some (.int .i64 a4_7) := (blk_cell BK268.out 7).trans rfl; have hcz25_8 : w24.cell? ⟨gb268, 8, none⟩ = some (.int .i64 a4_8) := (blk_cell BK268.out 8).trans rfl; have hcz25_9 : w24.cell? ⟨gb268, 9, none⟩ = some (.bool a4_9) := (blk_cell BK268.out 9).trans rfl; have hcz25_10 : w24.cell? ⟨gb268, 10, none⟩ = some (.slice A4_10 l4_10.length c4_10) := (blk_cell BK268.out 10).trans rfl; have hcz25_11 : w24.cell? ⟨gb268, 11, none⟩ = some (.slice A4_11 l4_11.length c4_11) := (blk_cell BK268.out 11).trans rfl; have hfz25_0 := blk_frozen BK268.out 0; have hfz25_1 := blk_frozen BK268.out 1; have hfz25_2 := blk_frozen BK268.out 2; have hfz25_3 := blk_frozen BK268.out 3; have hfz25_4 := blk_frozen BK268.out 4; have hfz25_5 := blk_frozen BK268.out 5; have hfz25_6 := blk_frozen BK268.out 6; have hfz25_7 := blk_frozen BK268.out 7; have hfz25_8 := blk_frozen BK268.out 8; have hfz25_9 := blk_frozen BK268.out 9; have hfz25_10 := blk_frozen BK268.out 10; have hfz25_11 := blk_frozen BK268.out 11) | ((with_reducible refine gate_callee (f := 28) rfl ?_); refine goesL_ (some 37) rfl rfl Try.func28 (by kernel_rfl) rfl #[.int .i64 a0, .int .i64 a1, .int .i64 a2, .int .i64 a3, .agg #[.string a4_0, .int .u8 a4_1, .int .i64 a4_2, .int .i64 a4_3, .int .i64 a4_4, .int .i64 a4_5, .int .i64 a4_6, .int .i64 a4_7, .int .i64 a4_8, .bool a4_9, .slice A4_10 l4_10.length c4_10, .slice A4_11 l4_11.length c4_11]] rfl (by (try simp only [List.map_toArray, List.map_cons, List.map_nil]); first | done | rfl | (simp only [List.length_drop, List.length_take]; rfl)) ?_; (with_reducible refine (conduitref20_Vote.calls k a0 a1 a2 a3 a4_0 a4_1 a4_2 a4_3 a4_4 a4_5 a4_6 a4_7 a4_8 a4_9 _ _ l4_10 _ _ l4_11 t272 t273 t274 _ ?side1 ?side2 ?side3 ?side4 A8.out).mono ?_); (case side1 => repeat (first | exact (Kd.C_below HR4_10.out HB.out) | (with_reducible refine Kd.C_alloc ?_ _) | (with_reducible refine Kd.C_drewN ?_ _) | (with_reducible refine Kd.C_drew ?_))); (case side2 => exact HC4_10.out); (case side3 => repeat (first | exact (Kd.C_below HR4_11.out HB.out) | (with_reducible refine Kd.C_alloc ?_ _) | (with_reducible refine Kd.C_drewN ?_ _) | (with_reducible refine Kd.C_drew ?_))); (case side4 => exact HC4_11.out); rintro e w26 ⟨rfl, hb⟩; refine ⟨_, rfl, ?_⟩; have n0_ := Aside0.mk (blk_below (g := gb268) (o := .cells #[.string a4_0, .int .u8 a4_1, .int .i64 a4_2, .int .i64 a4_3, .int .i64 a4_4, .int .i64 a4_5, .int .i64 a4_6, .int .i64 a4_7, .int .i64 a4_8, .bool a4_9, .slice A4_10 l4_10.length c4_10, .slice A4_11 l4_11.length c4_11] 28 (0, 0)) (by (with_reducible repeat (first | refine blk_drewN ?_ _ | refine blk_drew ?_ | refine blk_alloc ?_ _)); exact BK268.out) hb); have n1_ := Aside0.mk (below_step (by repeat (first | (with_reducible first | exact HB.out | apply below_alloc | apply pw_below_drewN | apply below_drew1 | refine below_set ?_ GE268.out) | exact HB.out)) hb); clear BK268; clear HB; have BK268 := n0_; have HB := n1_; clear n0_ n1_; (try clear hb); (try clear hb2); (try clear hk); (try clear hi)) | (go_at_call 24; (with_reducible refine (ballot_Newer.calls a0 a1 a2 a3 t275 _ A12.out).mono ?_); rintro e w' ⟨rfl, ⟨nd, rfl⟩⟩) | (go_at_call 29; (with_reducible refine (conduitref20_Newer.calls a0 a1 a2 a3 t276 _ A13.out).mono ?_); rintro e w' ⟨rfl, ⟨nd, rfl⟩⟩) | (go_at_call 27; (with_reducible refine (ballot_Timeout.calls a5 t277 _ A15.out).mono ?_); rintro e w' ⟨rfl, ⟨nd, rfl⟩⟩) | (go_at_call 30; (with_reducible refine (conduitref20_Timeout.calls a5 t278 _ A16.out).mono ?_); rintro e w' ⟨rfl, ⟨nd, rfl⟩⟩) | (go_at_call 25; (with_reducible refine (ballot_Majority.calls (Go.bits .and .i64 a5 15) (Go.bits .and .i64 a1 15) t279 _ A18.out).mono ?_); rintro e w' ⟨rfl, ⟨nd, rfl⟩⟩) | (go_at_call 31; (with_reducible refine (conduitref20_Majority.calls (Go.bits .and .i64 a5 15) (Go.bits .and .i64 a1 15) t280 _ A19.out).mono ?_); rintro e w' ⟨rfl, ⟨nd, rfl⟩⟩) | (go_at_call 13; (with_reducible refine (conduitlaw20_awake.calls  t281 _ A21.out).mono ?_); rintro e w27 ⟨rfl, hb⟩; have n0_ := Aside0.mk (blk_below (g := gb268) (o := .cells #[.string a4_0, .int .u8 a4_1, .int .i64 a4_2, .int .i64 a4_3, .int .i64 a4_4, .int .i64 a4_5, .int .i64 a4_6, .int .i64 a4_7, .int .i64 a4_8, .bool a4_9, .slice A4_10 l4_10.length c4_10, .slice A4_11 l4_11.length c4_11] 28 (0, 0)) (by (with_reducible repeat (first | refine blk_drewN ?_ _ | refine blk_drew ?_ | refine blk_alloc ?_ _)); exact BK268.out) hb); have n1_ := Aside0.mk (below_step (by repeat (first | (with_reducible first | exact HB.out | apply below_alloc | apply pw_below_drewN | apply below_drew1 | refine below_set ?_ GE268.out) | exact HB.out)) hb); clear BK268; clear HB; have BK268 := n0_; have HB := n1_; clear n0_ n1_; (try clear hb); (try clear hb2); (try clear hk); (try clear hi)))
              go_ret
              exact ⟨by first | rfl | (simp [errW_none, errW_some] <;> rfl) | (simp [*, errW_none, errW_some] <;> rfl), by repeat (first | (with_reducible first | exact HB.out | apply below_alloc | apply pw_below_drewN | apply below_drew1 | refine below_set ?_ GE268.out) | exact HB.out)⟩
            · rw [if_neg c20] at H
              have c20b0 : (t279 == t280) = false := by simpa using c20
              (try (have c20b1 : decide (t279 = t280) = false := by simpa using c20))
              (try (have c20b2 : (t279 == t280) = false := by simpa using c20))
              (try (have c20b3 : ¬ (t279 = t280) := by simpa using c20))
              clear c20
              obtain rfl := Option.some.inj H
              go_enter Try.func10, Try.ntmps10
              go_wp2_with (first | ((with_reducible refine gate_dst (N := 10) rfl ?_); refine box_event ?hg (N := 10) ?hd (cs := #[.string a4_0, .int .u8 a4_1, .int .i64 a4_2, .int .i64 a4_3, .int .i64 a4_4, .int .i64 a4_5, .int .i64 a4_6, .int .i64 a4_7, .int .i64 a4_8, .bool a4_9, .slice A4_10 l4_10.length c4_10, .slice A4_11 l4_11.length c4_11]) (t := 28) ?hr ?_; (case hd => rfl); (case hg => rfl); (case hr => first | (go_simp; done) | (go_simp; rfl)); intro gb268 hg w28 hbox hb; have n0_ := Aside0.mk (below_step (by repeat (first | (with_reducible first | exact HB.out | apply below_alloc | apply pw_below_drewN | apply below_drew1) | exact HB.out)) hb); have n1_ := Aside0.mk (hbox); have n2_ := Aside0.mk ((by rw [hg]; exact (below_size (by repeat (first | (with_reducible first | exact HB.out | apply below_alloc | apply pw_below_drewN | apply below_drew1) | exact HB.out))) : w.heap.size ≤ gb268)); have n3_ := Aside0.mk ((by rw [hg]; exact (below_size (by repeat (first | (with_reducible first | exact HB.out | apply below_alloc | apply pw_below_drewN | apply below_drew1) | exact HB.out))) : w.heap.size ≤ gb268)); clear HB; have HB := n0_; have BK268 := n1_; have GW268 := n2_; have GE268 := n3_; clear n0_ n1_ n2_ n3_; clear hb hbox hg; have hcz29_0 : w28.cell? ⟨gb268, 0, none⟩ = some (.string a4_0) := (blk_cell BK268.out 0).trans rfl; have hcz29_1 : w28.cell? ⟨gb268, 1, none⟩ = some (.int .u8 a4_1) := (blk_cell BK268.out 1).trans rfl; have hcz29_2 : w28.cell? ⟨gb268, 2, none⟩ = some (.int .i64 a4_2) := (blk_cell BK268.out 2).trans rfl; have hcz29_3 : w28.cell? ⟨gb268, 3, none⟩ = some (.int .i64 a4_3) := (blk_cell BK268.out 3).trans rfl; have hcz29_4 : w28.cell? ⟨gb268, 4, none⟩ = some (.int .i64 a4_4) := (blk_cell BK268.out 4).trans rfl; have hcz29_5 : w28.cell? ⟨gb268, 5, none⟩ = some (.int .i64 a4_5) := (blk_cell BK268.out 5).trans rfl; have hcz29_6 : w28.cell? ⟨gb268, 6, none⟩ = some (.int .i64 a4_6) := (blk_cell BK268.out 6).trans rfl; have hcz29_7 : w28.cell? ⟨gb268, 7, none⟩ = some (.int .i64 a4_7) := (blk_cell BK268.out 7).trans rfl; have hcz29_8 : w28.cell? ⟨gb268, 8, none⟩ = some (.int .i64 a4_8) := (blk_cell BK268.out 8).trans rfl; have hcz29_9 : w28.cell? ⟨gb268, 9, none⟩ = some (.bool a4_9) := (blk_cell BK268.out 9).trans rfl; have hcz29_10 : w28.cell? ⟨gb268, 10, none⟩ = some (.slice A4_10 l4_10.length c4_10) := (blk_cell BK268.out 10).trans rfl; have hcz29_11 : w28.cell? ⟨gb268, 11, none⟩ = some (.slice A4_11 l4_11.length c4_11) := (blk_cell BK268.out 11).trans rfl; have hfz29_0 := blk_frozen BK268.out 0; have hfz29_1 := blk_frozen BK268.out 1; have hfz29_2 := blk_frozen BK268.out 2; have hfz29_3 := blk_frozen BK268.out 3; have hfz29_4 := blk_frozen BK268.out 4; have hfz29_5 := blk_frozen BK268.out 5; have hfz29_6 := blk_frozen BK268.out 6; have hfz29_7 := blk_frozen BK268.out 7; have hfz29_8 := blk_frozen BK268.out 8; have hfz29_9 := blk_frozen BK268.out 9; have hfz29_10 := blk_frozen BK268.out 10; have hfz29_11 := blk_frozen BK268.out 11) | ((with_reducible refine gate_callee (f := 12) rfl ?_); refine goesL_ (some 27) rfl rfl Try.func12 (by kernel_rfl) rfl #[.int .i64 a0, .int .i64 a1, .int .i64 a2, .int .i64 a3, .agg #[.string a4_0, .int .u8 a4_1, .int .i64 a4_2, .int .i64 a4_3, .int .i64 a4_4, .int .i64 a4_5, .int .i64 a4_6, .int .i64 a4_7, .int .i64 a4_8, .bool a4_9, .slice A4_10 l4_10.length c4_10, .slice A4_11 l4_11.length c4_11]] rfl (by (try simp only [List.map_toArray, List.map_cons, List.map_nil]); first | done | rfl | (simp only [List.length_drop, List.length_take]; rfl)) ?_; (with_reducible refine (ballot_Vote.calls a0 a1 a2 a3 a4_0 a4_1 a4_2 a4_3 a4_4 a4_5 a4_6 a4_7 a4_8 a4_9 _ _ l4_10 _ _ l4_11 t269 t270 t271 _ ?side1 ?side2 ?side3 ?side4 A7.out).mono ?_); (case side1 => repeat (first | exact (Kd.C_below HR4_10.out HB.out) | (with_reducible refine Kd.C_alloc ?_ _) | (with_reducible refine Kd.C_drewN ?_ _) | (with_reducible refine Kd.C_drew ?_))); (case side2 => exact HC4_10.out); (case side3 => repeat (first | exact (Kd.C_below HR4_11.out HB.out) | (with_reducible refine Kd.C_alloc ?_ _) | (with_reducible refine Kd.C_drewN ?_ _) | (with_reducible refine Kd.C_drew ?_))); (case side4 => exact HC4_11.out); rintro e w30 ⟨rfl, hb⟩; refine ⟨_, rfl, ?_⟩; have n0_ := Aside0.mk (blk_below (g := gb268) (o := .cells #[.string a4_0, .int .u8 a4_1, .int .i64 a4_2, .int .i64 a4_3, .int .i64 a4_4, .int .i64 a4_5, .int .i64 a4_6, .int .i64 a4_7, .int .i64 a4_8, .bool a4_9, .slice A4_10 l4_10.length c4_10, .slice A4_11 l4_11.length c4_11] 28 (0, 0)) (by (with_reducible repeat (first | refine blk_drewN ?_ _ | refine blk_drew ?_ | refine blk_alloc ?_ _)); exact BK268.out) hb); have n1_ := Aside0.mk (below_step (by repeat (first | (with_reducible first | exact HB.out | apply below_alloc | apply pw_below_drewN | apply below_drew1 | refine below_set ?_ GE268.out) | exact HB.out)) hb); clear BK268; clear HB; have BK268 := n0_; have HB := n1_; clear n0_ n1_; (try clear hb); (try clear hb2); (try clear hk); (try clear hi); have hcz31_0 : w30.cell? ⟨gb268, 0, none⟩ = some (.string a4_0) := (blk_cell BK268.out 0).trans rfl; have hcz31_1 : w30.cell? ⟨gb268, 1, none⟩ = some (.int .u8 a4_1) := (blk_cell BK268.out 1).trans rfl; have hcz31_2 : w30.cell? ⟨gb268, 2, none⟩ = some (.int .i64 a4_2) := (blk_cell BK268.out 2).trans rfl; have hcz31_3 : w30.cell? ⟨gb268, 3, none⟩ = some (.int .i64 a4_3) := (blk_cell BK268.out 3).trans rfl; have hcz31_4 : w30.cell? ⟨gb268, 4, none⟩ = some (.int .i64 a4_4) := (blk_cell BK268.out 4).trans rfl; have hcz31_5 : w30.cell? ⟨gb268, 5, none⟩ = some (.int .i64 a4_5) := (blk_cell BK268.out 5).trans rfl; have hcz31_6 : w30.cell? ⟨gb268, 6, none⟩ = some (.int .i64 a4_6) := (blk_cell BK268.out 6).trans rfl; have hcz31_7 : w30.cell? ⟨gb268, 7, none⟩ = some (.int .i64 a4_7) := (blk_cell BK268.out 7).trans rfl; have hcz31_8 : w30.cell? ⟨gb268, 8, none⟩ = some (.int .i64 a4_8) := (blk_cell BK268.out 8).trans rfl; have hcz31_9 : w30.cell? ⟨gb268, 9, none⟩ = some (.bool a4_9) := (blk_cell BK268.out 9).trans rfl; have hcz31_10 : w30.cell? ⟨gb268, 10, none⟩ = some (.slice A4_10 l4_10.length c4_10) := (blk_cell BK268.out 10).trans rfl; have hcz31_11 : w30.cell? ⟨gb268, 11, none⟩ = some (.slice A4_11 l4_11.length c4_11) := (blk_cell BK268.out 11).trans rfl; have hfz31_0 := blk_frozen BK268.out 0; have hfz31_1 := blk_frozen BK268.out 1; have hfz31_2 := blk_frozen BK268.out 2; have hfz31_3 := blk_frozen BK268.out 3; have hfz31_4 := blk_frozen BK268.out 4; have hfz31_5 := blk_frozen BK268.out 5; have hfz31_6 := blk_frozen BK268.out 6; have hfz31_7 := blk_frozen BK268.out 7; have hfz31_8 := blk_frozen BK268.out 8; have hfz31_9 := blk_frozen BK268.out 9; have hfz31_10 := blk_frozen BK268.out 10; have hfz31_11 := blk_frozen BK268.out 11) | ((with_reducible refine gate_callee (f := 28) rfl ?_); refine goesL_ (some 37) rfl rfl Try.func28 (by kernel_rfl) rfl #[.int .i64 a0, .int .i64 a1, .int .i64 a2, .int .i64 a3, .agg #[.string a4_0, .int .u8 a4_1, .int .i64 a4_2, .int .i64 a4_3, .int .i64 a4_4, .int .i64 a4_5, .int .i64 a4_6, .int .i64 a4_7, .int .i64 a4_8, .bool a4_9, .slice A4_10 l4_10.length c4_10, .slice A4_11 l4_11.length c4_11]] rfl (by (try simp only [List.map_toArray, List.map_cons, List.map_nil]); first | done | rfl | (simp only [List.length_drop, List.length_take]; rfl)) ?_; (with_reducible refine (conduitref20_Vote.calls k a0 a1 a2 a3 a4_0 a4_1 a4_2 a4_3 a4_4 a4_5 a4_6 a4_7 a4_8 a4_9 _ _ l4_10 _ _ l4_11 t272 t273 t274 _ ?side1 ?side2 ?side3 ?side4 A8.out).mono ?_); (case side1 => repeat (first | exact (Kd.C_below HR4_10.out HB.out) | (with_reducible refine Kd.C_alloc ?_ _) | (with_reducible refine Kd.C_drewN ?_ _) | (with_reducible refine Kd.C_drew ?_))); (case side2 => exact HC4_10.out); (case side3 => repeat (first | exact (Kd.C_below HR4_11.out HB.out) | (with_reducible refine Kd.C_alloc ?_ _) | (with_reducible refine Kd.C_drewN ?_ _) | (with_reducible refine Kd.C_drew ?_))); (case side4 => exact HC4_11.out); rintro e w32 ⟨rfl, hb⟩; refine ⟨_, rfl, ?_⟩; have n0_ := Aside0.mk (blk_below (g := gb268) (o := .cells #[.string a4_0, .int .u8 a4_1, .int .i64 a4_2, .int .i64 a4_3, .int .i64 a4_4, .int .i64 a4_5, .int .i64 a4_6, .int .i64 a4_7, .int .i64 a4_8, .bool a4_9, .slice A4_10 l4_10.length c4_10, .slice A4_11 l4_11.length c4_11] 28 (0, 0)) (by (with_reducible repeat (first | refine blk_drewN ?_ _ | refine blk_drew ?_ | refine blk_alloc ?_ _)); exact BK268.out) hb); have n1_ := Aside0.mk (below_step (by repeat (first | (with_reducible first | exact HB.out | apply below_alloc | apply pw_below_drewN | apply below_drew1 | refine below_set ?_ GE268.out) | exact HB.out)) hb); clear BK268; clear HB; have BK268 := n0_; have HB := n1_; clear n0_ n1_; (try clear hb); (try clear hb2); (try clear hk); (try clear hi)) | (go_at_call 24; (with_reducible refine (ballot_Newer.calls a0 a1 a2 a3 t275 _ A12.out).mono ?_); rintro e w' ⟨rfl, ⟨nd, rfl⟩⟩) | (go_at_call 29; (with_reducible refine (conduitref20_Newer.calls a0 a1 a2 a3 t276 _ A13.out).mono ?_); rintro e w' ⟨rfl, ⟨nd, rfl⟩⟩) | (go_at_call 27; (with_reducible refine (ballot_Timeout.calls a5 t277 _ A15.out).mono ?_); rintro e w' ⟨rfl, ⟨nd, rfl⟩⟩) | (go_at_call 30; (with_reducible refine (conduitref20_Timeout.calls a5 t278 _ A16.out).mono ?_); rintro e w' ⟨rfl, ⟨nd, rfl⟩⟩) | (go_at_call 25; (with_reducible refine (ballot_Majority.calls (Go.bits .and .i64 a5 15) (Go.bits .and .i64 a1 15) t279 _ A18.out).mono ?_); rintro e w' ⟨rfl, ⟨nd, rfl⟩⟩) | (go_at_call 31; (with_reducible refine (conduitref20_Majority.calls (Go.bits .and .i64 a5 15) (Go.bits .and .i64 a1 15) t280 _ A19.out).mono ?_); rintro e w' ⟨rfl, ⟨nd, rfl⟩⟩))
              go_ret
              exact ⟨by first | rfl | (simp [errW_none, errW_some] <;> rfl) | (simp [*, errW_none, errW_some] <;> rfl), by repeat (first | (with_reducible first | exact HB.out | apply below_alloc | apply pw_below_drewN | apply below_drew1 | refine below_set ?_ GE268.out) | exact HB.out)⟩
          · rw [if_neg c17] at H
            have c17b0 : (t277 == t278) = false := beq_eq_false_iff_ne.mpr c17
            have c17b1 : (t277 != t278) = true := bne_iff_ne.mpr c17
            obtain rfl := Option.some.inj H
            go_enter Try.func10, Try.ntmps10
            go_wp2_with (first | ((with_reducible refine gate_dst (N := 10) rfl ?_); refine box_event ?hg (N := 10) ?hd (cs := #[.string a4_0, .int .u8 a4_1, .int .i64 a4_2, .int .i64 a4_3, .int .i64 a4_4, .int .i64 a4_5, .int .i64 a4_6, .int .i64 a4_7, .int .i64 a4_8, .bool a4_9, .slice A4_10 l4_10.length c4_10, .slice A4_11 l4_11.length c4_11]) (t := 28) ?hr ?_; (case hd => rfl); (case hg => rfl); (case hr => first | (go_simp; done) | (go_simp; rfl)); intro gb268 hg w33 hbox hb; have n0_ := Aside0.mk (below_step (by repeat (first | (with_reducible first | exact HB.out | apply below_alloc | apply pw_below_drewN | apply below_drew1) | exact HB.out)) hb); have n1_ := Aside0.mk (hbox); have n2_ := Aside0.mk ((by rw [hg]; exact (below_size (by repeat (first | (with_reducible first | exact HB.out | apply below_alloc | apply pw_below_drewN | apply below_drew1) | exact HB.out))) : w.heap.size ≤ gb268)); have n3_ := Aside0.mk ((by rw [hg]; exact (below_size (by repeat (first | (with_reducible first | exact HB.out | apply below_alloc | apply pw_below_drewN | apply below_drew1) | exact HB.out))) : w.heap.size ≤ gb268)); clear HB; have HB := n0_; have BK268 := n1_; have GW268 := n2_; have GE268 := n3_; clear n0_ n1_ n2_ n3_; clear hb hbox hg; have hcz34_0 : w33.cell? ⟨gb268, 0, none⟩ = some (.string a4_0) := (blk_cell BK268.out 0).trans rfl; have hcz34_1 : w33.cell? ⟨gb268, 1, none⟩ = some (.int .u8 a4_1) := (blk_cell BK268.out 1).trans rfl; have hcz34_2 : w33.cell? ⟨gb268, 2, none⟩ = some (.int .i64 a4_2) := (blk_cell BK268.out 2).trans rfl; have hcz34_3 : w33.cell? ⟨gb268, 3, none⟩ = some (.int .i64 a4_3) := (blk_cell BK268.out 3).trans rfl; have hcz34_4 : w33.cell? ⟨gb268, 4, none⟩ = some (.int .i64 a4_4) := (blk_cell BK268.out 4).trans rfl; have hcz34_5 : w33.cell? ⟨gb268, 5, none⟩ = some (.int .i64 a4_5) := (blk_cell BK268.out 5).trans rfl; have hcz34_6 : w33.cell? ⟨gb268, 6, none⟩ = some (.int .i64 a4_6) := (blk_cell BK268.out 6).trans rfl; have hcz34_7 : w33.cell? ⟨gb268, 7, none⟩ = some (.int .i64 a4_7) := (blk_cell BK268.out 7).trans rfl; have hcz34_8 : w33.cell? ⟨gb268, 8, none⟩ = some (.int .i64 a4_8) := (blk_cell BK268.out 8).trans rfl; have hcz34_9 : w33.cell? ⟨gb268, 9, none⟩ = some (.bool a4_9) := (blk_cell BK268.out 9).trans rfl; have hcz34_10 : w33.cell? ⟨gb268, 10, none⟩ = some (.slice A4_10 l4_10.length c4_10) := (blk_cell BK268.out 10).trans rfl; have hcz34_11 : w33.cell? ⟨gb268, 11, none⟩ = some (.slice A4_11 l4_11.length c4_11) := (blk_cell BK268.out 11).trans rfl; have hfz34_0 := blk_frozen BK268.out 0; have hfz34_1 := blk_frozen BK268.out 1; have hfz34_2 := blk_frozen BK268.out 2; have hfz34_3 := blk_frozen BK268.out 3; have hfz34_4 := blk_frozen BK268.out 4; have hfz34_5 := blk_frozen BK268.out 5; have hfz34_6 := blk_frozen BK268.out 6; have hfz34_7 := blk_frozen BK268.out 7; have hfz34_8 := blk_frozen BK268.out 8; have hfz34_9 := blk_frozen BK268.out 9; have hfz34_10 := blk_frozen BK268.out 10; have hfz34_11 := blk_frozen BK268.out 11) | ((with_reducible refine gate_callee (f := 12) rfl ?_); refine goesL_ (some 27) rfl rfl Try.func12 (by kernel_rfl) rfl #[.int .i64 a0, .int .i64 a1, .int .i64 a2, .int .i64 a3, .agg #[.string a4_0, .int .u8 a4_1, .int .i64 a4_2, .int .i64 a4_3, .int .i64 a4_4, .int .i64 a4_5, .int .i64 a4_6, .int .i64 a4_7, .int .i64 a4_8, .bool a4_9, .slice A4_10 l4_10.length c4_10, .slice A4_11 l4_11.length c4_11]] rfl (by (try simp only [List.map_toArray, List.map_cons, List.map_nil]); first | done | rfl | (simp only [List.length_drop, List.length_take]; rfl)) ?_; (with_reducible refine (ballot_Vote.calls a0 a1 a2 a3 a4_0 a4_1 a4_2 a4_3 a4_4 a4_5 a4_6 a4_7 a4_8 a4_9 _ _ l4_10 _ _ l4_11 t269 t270 t271 _ ?side1 ?side2 ?side3 ?side4 A7.out).mono ?_); (case side1 => repeat (first | exact (Kd.C_below HR4_10.out HB.out) | (with_reducible refine Kd.C_alloc ?_ _) | (with_reducible refine Kd.C_drewN ?_ _) | (with_reducible refine Kd.C_drew ?_))); (case side2 => exact HC4_10.out); (case side3 => repeat (first | exact (Kd.C_below HR4_11.out HB.out) | (with_reducible refine Kd.C_alloc ?_ _) | (with_reducible refine Kd.C_drewN ?_ _) | (with_reducible refine Kd.C_drew ?_))); (case side4 => exact HC4_11.out); rintro e w35 ⟨rfl, hb⟩; refine ⟨_, rfl, ?_⟩; have n0_ := Aside0.mk (blk_below (g := gb268) (o := .cells #[.string a4_0, .int .u8 a4_1, .int .i64 a4_2, .int .i64 a4_3, .int .i64 a4_4, .int .i64 a4_5, .int .i64 a4_6, .int .i64 a4_7, .int .i64 a4_8, .bool a4_9, .slice A4_10 l4_10.length c4_10, .slice A4_11 l4_11.length c4_11] 28 (0, 0)) (by (with_reducible repeat (first | refine blk_drewN ?_ _ | refine blk_drew ?_ | refine blk_alloc ?_ _)); exact BK268.out) hb); have n1_ := Aside0.mk (below_step (by repeat (first | (with_reducible first | exact HB.out | apply below_alloc | apply pw_below_drewN | apply below_drew1 | refine below_set ?_ GE268.out) | exact HB.out)) hb); clear BK268; clear HB; have BK268 := n0_; have HB := n1_; clear n0_ n1_; (try clear hb); (try clear hb2); (try clear hk); (try clear hi); have hcz36_0 : w35.cell? ⟨gb268, 0, none⟩ = some (.string a4_0) := (blk_cell BK268.out 0).trans rfl; have hcz36_1 : w35.cell? ⟨gb268, 1, none⟩ = some (.int .u8 a4_1) := (blk_cell BK268.out 1).trans rfl; have hcz36_2 : w35.cell? ⟨gb268, 2, none⟩ = some (.int .i64 a4_2) := (blk_cell BK268.out 2).trans rfl; have hcz36_3 : w35.cell? ⟨gb268, 3, none⟩ = some (.int .i64 a4_3) := (blk_cell BK268.out 3).trans rfl; have hcz36_4 : w35.cell? ⟨gb268, 4, none⟩ = some (.int .i64 a4_4) := (blk_cell BK268.out 4).trans rfl; have hcz36_5 : w35.cell? ⟨gb268, 5, none⟩ = some (.int .i64 a4_5) := (blk_cell BK268.out 5).trans rfl; have hcz36_6 : w35.cell? ⟨gb268, 6, none⟩ = some (.int .i64 a4_6) := (blk_cell BK268.out 6).trans rfl; have hcz36_7 : w35.cell? ⟨gb268, 7, none⟩ = some (.int .i64 a4_7) := (blk_cell BK268.out 7).trans rfl; have hcz36_8 : w35.cell? ⟨gb268, 8, none⟩ = some (.int .i64 a4_8) := (blk_cell BK268.out 8).trans rfl; have hcz36_9 : w35.cell? ⟨gb268, 9, none⟩ = some (.bool a4_9) := (blk_cell BK268.out 9).trans rfl; have hcz36_10 : w35.cell? ⟨gb268, 10, none⟩ = some (.slice A4_10 l4_10.length c4_10) := (blk_cell BK268.out 10).trans rfl; have hcz36_11 : w35.cell? ⟨gb268, 11, none⟩ = some (.slice A4_11 l4_11.length c4_11) := (blk_cell BK268.out 11).trans rfl; have hfz36_0 := blk_frozen BK268.out 0; have hfz36_1 := blk_frozen BK268.out 1; have hfz36_2 := blk_frozen BK268.out 2; have hfz36_3 := blk_frozen BK268.out 3; have hfz36_4 := blk_frozen BK268.out 4; have hfz36_5 := blk_frozen BK268.out 5; have hfz36_6 := blk_frozen BK268.out 6; have hfz36_7 := blk_frozen BK268.out 7; have hfz36_8 := blk_frozen BK268.out 8; have hfz36_9 := blk_frozen BK268.out 9; have hfz36_10 := blk_frozen BK268.out 10; have hfz36_11 := blk_frozen BK268.out 11) | ((with_reducible refine gate_callee (f := 28) rfl ?_); refine goesL_ (some 37) rfl rfl Try.func28 (by kernel_rfl) rfl #[.int .i64 a0, .int .i64 a1, .int .i64 a2, .int .i64 a3, .agg #[.string a4_0, .int .u8 a4_1, .int .i64 a4_2, .int .i64 a4_3, .int .i64 a4_4, .int .i64 a4_5, .int .i64 a4_6, .int .i64 a4_7, .int .i64 a4_8, .bool a4_9, .slice A4_10 l4_10.length c4_10, .slice A4_11 l4_11.length c4_11]] rfl (by (try simp only [List.map_toArray, List.map_cons, List.map_nil]); first | done | rfl | (simp only [List.length_drop, List.length_take]; rfl)) ?_; (with_reducible refine (conduitref20_Vote.calls k a0 a1 a2 a3 a4_0 a4_1 a4_2 a4_3 a4_4 a4_5 a4_6 a4_7 a4_8 a4_9 _ _ l4_10 _ _ l4_11 t272 t273 t274 _ ?side1 ?side2 ?side3 ?side4 A8.out).mono ?_); (case side1 => repeat (first | exact (Kd.C_below HR4_10.out HB.out) | (with_reducible refine Kd.C_alloc ?_ _) | (with_reducible refine Kd.C_drewN ?_ _) | (with_reducible refine Kd.C_drew ?_))); (case side2 => exact HC4_10.out); (case side3 => repeat (first | exact (Kd.C_below HR4_11.out HB.out) | (with_reducible refine Kd.C_alloc ?_ _) | (with_reducible refine Kd.C_drewN ?_ _) | (with_reducible refine Kd.C_drew ?_))); (case side4 => exact HC4_11.out); rintro e w37 ⟨rfl, hb⟩; refine ⟨_, rfl, ?_⟩; have n0_ := Aside0.mk (blk_below (g := gb268) (o := .cells #[.string a4_0, .int .u8 a4_1, .int .i64 a4_2, .int .i64 a4_3, .int .i64 a4_4, .int .i64 a4_5, .int .i64 a4_6, .int .i64 a4_7, .int .i64 a4_8, .bool a4_9, .slice A4_10 l4_10.length c4_10, .slice A4_11 l4_11.length c4_11] 28 (0, 0)) (by (with_reducible repeat (first | refine blk_drewN ?_ _ | refine blk_drew ?_ | refine blk_alloc ?_ _)); exact BK268.out) hb); have n1_ := Aside0.mk (below_step (by repeat (first | (with_reducible first | exact HB.out | apply below_alloc | apply pw_below_drewN | apply below_drew1 | refine below_set ?_ GE268.out) | exact HB.out)) hb); clear BK268; clear HB; have BK268 := n0_; have HB := n1_; clear n0_ n1_; (try clear hb); (try clear hb2); (try clear hk); (try clear hi)) | (go_at_call 24; (with_reducible refine (ballot_Newer.calls a0 a1 a2 a3 t275 _ A12.out).mono ?_); rintro e w' ⟨rfl, ⟨nd, rfl⟩⟩) | (go_at_call 29; (with_reducible refine (conduitref20_Newer.calls a0 a1 a2 a3 t276 _ A13.out).mono ?_); rintro e w' ⟨rfl, ⟨nd, rfl⟩⟩) | (go_at_call 27; (with_reducible refine (ballot_Timeout.calls a5 t277 _ A15.out).mono ?_); rintro e w' ⟨rfl, ⟨nd, rfl⟩⟩) | (go_at_call 30; (with_reducible refine (conduitref20_Timeout.calls a5 t278 _ A16.out).mono ?_); rintro e w' ⟨rfl, ⟨nd, rfl⟩⟩))
            go_ret
            exact ⟨by first | rfl | (simp [errW_none, errW_some] <;> rfl) | (simp [*, errW_none, errW_some] <;> rfl), by repeat (first | (with_reducible first | exact HB.out | apply below_alloc | apply pw_below_drewN | apply below_drew1 | refine below_set ?_ GE268.out) | exact HB.out)⟩
        · rw [if_neg c14] at H
          have c14b0 : (t275 == t276) = false := by simpa using c14
          (try (have c14b1 : decide (t275 = t276) = false := by simpa using c14))
          (try (have c14b2 : (t275 == t276) = false := by simpa using c14))
          (try (have c14b3 : ¬ (t275 = t276) := by simpa using c14))
          clear c14
          obtain rfl := Option.some.inj H
          go_enter Try.func10, Try.ntmps10
          go_wp2_with (first | ((with_reducible refine gate_dst (N := 10) rfl ?_); refine box_event ?hg (N := 10) ?hd (cs := #[.string a4_0, .int .u8 a4_1, .int .i64 a4_2, .int .i64 a4_3, .int .i64 a4_4, .int .i64 a4_5, .int .i64 a4_6, .int .i64 a4_7, .int .i64 a4_8, .bool a4_9, .slice A4_10 l4_10.length c4_10, .slice A4_11 l4_11.length c4_11]) (t := 28) ?hr ?_; (case hd => rfl); (case hg => rfl); (case hr => first | (go_simp; done) | (go_simp; rfl)); intro gb268 hg w38 hbox hb; have n0_ := Aside0.mk (below_step (by repeat (first | (with_reducible first | exact HB.out | apply below_alloc | apply pw_below_drewN | apply below_drew1) | exact HB.out)) hb); have n1_ := Aside0.mk (hbox); have n2_ := Aside0.mk ((by rw [hg]; exact (below_size (by repeat (first | (with_reducible first | exact HB.out | apply below_alloc | apply pw_below_drewN | apply below_drew1) | exact HB.out))) : w.heap.size ≤ gb268)); have n3_ := Aside0.mk ((by rw [hg]; exact (below_size (by repeat (first | (with_reducible first | exact HB.out | apply below_alloc | apply pw_below_drewN | apply below_drew1) | exact HB.out))) : w.heap.size ≤ gb268)); clear HB; have HB := n0_; have BK268 := n1_; have GW268 := n2_; have GE268 := n3_; clear n0_ n1_ n2_ n3_; clear hb hbox hg; have hcz39_0 : w38.cell? ⟨gb268, 0, none⟩ = some (.string a4_0) := (blk_cell BK268.out 0).trans rfl; have hcz39_1 : w38.cell? ⟨gb268, 1, none⟩ = some (.int .u8 a4_1) := (blk_cell BK268.out 1).trans rfl; have hcz39_2 : w38.cell? ⟨gb268, 2, none⟩ = some (.int .i64 a4_2) := (blk_cell BK268.out 2).trans rfl; have hcz39_3 : w38.cell? ⟨gb268, 3, none⟩ = some (.int .i64 a4_3) := (blk_cell BK268.out 3).trans rfl; have hcz39_4 : w38.cell? ⟨gb268, 4, none⟩ = some (.int .i64 a4_4) := (blk_cell BK268.out 4).trans rfl; have hcz39_5 : w38.cell? ⟨gb268, 5, none⟩ = some (.int .i64 a4_5) := (blk_cell BK268.out 5).trans rfl; have hcz39_6 : w38.cell? ⟨gb268, 6, none⟩ = some (.int .i64 a4_6) := (blk_cell BK268.out 6).trans rfl; have hcz39_7 : w38.cell? ⟨gb268, 7, none⟩ = some (.int .i64 a4_7) := (blk_cell BK268.out 7).trans rfl; have hcz39_8 : w38.cell? ⟨gb268, 8, none⟩ = some (.int .i64 a4_8) := (blk_cell BK268.out 8).trans rfl; have hcz39_9 : w38.cell? ⟨gb268, 9, none⟩ = some (.bool a4_9) := (blk_cell BK268.out 9).trans rfl; have hcz39_10 : w38.cell? ⟨gb268, 10, none⟩ = some (.slice A4_10 l4_10.length c4_10) := (blk_cell BK268.out 10).trans rfl; have hcz39_11 : w38.cell? ⟨gb268, 11, none⟩ = some (.slice A4_11 l4_11.length c4_11) := (blk_cell BK268.out 11).trans rfl; have hfz39_0 := blk_frozen BK268.out 0; have hfz39_1 := blk_frozen BK268.out 1; have hfz39_2 := blk_frozen BK268.out 2; have hfz39_3 := blk_frozen BK268.out 3; have hfz39_4 := blk_frozen BK268.out 4; have hfz39_5 := blk_frozen BK268.out 5; have hfz39_6 := blk_frozen BK268.out 6; have hfz39_7 := blk_frozen BK268.out 7; have hfz39_8 := blk_frozen BK268.out 8; have hfz39_9 := blk_frozen BK268.out 9; have hfz39_10 := blk_frozen BK268.out 10; have hfz39_11 := blk_frozen BK268.out 11) | ((with_reducible refine gate_callee (f := 12) rfl ?_); refine goesL_ (some 27) rfl rfl Try.func12 (by kernel_rfl) rfl #[.int .i64 a0, .int .i64 a1, .int .i64 a2, .int .i64 a3, .agg #[.string a4_0, .int .u8 a4_1, .int .i64 a4_2, .int .i64 a4_3, .int .i64 a4_4, .int .i64 a4_5, .int .i64 a4_6, .int .i64 a4_7, .int .i64 a4_8, .bool a4_9, .slice A4_10 l4_10.length c4_10, .slice A4_11 l4_11.length c4_11]] rfl (by (try simp only [List.map_toArray, List.map_cons, List.map_nil]); first | done | rfl | (simp only [List.length_drop, List.length_take]; rfl)) ?_; (with_reducible refine (ballot_Vote.calls a0 a1 a2 a3 a4_0 a4_1 a4_2 a4_3 a4_4 a4_5 a4_6 a4_7 a4_8 a4_9 _ _ l4_10 _ _ l4_11 t269 t270 t271 _ ?side1 ?side2 ?side3 ?side4 A7.out).mono ?_); (case side1 => repeat (first | exact (Kd.C_below HR4_10.out HB.out) | (with_reducible refine Kd.C_alloc ?_ _) | (with_reducible refine Kd.C_drewN ?_ _) | (with_reducible refine Kd.C_drew ?_))); (case side2 => exact HC4_10.out); (case side3 => repeat (first | exact (Kd.C_below HR4_11.out HB.out) | (with_reducible refine Kd.C_alloc ?_ _) | (with_reducible refine Kd.C_drewN ?_ _) | (with_reducible refine Kd.C_drew ?_))); (case side4 => exact HC4_11.out); rintro e w40 ⟨rfl, hb⟩; refine ⟨_, rfl, ?_⟩; have n0_ := Aside0.mk (blk_below (g := gb268) (o := .cells #[.string a4_0, .int .u8 a4_1, .int .i64 a4_2, .int .i64 a4_3, .int .i64 a4_4, .int .i64 a4_5, .int .i64 a4_6, .int .i64 a4_7, .int .i64 a4_8, .bool a4_9, .slice A4_10 l4_10.length c4_10, .slice A4_11 l4_11.length c4_11] 28 (0, 0)) (by (with_reducible repeat (first | refine blk_drewN ?_ _ | refine blk_drew ?_ | refine blk_alloc ?_ _)); exact BK268.out) hb); have n1_ := Aside0.mk (below_step (by repeat (first | (with_reducible first | exact HB.out | apply below_alloc | apply pw_below_drewN | apply below_drew1 | refine below_set ?_ GE268.out) | exact HB.out)) hb); clear BK268; clear HB; have BK268 := n0_; have HB := n1_; clear n0_ n1_; (try clear hb); (try clear hb2); (try clear hk); (try clear hi); have hcz41_0 : w40.cell? ⟨gb268, 0, none⟩ = some (.string a4_0) := (blk_cell BK268.out 0).trans rfl; have hcz41_1 : w40.cell? ⟨gb268, 1, none⟩ = some (.int .u8 a4_1) := (blk_cell BK268.out 1).trans rfl; have hcz41_2 : w40.cell? ⟨gb268, 2, none⟩ = some (.int .i64 a4_2) := (blk_cell BK268.out 2).trans rfl; have hcz41_3 : w40.cell? ⟨gb268, 3, none⟩ = some (.int .i64 a4_3) := (blk_cell BK268.out 3).trans rfl; have hcz41_4 : w40.cell? ⟨gb268, 4, none⟩ = some (.int .i64 a4_4) := (blk_cell BK268.out 4).trans rfl; have hcz41_5 : w40.cell? ⟨gb268, 5, none⟩ = some (.int .i64 a4_5) := (blk_cell BK268.out 5).trans rfl; have hcz41_6 : w40.cell? ⟨gb268, 6, none⟩ = some (.int .i64 a4_6) := (blk_cell BK268.out 6).trans rfl; have hcz41_7 : w40.cell? ⟨gb268, 7, none⟩ = some (.int .i64 a4_7) := (blk_cell BK268.out 7).trans rfl; have hcz41_8 : w40.cell? ⟨gb268, 8, none⟩ = some (.int .i64 a4_8) := (blk_cell BK268.out 8).trans rfl; have hcz41_9 : w40.cell? ⟨gb268, 9, none⟩ = some (.bool a4_9) := (blk_cell BK268.out 9).trans rfl; have hcz41_10 : w40.cell? ⟨gb268, 10, none⟩ = some (.slice A4_10 l4_10.length c4_10) := (blk_cell BK268.out 10).trans rfl; have hcz41_11 : w40.cell? ⟨gb268, 11, none⟩ = some (.slice A4_11 l4_11.length c4_11) := (blk_cell BK268.out 11).trans rfl; have hfz41_0 := blk_frozen BK268.out 0; have hfz41_1 := blk_frozen BK268.out 1; have hfz41_2 := blk_frozen BK268.out 2; have hfz41_3 := blk_frozen BK268.out 3; have hfz41_4 := blk_frozen BK268.out 4; have hfz41_5 := blk_frozen BK268.out 5; have hfz41_6 := blk_frozen BK268.out 6; have hfz41_7 := blk_frozen BK268.out 7; have hfz41_8 := blk_frozen BK268.out 8; have hfz41_9 := blk_frozen BK268.out 9; have hfz41_10 := blk_frozen BK268.out 10; have hfz41_11 := blk_frozen BK268.out 11) | ((with_reducible refine gate_callee (f := 28) rfl ?_); refine goesL_ (some 37) rfl rfl Try.func28 (by kernel_rfl) rfl #[.int .i64 a0, .int .i64 a1, .int .i64 a2, .int .i64 a3, .agg #[.string a4_0, .int .u8 a4_1, .int .i64 a4_2, .int .i64 a4_3, .int .i64 a4_4, .int .i64 a4_5, .int .i64 a4_6, .int .i64 a4_7, .int .i64 a4_8, .bool a4_9, .slice A4_10 l4_10.length c4_10, .slice A4_11 l4_11.length c4_11]] rfl (by (try simp only [List.map_toArray, List.map_cons, List.map_nil]); first | done | rfl | (simp only [List.length_drop, List.length_take]; rfl)) ?_; (with_reducible refine (conduitref20_Vote.calls k a0 a1 a2 a3 a4_0 a4_1 a4_2 a4_3 a4_4 a4_5 a4_6 a4_7 a4_8 a4_9 _ _ l4_10 _ _ l4_11 t272 t273 t274 _ ?side1 ?side2 ?side3 ?side4 A8.out).mono ?_); (case side1 => repeat (first | exact (Kd.C_below HR4_10.out HB.out) | (with_reducible refine Kd.C_alloc ?_ _) | (with_reducible refine Kd.C_drewN ?_ _) | (with_reducible refine Kd.C_drew ?_))); (case side2 => exact HC4_10.out); (case side3 => repeat (first | exact (Kd.C_below HR4_11.out HB.out) | (with_reducible refine Kd.C_alloc ?_ _) | (with_reducible refine Kd.C_drewN ?_ _) | (with_reducible refine Kd.C_drew ?_))); (case side4 => exact HC4_11.out); rintro e w42 ⟨rfl, hb⟩; refine ⟨_, rfl, ?_⟩; have n0_ := Aside0.mk (blk_below (g := gb268) (o := .cells #[.string a4_0, .int .u8 a4_1, .int .i64 a4_2, .int .i64 a4_3, .int .i64 a4_4, .int .i64 a4_5, .int .i64 a4_6, .int .i64 a4_7, .int .i64 a4_8, .bool a4_9, .slice A4_10 l4_10.length c4_10, .slice A4_11 l4_11.length c4_11] 28 (0, 0)) (by (with_reducible repeat (first | refine blk_drewN ?_ _ | refine blk_drew ?_ | refine blk_alloc ?_ _)); exact BK268.out) hb); have n1_ := Aside0.mk (below_step (by repeat (first | (with_reducible first | exact HB.out | apply below_alloc | apply pw_below_drewN | apply below_drew1 | refine below_set ?_ GE268.out) | exact HB.out)) hb); clear BK268; clear HB; have BK268 := n0_; have HB := n1_; clear n0_ n1_; (try clear hb); (try clear hb2); (try clear hk); (try clear hi)) | (go_at_call 24; (with_reducible refine (ballot_Newer.calls a0 a1 a2 a3 t275 _ A12.out).mono ?_); rintro e w' ⟨rfl, ⟨nd, rfl⟩⟩) | (go_at_call 29; (with_reducible refine (conduitref20_Newer.calls a0 a1 a2 a3 t276 _ A13.out).mono ?_); rintro e w' ⟨rfl, ⟨nd, rfl⟩⟩))
          go_ret
          exact ⟨by first | rfl | (simp [errW_none, errW_some] <;> rfl) | (simp [*, errW_none, errW_some] <;> rfl), by repeat (first | (with_reducible first | exact HB.out | apply below_alloc | apply pw_below_drewN | apply below_drew1 | refine below_set ?_ GE268.out) | exact HB.out)⟩
      · rw [if_neg c11] at H
        have c11b0 : (t271 == t274) = false := by simpa using c11
        (try (have c11b1 : decide (t271 = t274) = false := by simpa using c11))
        (try (have c11b2 : (t271 == t274) = false := by simpa using c11))
        (try (have c11b3 : ¬ (t271 = t274) := by simpa using c11))
        clear c11
        obtain rfl := Option.some.inj H
        go_enter Try.func10, Try.ntmps10
        go_wp2_with (first | ((with_reducible refine gate_dst (N := 10) rfl ?_); refine box_event ?hg (N := 10) ?hd (cs := #[.string a4_0, .int .u8 a4_1, .int .i64 a4_2, .int .i64 a4_3, .int .i64 a4_4, .int .i64 a4_5, .int .i64 a4_6, .int .i64 a4_7, .int .i64 a4_8, .bool a4_9, .slice A4_10 l4_10.length c4_10, .slice A4_11 l4_11.length c4_11]) (t := 28) ?hr ?_; (case hd => rfl); (case hg => rfl); (case hr => first | (go_simp; done) | (go_simp; rfl)); intro gb268 hg w43 hbox hb; have n0_ := Aside0.mk (below_step (by repeat (first | (with_reducible first | exact HB.out | apply below_alloc | apply pw_below_drewN | apply below_drew1) | exact HB.out)) hb); have n1_ := Aside0.mk (hbox); have n2_ := Aside0.mk ((by rw [hg]; exact (below_size (by repeat (first | (with_reducible first | exact HB.out | apply below_alloc | apply pw_below_drewN | apply below_drew1) | exact HB.out))) : w.heap.size ≤ gb268)); have n3_ := Aside0.mk ((by rw [hg]; exact (below_size (by repeat (first | (with_reducible first | exact HB.out | apply below_alloc | apply pw_below_drewN | apply below_drew1) | exact HB.out))) : w.heap.size ≤ gb268)); clear HB; have HB := n0_; have BK268 := n1_; have GW268 := n2_; have GE268 := n3_; clear n0_ n1_ n2_ n3_; clear hb hbox hg; have hcz44_0 : w43.cell? ⟨gb268, 0, none⟩ = some (.string a4_0) := (blk_cell BK268.out 0).trans rfl; have hcz44_1 : w43.cell? ⟨gb268, 1, none⟩ = some (.int .u8 a4_1) := (blk_cell BK268.out 1).trans rfl; have hcz44_2 : w43.cell? ⟨gb268, 2, none⟩ = some (.int .i64 a4_2) := (blk_cell BK268.out 2).trans rfl; have hcz44_3 : w43.cell? ⟨gb268, 3, none⟩ = some (.int .i64 a4_3) := (blk_cell BK268.out 3).trans rfl; have hcz44_4 : w43.cell? ⟨gb268, 4, none⟩ = some (.int .i64 a4_4) := (blk_cell BK268.out 4).trans rfl; have hcz44_5 : w43.cell? ⟨gb268, 5, none⟩ = some (.int .i64 a4_5) := (blk_cell BK268.out 5).trans rfl; have hcz44_6 : w43.cell? ⟨gb268, 6, none⟩ = some (.int .i64 a4_6) := (blk_cell BK268.out 6).trans rfl; have hcz44_7 : w43.cell? ⟨gb268, 7, none⟩ = some (.int .i64 a4_7) := (blk_cell BK268.out 7).trans rfl; have hcz44_8 : w43.cell? ⟨gb268, 8, none⟩ = some (.int .i64 a4_8) := (blk_cell BK268.out 8).trans rfl; have hcz44_9 : w43.cell? ⟨gb268, 9, none⟩ = some (.bool a4_9) := (blk_cell BK268.out 9).trans rfl; have hcz44_10 : w43.cell? ⟨gb268, 10, none⟩ = some (.slice A4_10 l4_10.length c4_10) := (blk_cell BK268.out 10).trans rfl; have hcz44_11 : w43.cell? ⟨gb268, 11, none⟩ = some (.slice A4_11 l4_11.length c4_11) := (blk_cell BK268.out 11).trans rfl; have hfz44_0 := blk_frozen BK268.out 0; have hfz44_1 := blk_frozen BK268.out 1; have hfz44_2 := blk_frozen BK268.out 2; have hfz44_3 := blk_frozen BK268.out 3; have hfz44_4 := blk_frozen BK268.out 4; have hfz44_5 := blk_frozen BK268.out 5; have hfz44_6 := blk_frozen BK268.out 6; have hfz44_7 := blk_frozen BK268.out 7; have hfz44_8 := blk_frozen BK268.out 8; have hfz44_9 := blk_frozen BK268.out 9; have hfz44_10 := blk_frozen BK268.out 10; have hfz44_11 := blk_frozen BK268.out 11) | ((with_reducible refine gate_callee (f := 12) rfl ?_); refine goesL_ (some 27) rfl rfl Try.func12 (by kernel_rfl) rfl #[.int .i64 a0, .int .i64 a1, .int .i64 a2, .int .i64 a3, .agg #[.string a4_0, .int .u8 a4_1, .int .i64 a4_2, .int .i64 a4_3, .int .i64 a4_4, .int .i64 a4_5, .int .i64 a4_6, .int .i64 a4_7, .int .i64 a4_8, .bool a4_9, .slice A4_10 l4_10.length c4_10, .slice A4_11 l4_11.length c4_11]] rfl (by (try simp only [List.map_toArray, List.map_cons, List.map_nil]); first | done | rfl | (simp only [List.length_drop, List.length_take]; rfl)) ?_; (with_reducible refine (ballot_Vote.calls a0 a1 a2 a3 a4_0 a4_1 a4_2 a4_3 a4_4 a4_5 a4_6 a4_7 a4_8 a4_9 _ _ l4_10 _ _ l4_11 t269 t270 t271 _ ?side1 ?side2 ?side3 ?side4 A7.out).mono ?_); (case side1 => repeat (first | exact (Kd.C_below HR4_10.out HB.out) | (with_reducible refine Kd.C_alloc ?_ _) | (with_reducible refine Kd.C_drewN ?_ _) | (with_reducible refine Kd.C_drew ?_))); (case side2 => exact HC4_10.out); (case side3 => repeat (first | exact (Kd.C_below HR4_11.out HB.out) | (with_reducible refine Kd.C_alloc ?_ _) | (with_reducible refine Kd.C_drewN ?_ _) | (with_reducible refine Kd.C_drew ?_))); (case side4 => exact HC4_11.out); rintro e w45 ⟨rfl, hb⟩; refine ⟨_, rfl, ?_⟩; have n0_ := Aside0.mk (blk_below (g := gb268) (o := .cells #[.string a4_0, .int .u8 a4_1, .int .i64 a4_2, .int .i64 a4_3, .int .i64 a4_4, .int .i64 a4_5, .int .i64 a4_6, .int .i64 a4_7, .int .i64 a4_8, .bool a4_9, .slice A4_10 l4_10.length c4_10, .slice A4_11 l4_11.length c4_11] 28 (0, 0)) (by (with_reducible repeat (first | refine blk_drewN ?_ _ | refine blk_drew ?_ | refine blk_alloc ?_ _)); exact BK268.out) hb); have n1_ := Aside0.mk (below_step (by repeat (first | (with_reducible first | exact HB.out | apply below_alloc | apply pw_below_drewN | apply below_drew1 | refine below_set ?_ GE268.out) | exact HB.out)) hb); clear BK268; clear HB; have BK268 := n0_; have HB := n1_; clear n0_ n1_; (try clear hb); (try clear hb2); (try clear hk); (try clear hi); have hcz46_0 : w45.cell? ⟨gb268, 0, none⟩ = some (.string a4_0) := (blk_cell BK268.out 0).trans rfl; have hcz46_1 : w45.cell? ⟨gb268, 1, none⟩ = some (.int .u8 a4_1) := (blk_cell BK268.out 1).trans rfl; have hcz46_2 : w45.cell? ⟨gb268, 2, none⟩ = some (.int .i64 a4_2) := (blk_cell BK268.out 2).trans rfl; have hcz46_3 : w45.cell? ⟨gb268, 3, none⟩ = some (.int .i64 a4_3) := (blk_cell BK268.out 3).trans rfl; have hcz46_4 : w45.cell? ⟨gb268, 4, none⟩ = some (.int .i64 a4_4) := (blk_cell BK268.out 4).trans rfl; have hcz46_5 : w45.cell? ⟨gb268, 5, none⟩ = some (.int .i64 a4_5) := (blk_cell BK268.out 5).trans rfl; have hcz46_6 : w45.cell? ⟨gb268, 6, none⟩ = some (.int .i64 a4_6) := (blk_cell BK268.out 6).trans rfl; have hcz46_7 : w45.cell? ⟨gb268, 7, none⟩ = some (.int .i64 a4_7) := (blk_cell BK268.out 7).trans rfl; have hcz46_8 : w45.cell? ⟨gb268, 8, none⟩ = some (.int .i64 a4_8) := (blk_cell BK268.out 8).trans rfl; have hcz46_9 : w45.cell? ⟨gb268, 9, none⟩ = some (.bool a4_9) := (blk_cell BK268.out 9).trans rfl; have hcz46_10 : w45.cell? ⟨gb268, 10, none⟩ = some (.slice A4_10 l4_10.length c4_10) := (blk_cell BK268.out 10).trans rfl; have hcz46_11 : w45.cell? ⟨gb268, 11, none⟩ = some (.slice A4_11 l4_11.length c4_11) := (blk_cell BK268.out 11).trans rfl; have hfz46_0 := blk_frozen BK268.out 0; have hfz46_1 := blk_frozen BK268.out 1; have hfz46_2 := blk_frozen BK268.out 2; have hfz46_3 := blk_frozen BK268.out 3; have hfz46_4 := blk_frozen BK268.out 4; have hfz46_5 := blk_frozen BK268.out 5; have hfz46_6 := blk_frozen BK268.out 6; have hfz46_7 := blk_frozen BK268.out 7; have hfz46_8 := blk_frozen BK268.out 8; have hfz46_9 := blk_frozen BK268.out 9; have hfz46_10 := blk_frozen BK268.out 10; have hfz46_11 := blk_frozen BK268.out 11) | ((with_reducible refine gate_callee (f := 28) rfl ?_); refine goesL_ (some 37) rfl rfl Try.func28 (by kernel_rfl) rfl #[.int .i64 a0, .int .i64 a1, .int .i64 a2, .int .i64 a3, .agg #[.string a4_0, .int .u8 a4_1, .int .i64 a4_2, .int .i64 a4_3, .int .i64 a4_4, .int .i64 a4_5, .int .i64 a4_6, .int .i64 a4_7, .int .i64 a4_8, .bool a4_9, .slice A4_10 l4_10.length c4_10, .slice A4_11 l4_11.length c4_11]] rfl (by (try simp only [List.map_toArray, List.map_cons, List.map_nil]); first | done | rfl | (simp only [List.length_drop, List.length_take]; rfl)) ?_; (with_reducible refine (conduitref20_Vote.calls k a0 a1 a2 a3 a4_0 a4_1 a4_2 a4_3 a4_4 a4_5 a4_6 a4_7 a4_8 a4_9 _ _ l4_10 _ _ l4_11 t272 t273 t274 _ ?side1 ?side2 ?side3 ?side4 A8.out).mono ?_); (case side1 => repeat (first | exact (Kd.C_below HR4_10.out HB.out) | (with_reducible refine Kd.C_alloc ?_ _) | (with_reducible refine Kd.C_drewN ?_ _) | (with_reducible refine Kd.C_drew ?_))); (case side2 => exact HC4_10.out); (case side3 => repeat (first | exact (Kd.C_below HR4_11.out HB.out) | (with_reducible refine Kd.C_alloc ?_ _) | (with_reducible refine Kd.C_drewN ?_ _) | (with_reducible refine Kd.C_drew ?_))); (case side4 => exact HC4_11.out); rintro e w47 ⟨rfl, hb⟩; refine ⟨_, rfl, ?_⟩; have n0_ := Aside0.mk (blk_below (g := gb268) (o := .cells #[.string a4_0, .int .u8 a4_1, .int .i64 a4_2, .int .i64 a4_3, .int .i64 a4_4, .int .i64 a4_5, .int .i64 a4_6, .int .i64 a4_7, .int .i64 a4_8, .bool a4_9, .slice A4_10 l4_10.length c4_10, .slice A4_11 l4_11.length c4_11] 28 (0, 0)) (by (with_reducible repeat (first | refine blk_drewN ?_ _ | refine blk_drew ?_ | refine blk_alloc ?_ _)); exact BK268.out) hb); have n1_ := Aside0.mk (below_step (by repeat (first | (with_reducible first | exact HB.out | apply below_alloc | apply pw_below_drewN | apply below_drew1 | refine below_set ?_ GE268.out) | exact HB.out)) hb); clear BK268; clear HB; have BK268 := n0_; have HB := n1_; clear n0_ n1_; (try clear hb); (try clear hb2); (try clear hk); (try clear hi)))
        go_ret
        exact ⟨by first | rfl | (simp [errW_none, errW_some] <;> rfl) | (simp [*, errW_none, errW_some] <;> rfl), by repeat (first | (with_reducible first | exact HB.out | apply below_alloc | apply pw_below_drewN | apply below_drew1 | refine below_set ?_ GE268.out) | exact HB.out)⟩
    · rw [if_neg c10] at H
      have c10b0 : (t270 == t273) = false := beq_eq_false_iff_ne.mpr c10
      have c10b1 : (t270 != t273) = true := bne_iff_ne.mpr c10
      obtain rfl := Option.some.inj H
      go_enter Try.func10, Try.ntmps10
      go_wp2_with (first | ((with_reducible refine gate_dst (N := 10) rfl ?_); refine box_event ?hg (N := 10) ?hd (cs := #[.string a4_0, .int .u8 a4_1, .int .i64 a4_2, .int .i64 a4_3, .int .i64 a4_4, .int .i64 a4_5, .int .i64 a4_6, .int .i64 a4_7, .int .i64 a4_8, .bool a4_9, .slice A4_10 l4_10.length c4_10, .slice A4_11 l4_11.length c4_11]) (t := 28) ?hr ?_; (case hd => rfl); (case hg => rfl); (case hr => first | (go_simp; done) | (go_simp; rfl)); intro gb268 hg w48 hbox hb; have n0_ := Aside0.mk (below_step (by repeat (first | (with_reducible first | exact HB.out | apply below_alloc | apply pw_below_drewN | apply below_drew1) | exact HB.out)) hb); have n1_ := Aside0.mk (hbox); have n2_ := Aside0.mk ((by rw [hg]; exact (below_size (by repeat (first | (with_reducible first | exact HB.out | apply below_alloc | apply pw_below_drewN | apply below_drew1) | exact HB.out))) : w.heap.size ≤ gb268)); have n3_ := Aside0.mk ((by rw [hg]; exact (below_size (by repeat (first | (with_reducible first | exact HB.out | apply below_alloc | apply pw_below_drewN | apply below_drew1) | exact HB.out))) : w.heap.size ≤ gb268)); clear HB; have HB := n0_; have BK268 := n1_; have GW268 := n2_; have GE268 := n3_; clear n0_ n1_ n2_ n3_; clear hb hbox hg; have hcz49_0 : w48.cell? ⟨gb268, 0, none⟩ = some (.string a4_0) := (blk_cell BK268.out 0).trans rfl; have hcz49_1 : w48.cell? ⟨gb268, 1, none⟩ = some (.int .u8 a4_1) := (blk_cell BK268.out 1).trans rfl; have hcz49_2 : w48.cell? ⟨gb268, 2, none⟩ = some (.int .i64 a4_2) := (blk_cell BK268.out 2).trans rfl; have hcz49_3 : w48.cell? ⟨gb268, 3, none⟩ = some (.int .i64 a4_3) := (blk_cell BK268.out 3).trans rfl; have hcz49_4 : w48.cell? ⟨gb268, 4, none⟩ = some (.int .i64 a4_4) := (blk_cell BK268.out 4).trans rfl; have hcz49_5 : w48.cell? ⟨gb268, 5, none⟩ = some (.int .i64 a4_5) := (blk_cell BK268.out 5).trans rfl; have hcz49_6 : w48.cell? ⟨gb268, 6, none⟩ = some (.int .i64 a4_6) := (blk_cell BK268.out 6).trans rfl; have hcz49_7 : w48.cell? ⟨gb268, 7, none⟩ = some (.int .i64 a4_7) := (blk_cell BK268.out 7).trans rfl; have hcz49_8 : w48.cell? ⟨gb268, 8, none⟩ = some (.int .i64 a4_8) := (blk_cell BK268.out 8).trans rfl; have hcz49_9 : w48.cell? ⟨gb268, 9, none⟩ = some (.bool a4_9) := (blk_cell BK268.out 9).trans rfl; have hcz49_10 : w48.cell? ⟨gb268, 10, none⟩ = some (.slice A4_10 l4_10.length c4_10) := (blk_cell BK268.out 10).trans rfl; have hcz49_11 : w48.cell? ⟨gb268, 11, none⟩ = some (.slice A4_11 l4_11.length c4_11) := (blk_cell BK268.out 11).trans rfl; have hfz49_0 := blk_frozen BK268.out 0; have hfz49_1 := blk_frozen BK268.out 1; have hfz49_2 := blk_frozen BK268.out 2; have hfz49_3 := blk_frozen BK268.out 3; have hfz49_4 := blk_frozen BK268.out 4; have hfz49_5 := blk_frozen BK268.out 5; have hfz49_6 := blk_frozen BK268.out 6; have hfz49_7 := blk_frozen BK268.out 7; have hfz49_8 := blk_frozen BK268.out 8; have hfz49_9 := blk_frozen BK268.out 9; have hfz49_10 := blk_frozen BK268.out 10; have hfz49_11 := blk_frozen BK268.out 11) | ((with_reducible refine gate_callee (f := 12) rfl ?_); refine goesL_ (some 27) rfl rfl Try.func12 (by kernel_rfl) rfl #[.int .i64 a0, .int .i64 a1, .int .i64 a2, .int .i64 a3, .agg #[.string a4_0, .int .u8 a4_1, .int .i64 a4_2, .int .i64 a4_3, .int .i64 a4_4, .int .i64 a4_5, .int .i64 a4_6, .int .i64 a4_7, .int .i64 a4_8, .bool a4_9, .slice A4_10 l4_10.length c4_10, .slice A4_11 l4_11.length c4_11]] rfl (by (try simp only [List.map_toArray, List.map_cons, List.map_nil]); first | done | rfl | (simp only [List.length_drop, List.length_take]; rfl)) ?_; (with_reducible refine (ballot_Vote.calls a0 a1 a2 a3 a4_0 a4_1 a4_2 a4_3 a4_4 a4_5 a4_6 a4_7 a4_8 a4_9 _ _ l4_10 _ _ l4_11 t269 t270 t271 _ ?side1 ?side2 ?side3 ?side4 A7.out).mono ?_); (case side1 => repeat (first | exact (Kd.C_below HR4_10.out HB.out) | (with_reducible refine Kd.C_alloc ?_ _) | (with_reducible refine Kd.C_drewN ?_ _) | (with_reducible refine Kd.C_drew ?_))); (case side2 => exact HC4_10.out); (case side3 => repeat (first | exact (Kd.C_below HR4_11.out HB.out) | (with_reducible refine Kd.C_alloc ?_ _) | (with_reducible refine Kd.C_drewN ?_ _) | (with_reducible refine Kd.C_drew ?_))); (case side4 => exact HC4_11.out); rintro e w50 ⟨rfl, hb⟩; refine ⟨_, rfl, ?_⟩; have n0_ := Aside0.mk (blk_below (g := gb268) (o := .cells #[.string a4_0, .int .u8 a4_1, .int .i64 a4_2, .int .i64 a4_3, .int .i64 a4_4, .int .i64 a4_5, .int .i64 a4_6, .int .i64 a4_7, .int .i64 a4_8, .bool a4_9, .slice A4_10 l4_10.length c4_10, .slice A4_11 l4_11.length c4_11] 28 (0, 0)) (by (with_reducible repeat (first | refine blk_drewN ?_ _ | refine blk_drew ?_ | refine blk_alloc ?_ _)); exact BK268.out) hb); have n1_ := Aside0.mk (below_step (by repeat (first | (with_reducible first | exact HB.out | apply below_alloc | apply pw_below_drewN | apply below_drew1 | refine below_set ?_ GE268.out) | exact HB.out)) hb); clear BK268; clear HB; have BK268 := n0_; have HB := n1_; clear n0_ n1_; (try clear hb); (try clear hb2); (try clear hk); (try clear hi); have hcz51_0 : w50.cell? ⟨gb268, 0, none⟩ = some (.string a4_0) := (blk_cell BK268.out 0).trans rfl; have hcz51_1 : w50.cell? ⟨gb268, 1, none⟩ = some (.int .u8 a4_1) := (blk_cell BK268.out 1).trans rfl; have hcz51_2 : w50.cell? ⟨gb268, 2, none⟩ = some (.int .i64 a4_2) := (blk_cell BK268.out 2).trans rfl; have hcz51_3 : w50.cell? ⟨gb268, 3, none⟩ = some (.int .i64 a4_3) := (blk_cell BK268.out 3).trans rfl; have hcz51_4 : w50.cell? ⟨gb268, 4, none⟩ = some (.int .i64 a4_4) := (blk_cell BK268.out 4).trans rfl; have hcz51_5 : w50.cell? ⟨gb268, 5, none⟩ = some (.int .i64 a4_5) := (blk_cell BK268.out 5).trans rfl; have hcz51_6 : w50.cell? ⟨gb268, 6, none⟩ = some (.int .i64 a4_6) := (blk_cell BK268.out 6).trans rfl; have hcz51_7 : w50.cell? ⟨gb268, 7, none⟩ = some (.int .i64 a4_7) := (blk_cell BK268.out 7).trans rfl; have hcz51_8 : w50.cell? ⟨gb268, 8, none⟩ = some (.int .i64 a4_8) := (blk_cell BK268.out 8).trans rfl; have hcz51_9 : w50.cell? ⟨gb268, 9, none⟩ = some (.bool a4_9) := (blk_cell BK268.out 9).trans rfl; have hcz51_10 : w50.cell? ⟨gb268, 10, none⟩ = some (.slice A4_10 l4_10.length c4_10) := (blk_cell BK268.out 10).trans rfl; have hcz51_11 : w50.cell? ⟨gb268, 11, none⟩ = some (.slice A4_11 l4_11.length c4_11) := (blk_cell BK268.out 11).trans rfl; have hfz51_0 := blk_frozen BK268.out 0; have hfz51_1 := blk_frozen BK268.out 1; have hfz51_2 := blk_frozen BK268.out 2; have hfz51_3 := blk_frozen BK268.out 3; have hfz51_4 := blk_frozen BK268.out 4; have hfz51_5 := blk_frozen BK268.out 5; have hfz51_6 := blk_frozen BK268.out 6; have hfz51_7 := blk_frozen BK268.out 7; have hfz51_8 := blk_frozen BK268.out 8; have hfz51_9 := blk_frozen BK268.out 9; have hfz51_10 := blk_frozen BK268.out 10; have hfz51_11 := blk_frozen BK268.out 11) | ((with_reducible refine gate_callee (f := 28) rfl ?_); refine goesL_ (some 37) rfl rfl Try.func28 (by kernel_rfl) rfl #[.int .i64 a0, .int .i64 a1, .int .i64 a2, .int .i64 a3, .agg #[.string a4_0, .int .u8 a4_1, .int .i64 a4_2, .int .i64 a4_3, .int .i64 a4_4, .int .i64 a4_5, .int .i64 a4_6, .int .i64 a4_7, .int .i64 a4_8, .bool a4_9, .slice A4_10 l4_10.length c4_10, .slice A4_11 l4_11.length c4_11]] rfl (by (try simp only [List.map_toArray, List.map_cons, List.map_nil]); first | done | rfl | (simp only [List.length_drop, List.length_take]; rfl)) ?_; (with_reducible refine (conduitref20_Vote.calls k a0 a1 a2 a3 a4_0 a4_1 a4_2 a4_3 a4_4 a4_5 a4_6 a4_7 a4_8 a4_9 _ _ l4_10 _ _ l4_11 t272 t273 t274 _ ?side1 ?side2 ?side3 ?side4 A8.out).mono ?_); (case side1 => repeat (first | exact (Kd.C_below HR4_10.out HB.out) | (with_reducible refine Kd.C_alloc ?_ _) | (with_reducible refine Kd.C_drewN ?_ _) | (with_reducible refine Kd.C_drew ?_))); (case side2 => exact HC4_10.out); (case side3 => repeat (first | exact (Kd.C_below HR4_11.out HB.out) | (with_reducible refine Kd.C_alloc ?_ _) | (with_reducible refine Kd.C_drewN ?_ _) | (with_reducible refine Kd.C_drew ?_))); (case side4 => exact HC4_11.out); rintro e w52 ⟨rfl, hb⟩; refine ⟨_, rfl, ?_⟩; have n0_ := Aside0.mk (blk_below (g := gb268) (o := .cells #[.string a4_0, .int .u8 a4_1, .int .i64 a4_2, .int .i64 a4_3, .int .i64 a4_4, .int .i64 a4_5, .int .i64 a4_6, .int .i64 a4_7, .int .i64 a4_8, .bool a4_9, .slice A4_10 l4_10.length c4_10, .slice A4_11 l4_11.length c4_11] 28 (0, 0)) (by (with_reducible repeat (first | refine blk_drewN ?_ _ | refine blk_drew ?_ | refine blk_alloc ?_ _)); exact BK268.out) hb); have n1_ := Aside0.mk (below_step (by repeat (first | (with_reducible first | exact HB.out | apply below_alloc | apply pw_below_drewN | apply below_drew1 | refine below_set ?_ GE268.out) | exact HB.out)) hb); clear BK268; clear HB; have BK268 := n0_; have HB := n1_; clear n0_ n1_; (try clear hb); (try clear hb2); (try clear hk); (try clear hi)))
      go_ret
      exact ⟨by first | rfl | (simp [errW_none, errW_some] <;> rfl) | (simp [*, errW_none, errW_some] <;> rfl), by repeat (first | (with_reducible first | exact HB.out | apply below_alloc | apply pw_below_drewN | apply below_drew1 | refine below_set ?_ GE268.out) | exact HB.out)⟩
  · rw [if_neg c9] at H
    have c9b0 : (t269 == t272) = false := beq_eq_false_iff_ne.mpr c9
    have c9b1 : (t269 != t272) = true := bne_iff_ne.mpr c9
    obtain rfl := Option.some.inj H
    go_enter Try.func10, Try.ntmps10
    go_wp2_with (first | ((with_reducible refine gate_dst (N := 10) rfl ?_); refine box_event ?hg (N := 10) ?hd (cs := #[.string a4_0, .int .u8 a4_1, .int .i64 a4_2, .int .i64 a4_3, .int .i64 a4_4, .int .i64 a4_5, .int .i64 a4_6, .int .i64 a4_7, .int .i64 a4_8, .bool a4_9, .slice A4_10 l4_10.length c4_10, .slice A4_11 l4_11.length c4_11]) (t := 28) ?hr ?_; (case hd => rfl); (case hg => rfl); (case hr => first | (go_simp; done) | (go_simp; rfl)); intro gb268 hg w53 hbox hb; have n0_ := Aside0.mk (below_step (by repeat (first | (with_reducible first | exact HB.out | apply below_alloc | apply pw_below_drewN | apply below_drew1) | exact HB.out)) hb); have n1_ := Aside0.mk (hbox); have n2_ := Aside0.mk ((by rw [hg]; exact (below_size (by repeat (first | (with_reducible first | exact HB.out | apply below_alloc | apply pw_below_drewN | apply below_drew1) | exact HB.out))) : w.heap.size ≤ gb268)); have n3_ := Aside0.mk ((by rw [hg]; exact (below_size (by repeat (first | (with_reducible first | exact HB.out | apply below_alloc | apply pw_below_drewN | apply below_drew1) | exact HB.out))) : w.heap.size ≤ gb268)); clear HB; have HB := n0_; have BK268 := n1_; have GW268 := n2_; have GE268 := n3_; clear n0_ n1_ n2_ n3_; clear hb hbox hg; have hcz54_0 : w53.cell? ⟨gb268, 0, none⟩ = some (.string a4_0) := (blk_cell BK268.out 0).trans rfl; have hcz54_1 : w53.cell? ⟨gb268, 1, none⟩ = some (.int .u8 a4_1) := (blk_cell BK268.out 1).trans rfl; have hcz54_2 : w53.cell? ⟨gb268, 2, none⟩ = some (.int .i64 a4_2) := (blk_cell BK268.out 2).trans rfl; have hcz54_3 : w53.cell? ⟨gb268, 3, none⟩ = some (.int .i64 a4_3) := (blk_cell BK268.out 3).trans rfl; have hcz54_4 : w53.cell? ⟨gb268, 4, none⟩ = some (.int .i64 a4_4) := (blk_cell BK268.out 4).trans rfl; have hcz54_5 : w53.cell? ⟨gb268, 5, none⟩ = some (.int .i64 a4_5) := (blk_cell BK268.out 5).trans rfl; have hcz54_6 : w53.cell? ⟨gb268, 6, none⟩ = some (.int .i64 a4_6) := (blk_cell BK268.out 6).trans rfl; have hcz54_7 : w53.cell? ⟨gb268, 7, none⟩ = some (.int .i64 a4_7) := (blk_cell BK268.out 7).trans rfl; have hcz54_8 : w53.cell? ⟨gb268, 8, none⟩ = some (.int .i64 a4_8) := (blk_cell BK268.out 8).trans rfl; have hcz54_9 : w53.cell? ⟨gb268, 9, none⟩ = some (.bool a4_9) := (blk_cell BK268.out 9).trans rfl; have hcz54_10 : w53.cell? ⟨gb268, 10, none⟩ = some (.slice A4_10 l4_10.length c4_10) := (blk_cell BK268.out 10).trans rfl; have hcz54_11 : w53.cell? ⟨gb268, 11, none⟩ = some (.slice A4_11 l4_11.length c4_11) := (blk_cell BK268.out 11).trans rfl; have hfz54_0 := blk_frozen BK268.out 0; have hfz54_1 := blk_frozen BK268.out 1; have hfz54_2 := blk_frozen BK268.out 2; have hfz54_3 := blk_frozen BK268.out 3; have hfz54_4 := blk_frozen BK268.out 4; have hfz54_5 := blk_frozen BK268.out 5; have hfz54_6 := blk_frozen BK268.out 6; have hfz54_7 := blk_frozen BK268.out 7; have hfz54_8 := blk_frozen BK268.out 8; have hfz54_9 := blk_frozen BK268.out 9; have hfz54_10 := blk_frozen BK268.out 10; have hfz54_11 := blk_frozen BK268.out 11) | ((with_reducible refine gate_callee (f := 12) rfl ?_); refine goesL_ (some 27) rfl rfl Try.func12 (by kernel_rfl) rfl #[.int .i64 a0, .int .i64 a1, .int .i64 a2, .int .i64 a3, .agg #[.string a4_0, .int .u8 a4_1, .int .i64 a4_2, .int .i64 a4_3, .int .i64 a4_4, .int .i64 a4_5, .int .i64 a4_6, .int .i64 a4_7, .int .i64 a4_8, .bool a4_9, .slice A4_10 l4_10.length c4_10, .slice A4_11 l4_11.length c4_11]] rfl (by (try simp only [List.map_toArray, List.map_cons, List.map_nil]); first | done | rfl | (simp only [List.length_drop, List.length_take]; rfl)) ?_; (with_reducible refine (ballot_Vote.calls a0 a1 a2 a3 a4_0 a4_1 a4_2 a4_3 a4_4 a4_5 a4_6 a4_7 a4_8 a4_9 _ _ l4_10 _ _ l4_11 t269 t270 t271 _ ?side1 ?side2 ?side3 ?side4 A7.out).mono ?_); (case side1 => repeat (first | exact (Kd.C_below HR4_10.out HB.out) | (with_reducible refine Kd.C_alloc ?_ _) | (with_reducible refine Kd.C_drewN ?_ _) | (with_reducible refine Kd.C_drew ?_))); (case side2 => exact HC4_10.out); (case side3 => repeat (first | exact (Kd.C_below HR4_11.out HB.out) | (with_reducible refine Kd.C_alloc ?_ _) | (with_reducible refine Kd.C_drewN ?_ _) | (with_reducible refine Kd.C_drew ?_))); (case side4 => exact HC4_11.out); rintro e w55 ⟨rfl, hb⟩; refine ⟨_, rfl, ?_⟩; have n0_ := Aside0.mk (blk_below (g := gb268) (o := .cells #[.string a4_0, .int .u8 a4_1, .int .i64 a4_2, .int .i64 a4_3, .int .i64 a4_4, .int .i64 a4_5, .int .i64 a4_6, .int .i64 a4_7, .int .i64 a4_8, .bool a4_9, .slice A4_10 l4_10.length c4_10, .slice A4_11 l4_11.length c4_11] 28 (0, 0)) (by (with_reducible repeat (first | refine blk_drewN ?_ _ | refine blk_drew ?_ | refine blk_alloc ?_ _)); exact BK268.out) hb); have n1_ := Aside0.mk (below_step (by repeat (first | (with_reducible first | exact HB.out | apply below_alloc | apply pw_below_drewN | apply below_drew1 | refine below_set ?_ GE268.out) | exact HB.out)) hb); clear BK268; clear HB; have BK268 := n0_; have HB := n1_; clear n0_ n1_; (try clear hb); (try clear hb2); (try clear hk); (try clear hi); have hcz56_0 : w55.cell? ⟨gb268, 0, none⟩ = some (.string a4_0) := (blk_cell BK268.out 0).trans rfl; have hcz56_1 : w55.cell? ⟨gb268, 1, none⟩ = some (.int .u8 a4_1) := (blk_cell BK268.out 1).trans rfl; have hcz56_2 : w55.cell? ⟨gb268, 2, none⟩ = some (.int .i64 a4_2) := (blk_cell BK268.out 2).trans rfl; have hcz56_3 : w55.cell? ⟨gb268, 3, none⟩ = some (.int .i64 a4_3) := (blk_cell BK268.out 3).trans rfl; have hcz56_4 : w55.cell? ⟨gb268, 4, none⟩ = some (.int .i64 a4_4) := (blk_cell BK268.out 4).trans rfl; have hcz56_5 : w55.cell? ⟨gb268, 5, none⟩ = some (.int .i64 a4_5) := (blk_cell BK268.out 5).trans rfl; have hcz56_6 : w55.cell? ⟨gb268, 6, none⟩ = some (.int .i64 a4_6) := (blk_cell BK268.out 6).trans rfl; have hcz56_7 : w55.cell? ⟨gb268, 7, none⟩ = some (.int .i64 a4_7) := (blk_cell BK268.out 7).trans rfl; have hcz56_8 : w55.cell? ⟨gb268, 8, none⟩ = some (.int .i64 a4_8) := (blk_cell BK268.out 8).trans rfl; have hcz56_9 : w55.cell? ⟨gb268, 9, none⟩ = some (.bool a4_9) := (blk_cell BK268.out 9).trans rfl; have hcz56_10 : w55.cell? ⟨gb268, 10, none⟩ = some (.slice A4_10 l4_10.length c4_10) := (blk_cell BK268.out 10).trans rfl; have hcz56_11 : w55.cell? ⟨gb268, 11, none⟩ = some (.slice A4_11 l4_11.length c4_11) := (blk_cell BK268.out 11).trans rfl; have hfz56_0 := blk_frozen BK268.out 0; have hfz56_1 := blk_frozen BK268.out 1; have hfz56_2 := blk_frozen BK268.out 2; have hfz56_3 := blk_frozen BK268.out 3; have hfz56_4 := blk_frozen BK268.out 4; have hfz56_5 := blk_frozen BK268.out 5; have hfz56_6 := blk_frozen BK268.out 6; have hfz56_7 := blk_frozen BK268.out 7; have hfz56_8 := blk_frozen BK268.out 8; have hfz56_9 := blk_frozen BK268.out 9; have hfz56_10 := blk_frozen BK268.out 10; have hfz56_11 := blk_frozen BK268.out 11) | ((with_reducible refine gate_callee (f := 28) rfl ?_); refine goesL_ (some 37) rfl rfl Try.func28 (by kernel_rfl) rfl #[.int .i64 a0, .int .i64 a1, .int .i64 a2, .int .i64 a3, .agg #[.string a4_0, .int .u8 a4_1, .int .i64 a4_2, .int .i64 a4_3, .int .i64 a4_4, .int .i64 a4_5, .int .i64 a4_6, .int .i64 a4_7, .int .i64 a4_8, .bool a4_9, .slice A4_10 l4_10.length c4_10, .slice A4_11 l4_11.length c4_11]] rfl (by (try simp only [List.map_toArray, List.map_cons, List.map_nil]); first | done | rfl | (simp only [List.length_drop, List.length_take]; rfl)) ?_; (with_reducible refine (conduitref20_Vote.calls k a0 a1 a2 a3 a4_0 a4_1 a4_2 a4_3 a4_4 a4_5 a4_6 a4_7 a4_8 a4_9 _ _ l4_10 _ _ l4_11 t272 t273 t274 _ ?side1 ?side2 ?side3 ?side4 A8.out).mono ?_); (case side1 => repeat (first | exact (Kd.C_below HR4_10.out HB.out) | (with_reducible refine Kd.C_alloc ?_ _) | (with_reducible refine Kd.C_drewN ?_ _) | (with_reducible refine Kd.C_drew ?_))); (case side2 => exact HC4_10.out); (case side3 => repeat (first | exact (Kd.C_below HR4_11.out HB.out) | (with_reducible refine Kd.C_alloc ?_ _) | (with_reducible refine Kd.C_drewN ?_ _) | (with_reducible refine Kd.C_drew ?_))); (case side4 => exact HC4_11.out); rintro e w57 ⟨rfl, hb⟩; refine ⟨_, rfl, ?_⟩; have n0_ := Aside0.mk (blk_below (g := gb268) (o := .cells #[.string a4_0, .int .u8 a4_1, .int .i64 a4_2, .int .i64 a4_3, .int .i64 a4_4, .int .i64 a4_5, .int .i64 a4_6, .int .i64 a4_7, .int .i64 a4_8, .bool a4_9, .slice A4_10 l4_10.length c4_10, .slice A4_11 l4_11.length c4_11] 28 (0, 0)) (by (with_reducible repeat (first | refine blk_drewN ?_ _ | refine blk_drew ?_ | refine blk_alloc ?_ _)); exact BK268.out) hb); have n1_ := Aside0.mk (below_step (by repeat (first | (with_reducible first | exact HB.out | apply below_alloc | apply pw_below_drewN | apply below_drew1 | refine below_set ?_ GE268.out) | exact HB.out)) hb); clear BK268; clear HB; have BK268 := n0_; have HB := n1_; clear n0_ n1_; (try clear hb); (try clear hb2); (try clear hk); (try clear hi)))
    go_ret
    exact ⟨by first | rfl | (simp [errW_none, errW_some] <;> rfl) | (simp [*, errW_none, errW_some] <;> rfl), by repeat (first | (with_reducible first | exact HB.out | apply below_alloc | apply pw_below_drewN | apply below_drew1 | refine below_set ?_ GE268.out) | exact HB.out)⟩

end Go.Proofs.Ytpoladincbkgiaa.M
