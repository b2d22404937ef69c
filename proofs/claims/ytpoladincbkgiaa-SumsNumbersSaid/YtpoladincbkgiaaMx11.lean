/- Functions of the program as Lean functions, each with a proof that the Go code answers just so; written by a program of this session (mkprint.py). No conditions. -/
import Derived.Test.YtpoladincbkgiaaMx0
import Derived.Test.YtpoladincbkgiaaMx7
import Derived.Test.YtpoladincbkgiaaMx8
import Derived.Test.YtpoladincbkgiaaMx9
import Derived.Test.YtpoladincbkgiaaMx10
namespace Go.Proofs.Ytpoladincbkgiaa.M
open Go.RowKit Go.Proofs.YtpoladincbkgiaaW.PrintWords Go.Proofs.YtpoladincbkgiaaW.PrintLast Go.Proofs.YtpoladincbkgiaaW.PrintMore
attribute [local go_sem] max2_int min2_int max_two min_two max_three min_three max_four min_four   -- for this text's walks alone
set_option linter.unusedVariables false
set_option linter.unusedSimpArgs false

/-! ### conduitlaw02_SumsNumbers: function 4 -/
/-- The examples' sums, as numbers. -/
def conduitlaw02_SumsNumbers.Pure : Prop := sums_Crc.f [] = some 0 ∧ sums_Crc.f [49, 50, 51, 52] = some 4131058926 ∧ sums_More.f 4131058926 [53, 54, 55, 56, 57] = some 3808858755 ∧
  (∃ k l, conduitlaw02_row.f k 0 0 = some l ∧ sums_Crc.f l = some 2324772522) ∧ (∃ k l, conduitlaw02_row.f k 255 0 = some l ∧ sums_Crc.f l = some 1655221059) ∧
  (∃ k l, conduitlaw02_row.f k 0 1 = some l ∧ sums_Crc.f l = some 1188919630) ∧ conduitlaw02_awake.f = some true
set_option maxHeartbeats 1600000 in
theorem conduitlaw02_SumsNumbers.walk (P : conduitlaw02_SumsNumbers.Pure) (w : World) : Calls Try.prog 4 #[] w fun e w' => e = .returned (.bool true) ∧ Below w.heap.size w w' := by
  obtain ⟨p1, p2, p3, ⟨k4, l4, p4, q4⟩, ⟨k5, l5, p5, q5⟩, ⟨k6, l6, p6, q6⟩, p7⟩ := P
  have P1 := Aside0.mk p1; have P2 := Aside0.mk p2; have P3 := Aside0.mk p3; have P4 := Aside0.mk p4; have P5 := Aside0.mk p5; have P6 := Aside0.mk p6; have P7 := Aside0.mk p7
  have Q4 := Aside0.mk q4; have Q5 := Aside0.mk q5; have Q6 := Aside0.mk q6
  clear p1 p2 p3 p4 p5 p6 p7 q4 q5 q6
  have kc := fun (w : World) (C : Array Value) (n c : Nat) => Lib.run_convert_bytes_const (P := Try.prog) w 26 5 C n c Try.underlying26 Try.underlying5
  go_enter Try.func4, Try.ntmps4
  go_wp2_with fail
  refine (sums_Crc.calls none 0 [] 0 _ (Kd.C_nil _ _) (Nat.le_refl _) P1.out).mono ?_
  rintro e w1 ⟨rfl, b1⟩
  have B1 := Aside0.mk b1
  clear b1
  go_wp2_with fail
  refine (sums_Crc.calls _ 4 [49, 50, 51, 52] _ _ (lit_marked _ _ _ _ [49, 50, 51, 52] rfl (by decide)) (by decide) P2.out).mono ?_
  rintro e w2 ⟨rfl, b2⟩
  have B2 := Aside0.mk (below_then (below_alloc B1.out _) (below_alloc B1.out _).size b2)
  clear b2 B1
  go_wp2_with fail
  refine (sums_More.calls _ _ 5 [53, 54, 55, 56, 57] _ _ (lit_marked _ _ _ _ [53, 54, 55, 56, 57] rfl (by decide)) (by decide) P3.out).mono ?_
  rintro e w3 ⟨rfl, b3⟩
  have B3 := Aside0.mk (below_then (below_alloc B2.out _) (below_alloc B2.out _).size b3)
  clear b3 B2
  go_wp2_with fail
  refine (conduitlaw02_row.calls k4 _ _ l4 _ P4.out).mono ?_
  rintro e w4 ⟨v4, rfl, ho4, b4⟩
  obtain ⟨A4, c4, rfl, hl4, hc4⟩ := Kd.R_reads ho4
  have HC4 := Aside0.mk hc4
  have HL4 := Aside0.mk hl4
  have B4 := Aside0.mk (below_then B3.out B3.out.size b4)
  clear ho4 hc4 hl4 b4 B3
  go_wp2_with fail
  refine (sums_Crc.calls _ _ l4 _ _ HC4.out HL4.out Q4.out).mono ?_
  rintro e w4b ⟨rfl, b4⟩
  have B4b := Aside0.mk (below_then B4.out B4.out.size b4)
  clear b4 B4 HC4
  go_wp2_with fail
  refine (conduitlaw02_row.calls k5 _ _ l5 _ P5.out).mono ?_
  rintro e w5 ⟨v5, rfl, ho5, b5⟩
  obtain ⟨A5, c5, rfl, hl5, hc5⟩ := Kd.R_reads ho5
  have HC5 := Aside0.mk hc5
  have HL5 := Aside0.mk hl5
  have B5 := Aside0.mk (below_then B4b.out B4b.out.size b5)
  clear ho5 hc5 hl5 b5 B4b
  go_wp2_with fail
  refine (sums_Crc.calls _ _ l5 _ _ HC5.out HL5.out Q5.out).mono ?_
  rintro e w5b ⟨rfl, b5⟩
  have B5b := Aside0.mk (below_then B5.out B5.out.size b5)
  clear b5 B5 HC5
  go_wp2_with fail
  refine (conduitlaw02_row.calls k6 _ _ l6 _ P6.out).mono ?_
  rintro e w6 ⟨v6, rfl, ho6, b6⟩
  obtain ⟨A6, c6, rfl, hl6, hc6⟩ := Kd.R_reads ho6
  have HC6 := Aside0.mk hc6
  have HL6 := Aside0.mk hl6
  have B6 := Aside0.mk (below_then B5b.out B5b.out.size b6)
  clear ho6 hc6 hl6 b6 B5b
  go_wp2_with fail
  refine (sums_Crc.calls _ _ l6 _ _ HC6.out HL6.out Q6.out).mono ?_
  rintro e w6b ⟨rfl, b6⟩
  have B6b := Aside0.mk (below_then B6.out B6.out.size b6)
  clear b6 B6 HC6
  go_wp2_with fail
  refine (conduitlaw02_awake.calls _ _ P7.out).mono ?_
  rintro e w7 ⟨rfl, b7⟩
  have B7 := Aside0.mk (below_then B6b.out B6b.out.size b7)
  clear b7 B6b
  go_wp2
  go_ret
  exact ⟨rfl, B7.out⟩


end Go.Proofs.Ytpoladincbkgiaa.M
