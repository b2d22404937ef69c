/- Functions of the program as Lean functions, each with a proof that the Go code answers just so; written by a program of this session (mkprint.py). No conditions. -/
import Derived.Test.YtpoladincbkgiaaMx0
import Derived.Test.YtpoladincbkgiaaMx8
namespace Go.Proofs.Ytpoladincbkgiaa.M
open Go.RowKit Go.Proofs.YtpoladincbkgiaaW.PrintWords Go.Proofs.YtpoladincbkgiaaW.PrintLast Go.Proofs.YtpoladincbkgiaaW.PrintMore
attribute [local go_sem] max2_int min2_int max_two min_two max_three min_three max_four min_four   -- for this text's walks alone
set_option linter.unusedVariables false
set_option linter.unusedSimpArgs false

/-! ### conduitlaw02_awake: function 17 -/
/-- A literal's row behind the conversion of a constant text: it is read. -/
theorem lit_marked (W : World) (C : Array Value) (e : TypeId) (fr : Nat × Nat) (xs : List Int) (hC : C.toList = nums .u8 xs) (hm : xs.length ≤ 9223372036854775807) :
    Kd.C (Kd.int .u8) (W.alloc (.cells C e fr)) (some ⟨W.heap.size, 0, none⟩) xs.length xs := by
  refine Kd.C_of_reads (d := (0 : Int)) (h1 := fun _ => rfl) ⟨rfl, hm, fun _ => ⟨_, rfl, fun j hj => ?_⟩⟩
  have hb := heap_alloc_new W (.cells C e fr)
  have ha : (⟨W.heap.size, 0, none⟩ : Addr).add j = ⟨W.heap.size, 0 + j, none⟩ := by unfold Addr.add; split <;> simp_all
  rw [ha, Nat.zero_add]
  have hc : C[j]? = some (.int .u8 (xs.getD j 0)) := by
    rw [← Array.getElem?_toList, hC]
    simp [nums, List.getElem?_eq_getElem hj, List.getD_eq_getElem?_getD]
  simp only [World.cell?, hb]
  exact hc
def conduitlaw02_awake.f : Option (Bool) := (sums_Crc.f (([49, 50, 51, 52, 53, 54, 55, 56, 57] : List Int))).bind fun t109 => (some (t109 == 3808858755))
set_option maxHeartbeats 1600000 in
theorem conduitlaw02_awake.calls (r : Bool) (w : World) (h : conduitlaw02_awake.f = some r) : Calls Try.prog 17 #[] w fun e w' => e = .returned (.bool r) ∧ Below w.heap.size w w' := by
  obtain ⟨t, h1, h2⟩ := Option.bind_eq_some_iff.mp h
  have H1 := Aside0.mk h1
  have H2 := Aside0.mk (Option.some.inj h2)
  clear h h1 h2
  have kc := fun (w : World) (C : Array Value) (n c : Nat) => Lib.run_convert_bytes_const (P := Try.prog) w 26 5 C n c Try.underlying26 Try.underlying5
  go_enter Try.func17, Try.ntmps17
  go_wp2_with fail
  refine (sums_Crc.calls _ 9 [49, 50, 51, 52, 53, 54, 55, 56, 57] t _ (lit_marked _ _ _ _ [49, 50, 51, 52, 53, 54, 55, 56, 57] rfl (by decide)) (by decide) H1.out).mono ?_
  rintro e w' ⟨rfl, hb⟩
  go_wp2
  go_ret
  exact ⟨congrArg (fun z => Ending.returned (.bool z)) H2.out, ((Below.refl _ _).alloc (Nat.le_refl _) _).trans (hb.mono (by simp))⟩


end Go.Proofs.Ytpoladincbkgiaa.M
