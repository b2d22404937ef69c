/- Functions of the program as Lean functions, each with a proof that the Go code answers just so; written by a program of this session (mkprint.py). No conditions. -/
import Derived.Test.YtpoladincbkgiaaMx0
import Derived.Test.YtpoladincbkgiaaMx1
namespace Go.Proofs.Ytpoladincbkgiaa.M
open Go.RowKit Go.Proofs.YtpoladincbkgiaaW.PrintWords Go.Proofs.YtpoladincbkgiaaW.PrintLast Go.Proofs.YtpoladincbkgiaaW.PrintMore
attribute [local go_sem] max2_int min2_int max_two min_two max_three min_three max_four min_four   -- for this text's walks alone
set_option linter.unusedVariables false
set_option linter.unusedSimpArgs false

/-! ### conduitref02_More: function 19 -/
mutual
def conduitref02_More.l0 : Nat → List Int → Int → Int → Option (Int)
  | 0, _, _, _ => none
  | k + 1, x1, x5, x6 => if x6 < (x1.length : Int) then (conduitref02_More.l1 k x1 x5 x6 0) else (some ((4294967295 - x5) % 4294967296))
def conduitref02_More.l1 : Nat → List Int → Int → Int → Int → Option (Int)
  | 0, _, _, _, _ => none
  | k + 1, x1, x5, x6, x7 => if x7 < 8 then (if 0 ≤ x6 then (if x6 < (x1.length : Int) then (if 0 ≤ (IntKind.u64.wrap (x7)) then (if ((shr .u32 ((rd x1 x6) % 4294967296) (IntKind.u64.wrap (x7))) % 2) = (Int.tmod x5 2) then (conduitref02_More.l1 k x1 ((Int.tdiv x5 2) % 4294967296) x6 (wrap64 (x7 + 1))) else (conduitref02_More.l1 k x1 (Go.bits .xor .u32 ((Int.tdiv x5 2) % 4294967296) 2197175160) x6 (wrap64 (x7 + 1)))) else (none)) else (none)) else (none)) else (conduitref02_More.l0 k x1 x5 (wrap64 (x6 + 1)))
end
def conduitref02_More.f (k : Nat) (a0 : Int) (l1 : List Int) : Option (Int) := conduitref02_More.l0 k l1 ((4294967295 - a0) % 4294967296) 0
theorem conduitref02_More.mono_l : ∀ k, (∀ y0 y1 y2, LeO (conduitref02_More.l0 k y0 y1 y2) (conduitref02_More.l0 (k + 1) y0 y1 y2)) ∧ (∀ y0 y1 y2 y3, LeO (conduitref02_More.l1 k y0 y1 y2 y3) (conduitref02_More.l1 (k + 1) y0 y1 y2 y3))
  | 0 => ⟨fun _ _ _ r h => by simp [conduitref02_More.l0] at h, fun _ _ _ _ r h => by simp [conduitref02_More.l1] at h⟩
  | k + 1 => by
    obtain ⟨ih0, ih1⟩ := conduitref02_More.mono_l k
    refine ⟨?_, ?_⟩
    · intro y0 y1 y2
      unfold conduitref02_More.l0
      repeat' first
      | (with_reducible exact ih0 _ _ _)
      | (with_reducible exact ih1 _ _ _ _)
      | (with_reducible exact LeO.refl _)
      | (with_reducible exact LeO.none _)
      | (with_reducible refine LeO.ite ?_ ?_)
      | (with_reducible refine LeO.bind ?_ (fun _ => ?_))
      | exact ih0 _ _ _
      | exact ih1 _ _ _ _
      | exact LeO.none _
      | refine LeO.ite ?_ ?_
      | refine LeO.bind ?_ (fun _ => ?_)
    · intro y0 y1 y2 y3
      unfold conduitref02_More.l1
      repeat' first
      | (with_reducible exact ih0 _ _ _)
      | (with_reducible exact ih1 _ _ _ _)
      | (with_reducible exact LeO.refl _)
      | (with_reducible exact LeO.none _)
      | (with_reducible refine LeO.ite ?_ ?_)
      | (with_reducible refine LeO.bind ?_ (fun _ => ?_))
      | exact ih0 _ _ _
      | exact ih1 _ _ _ _
      | exact LeO.none _
      | refine LeO.ite ?_ ?_
      | refine LeO.bind ?_ (fun _ => ?_)
theorem conduitref02_More.mono : ∀ a0 a1 k, LeO (conduitref02_More.f k a0 a1) (conduitref02_More.f (k + 1) a0 a1) := by
  intro a0 a1 k
  obtain ⟨ih0, ih1⟩ := conduitref02_More.mono_l k
  unfold conduitref02_More.f
  repeat' first
      | (with_reducible exact ih0 _ _ _)
      | (with_reducible exact ih1 _ _ _ _)
      | (with_reducible exact LeO.refl _)
      | (with_reducible exact LeO.none _)
      | (with_reducible refine LeO.ite ?_ ?_)
      | (with_reducible refine LeO.bind ?_ (fun _ => ?_))
      | exact ih0 _ _ _
      | exact ih1 _ _ _ _
      | exact LeO.none _
      | refine LeO.ite ?_ ?_
      | refine LeO.bind ?_ (fun _ => ?_)
set_option maxHeartbeats 8000000 in
set_option maxRecDepth 100000 in
theorem conduitref02_More.calls (k : Nat) (a0 : Int) (A1 : Option Addr) (c1 : Nat) (l1 : List Int) (r : Int) (w : World) (hr1 : Kd.C (Kd.int .u8) w A1 l1.length l1) (hc1 : l1.length ≤ c1) (h : conduitref02_More.f k a0 l1 = some r) :
    Calls Try.prog 19 #[.int .u32 a0, .slice A1 l1.length c1] w fun e w' => e = .returned (.int .u32 r) ∧ Drawn0 w w' := by
  have HR1 := Aside0.mk hr1
  have HC1 := Aside0.mk hc1
  clear hr1 hc1
  have H : (conduitref02_More.l0 k l1 ((4294967295 - a0) % 4294967296) 0) = some r := h
  clear h
  have H' := Aside0.mk H
  clear H
  go_enter Try.func19, Try.ntmps19
  go_wp2
  go_loopg [5, 6] k (fun kq v5 v6 w' => ∃ (x5_1 : Int) (x6_1 : Int), v5 = .int .u32 x5_1 ∧ v6 = .int .i64 x6_1 ∧ Aside0 (conduitref02_More.l0 kq l1 x5_1 x6_1 = some r) ∧ Aside0 (kq ≤ k) ∧ Drawn0 w w')
  case atStart => exact ⟨((4294967295 - a0) % 4294967296), (0), (by first | rfl | (simp; done) | (simp [*]; done)), (by first | rfl | (simp; done) | (simp [*]; done)), H', ⟨Nat.le_refl _⟩, by repeat (first | exact Drawn0.refl _ | apply Drawn0.step)⟩
  case round =>
    clear H'
    try clear c1
    try clear p2
    obtain ⟨x5_1, x6_1, rfl, rfl, HA, HK1, ⟨m1, rfl⟩⟩ := hrel
    cases gk with
    | zero => exact absurd HA.out (by simp [conduitref02_More.l0])
    | succ k1 =>
      have H := HA.out
      clear HA
      simp only [conduitref02_More.l0] at H
      by_cases c3 : x6_1 < (l1.length : Int)
      · rw [if_pos c3] at H
        have c3b0 : decide (x6_1 < (l1.length : Int)) = true := decide_eq_true c3
        clear c3
        have H' := Aside0.mk H
        clear H
        go_wp2
        go_loopg [5, 7] k1 (fun kq v5 v7 w' => ∃ (x5_2 : Int) (x7_2 : Int), v5 = .int .u32 x5_2 ∧ v7 = .int .i64 x7_2 ∧ Aside0 (conduitref02_More.l1 kq l1 x5_2 x6_1 x7_2 = some r) ∧ Aside0 (kq ≤ k1) ∧ Drawn0 w w')
        case atStart => exact ⟨(x5_1), (0), (by first | rfl | (simp; done) | (simp [*]; done)), (by first | rfl | (simp; done) | (simp [*]; done)), H', ⟨Nat.le_refl _⟩, by repeat (first | exact Drawn0.refl _ | apply Drawn0.step)⟩
        case round =>
          clear H'
          try clear c1
          try clear p2
          try clear c3
          try clear c3b0
          try clear p2
          obtain ⟨x5_2, x7_2, rfl, rfl, HA, HK2, ⟨m2, rfl⟩⟩ := hrel
          cases gk with
          | zero => exact absurd HA.out (by simp [conduitref02_More.l1])
          | succ k2 =>
            have H := HA.out
            clear HA
            simp only [conduitref02_More.l1] at H
            by_cases c4 : x7_2 < 8
            · rw [if_pos c4] at H
              have c4b0 : decide (x7_2 < 8) = true := decide_eq_true c4
              clear c4
              by_cases c5 : 0 ≤ x6_1
              · rw [if_pos c5] at H
                have c5b0 : decide (0 ≤ x6_1) = true := decide_eq_true c5
                clear c5
                by_cases c6 : x6_1 < (l1.length : Int)
                · rw [if_pos c6] at H
                  have c6b0 : decide (x6_1 < (l1.length : Int)) = true := decide_eq_true c6
                  clear c6
                  obtain ⟨ji7, hji7⟩ : ∃ j_ : Int, (IntKind.u64.wrap (x7_2)) = j_ := ⟨_, rfl⟩
                  replace H : (if 0 ≤ (ji7) then (if ((shr .u32 ((rd l1 x6_1) % 4294967296) (ji7)) % 2) = (Int.tmod x5_2 2) then (conduitref02_More.l1 k2 l1 ((Int.tdiv x5_2 2) % 4294967296) x6_1 (wrap64 (x7_2 + 1))) else (conduitref02_More.l1 k2 l1 (Go.bits .xor .u32 ((Int.tdiv x5_2 2) % 4294967296) 2197175160) x6_1 (wrap64 (x7_2 + 1)))) else (none)) = some r := by first | (rw [hji7] at H; exact H) | (simp only [hji7] at H ⊢; exact H)
                  by_cases c8 : 0 ≤ (ji7)
                  · rw [if_pos c8] at H
                    have c8b0 := eq_true c8
                    have c8b1 : decide (0 ≤ (ji7)) = true := decide_eq_true c8
                    clear c8
                    obtain ⟨ji9, hji9⟩ : ∃ j_ : Int, (shr .u32 ((rd l1 x6_1) % 4294967296) (ji7)) = j_ := ⟨_, rfl⟩
                    replace H : (if ((ji9) % 2) = (Int.tmod x5_2 2) then (conduitref02_More.l1 k2 l1 ((Int.tdiv x5_2 2) % 4294967296) x6_1 (wrap64 (x7_2 + 1))) else (conduitref02_More.l1 k2 l1 (Go.bits .xor .u32 ((Int.tdiv x5_2 2) % 4294967296) 2197175160) x6_1 (wrap64 (x7_2 + 1)))) = some r := by first | (rw [hji9] at H; exact H) | (simp only [hji9] at H ⊢; exact H)
                    have hji9_ : (((rd l1 x6_1) % 4294967296) / 2 ^ min (ji7).toNat 32) = ji9 := hji9
                    have hji9z : (ji7) ≤ 32 → (((rd l1 x6_1) % 4294967296) / 2 ^ (ji7).toNat) = ji9 := shr_small hji9
                    (try have hji90 : 0 ≤ ji9 := by rw [← hji9]; exact Int.ediv_nonneg (by omega) (Int.pow_nonneg (by decide)))
                    by_cases c10 : ((ji9) % 2) = (Int.tmod x5_2 2)
                    · rw [if_pos c10] at H
                      have c10b0 : (((ji9) % 2) == (Int.tmod x5_2 2)) = true := beq_iff_eq.mpr c10
                      have c10b1 : (((ji9) % 2) != (Int.tmod x5_2 2)) = false := bne_eq_false_iff_eq.mpr c10
                      clear c10
                      have H' := Aside0.mk H
                      clear H
                      have p170 : 0 ≤ (x6_1 : Int) := of_decide_eq_true (by first | (with_reducible assumption) | assumption)
                      have q170 : x6_1 < (l1.length : Int) := of_decide_eq_true (by first | (with_reducible assumption) | assumption)
                      obtain ⟨ad170, e170, hx170_0⟩ := Kd.at_int HR1.out x6_1 p170 q170
                      cases e170
                      replace p170 := eq_true p170
                      replace q170 := eq_true q170
                      go_wp2
                      go_roundg k2
                      case measure => have := HK1.out; have := HK2.out; omega
                      case rel => exact ⟨((Int.tdiv x5_2 2) % 4294967296), (wrap64 (x7_2 + 1)), (by first | rfl | (simp; done) | (simp [*]; done)), (by first | rfl | (simp; done) | (simp [*]; done)), H', ⟨by have := HK1.out; have := HK2.out; omega⟩, by repeat (first | exact Drawn0.refl _ | apply Drawn0.step)⟩
                    · rw [if_neg c10] at H
                      have c10b0 : (((ji9) % 2) == (Int.tmod x5_2 2)) = false := beq_eq_false_iff_ne.mpr c10
                      have c10b1 : (((ji9) % 2) != (Int.tmod x5_2 2)) = true := bne_iff_ne.mpr c10
                      have H' := Aside0.mk H
                      clear H
                      have p170 : 0 ≤ (x6_1 : Int) := of_decide_eq_true (by first | (with_reducible assumption) | assumption)
                      have q170 : x6_1 < (l1.length : Int) := of_decide_eq_true (by first | (with_reducible assumption) | assumption)
                      obtain ⟨ad170, e170, hx170_0⟩ := Kd.at_int HR1.out x6_1 p170 q170
                      cases e170
                      replace p170 := eq_true p170
                      replace q170 := eq_true q170
                      go_wp2
                      go_roundg k2
                      case measure => have := HK1.out; have := HK2.out; omega
                      case rel => exact ⟨(Go.bits .xor .u32 ((Int.tdiv x5_2 2) % 4294967296) 2197175160), (wrap64 (x7_2 + 1)), (by first | rfl | (simp; done) | (simp [*]; done)), (by first | rfl | (simp; done) | (simp [*]; done)), H', ⟨by have := HK1.out; have := HK2.out; omega⟩, by repeat (first | exact Drawn0.refl _ | apply Drawn0.step)⟩
                  · rw [if_neg c8] at H
                    exact absurd H (by simp)
                · rw [if_neg c6] at H
                  exact absurd H (by simp)
              · rw [if_neg c5] at H
                exact absurd H (by simp)
            · rw [if_neg c4] at H
              have c4b0 : decide (x7_2 < 8) = false := decide_eq_false c4
              clear c4
              have H' := Aside0.mk H
              clear H
              go_wp2
              go_roundg k2
              case measure => have := HK1.out; have := HK2.out; omega
              case rel => exact ⟨(x5_2), (wrap64 (x6_1 + 1)), (by first | rfl | (simp; done) | (simp [*]; done)), (by first | rfl | (simp; done) | (simp [*]; done)), H', ⟨by have := HK1.out; have := HK2.out; omega⟩, by repeat (first | exact Drawn0.refl _ | apply Drawn0.step)⟩
      · rw [if_neg c3] at H
        have c3b0 : decide (x6_1 < (l1.length : Int)) = false := decide_eq_false c3
        clear c3
        obtain rfl := Option.some.inj H
        go_wp2
        go_ret
        exact ⟨by first | rfl | (simp; done) | (simp [*]; done), by repeat (first | exact Drawn0.refl _ | apply Drawn0.step)⟩

/-! ### conduitlow_SameBytes: function 22 -/
def conduitlow_SameBytes.f (l0 : List Int) (l1 : List Int) : Option (Bool) := some ((strOfNums l0).toList == (strOfNums l1).toList)
set_option maxHeartbeats 8000000 in
set_option maxRecDepth 100000 in
theorem conduitlow_SameBytes.calls (A0 : Option Addr) (c0 : Nat) (l0 : List Int) (A1 : Option Addr) (c1 : Nat) (l1 : List Int) (r : Bool) (w : World) (hr0 : Kd.C (Kd.int .u8) w A0 l0.length l0) (hc0 : l0.length ≤ c0) (hr1 : Kd.C (Kd.int .u8) w A1 l1.length l1) (hc1 : l1.length ≤ c1) (h : conduitlow_SameBytes.f l0 l1 = some r) :
    Calls Try.prog 22 #[.slice A0 l0.length c0, .slice A1 l1.length c1] w fun e w' => e = .returned (.bool r) ∧ Drawn0 w w' := by
  have HR0 := Aside0.mk hr0
  have HC0 := Aside0.mk hc0
  clear hr0 hc0
  have HR1 := Aside0.mk hr1
  have HC1 := Aside0.mk hc1
  clear hr1 hc1
  have H : (some ((strOfNums l0).toList == (strOfNums l1).toList)) = some r := h
  clear h
  obtain rfl := Option.some.inj H
  have hcv3 := Kd.C_string (P := Try.prog) (A := A0) (c := c0) Try.underlying26 Try.underlying5 Try.underlying9 HR0.out
  have hcv4 := Kd.C_string (P := Try.prog) (A := A1) (c := c1) Try.underlying26 Try.underlying5 Try.underlying9 HR1.out
  go_enter Try.func22, Try.ntmps22
  go_wp2
  go_ret
  exact ⟨by first | rfl | (simp; done) | (simp [*]; done), by repeat (first | exact Drawn0.refl _ | apply Drawn0.step)⟩

/-! ### conduitlow_KeptBytes: function 20 -/
/-- A cut that ends behind the end, in the room. -/
theorem cut_room {P : Program} {W : World} (t e : TypeId) (kl : IntKind) {i : TypeInfo} (ht : P.underlying t = some (.slice e)) (hi : P.info? e = some i) (hsz : i.size = 1) (A : Option Addr) (n c : Nat) (j : Int) (h0 : 0 ≤ j) (hm : j ≤ c) :
    (Instr.slice t (.slice A n c) none (some (.int kl j)) none).run P W = .ok (.slice A j.toNat c) W := by
  have hel : P.elem t = e := by simp [Program.elem, ht]
  have hu : P.underlying t = some (.slice (P.elem t)) := by rw [hel]; exact ht
  have ha : (A.map fun x => x.add 0) = A := by cases A <;> simp [Addr.add]
  rw [run_slice_h W t A n c hu kl j h0 hm, hel]
  simp [sizeOf, typeInfo, hi, hsz, sliced, Result.andThen, ha]
/-- What was lent stands as it was, its marks too. -/
theorem conduitlow_KeptBytes.kept (g c0 : Nat) (A1 : Option Addr) (c1 : Nat) (l : List Int) (w : World) (hr0 : Kd.C (Kd.int .u8) w (some ⟨g, 0, none⟩) (l ++ [77, 78, 79]).length (l ++ [77, 78, 79])) (hc0 : l.length + 3 ≤ c0) (hr1 : Kd.C (Kd.int .u8) w A1 l.length l) (hc1 : l.length ≤ c1) (hm : l.length ≤ 140737488351232) :
    Calls Try.prog 20 #[.slice (some ⟨g, 0, none⟩) l.length c0, .slice A1 l.length c1] w fun e w' => e = .returned (.bool true) ∧ Below w.heap.size w w' := by
  have hq : (l ++ [77, 78, 79]).length = l.length + 3 := by simp
  have hat : ∀ j x, j < 3 → (l ++ [77, 78, 79])[l.length + j]? = some x → w.cell? ⟨g, l.length + j, none⟩ = some (.int .u8 x) := by
    intro j x hj hx
    obtain ⟨ad, e, hcell⟩ := Kd.at_int hr0 ((l.length + j : Nat) : Int) (by omega) (by omega)
    injection e with e
    subst e
    have hrd : rd (l ++ [77, 78, 79]) ((l.length + j : Nat) : Int) = x := by
      unfold rd
      rw [Int.toNat_natCast, List.getD_eq_getElem?_getD, hx]
      rfl
    rw [hrd, Int.toNat_natCast, add_plain] at hcell
    exact hcell
  have c7 := Aside0.mk (hat 0 77 (by omega) (by simp))
  have c8 := Aside0.mk (hat 1 78 (by omega) (by simp))
  have c9 := Aside0.mk (hat 2 79 (by omega) (by simp))
  clear hat
  have HR0 : Aside0 (Kd.C (Kd.int .u8) w (some ⟨g, 0, none⟩) l.length l) := ⟨by
    have h := Kd.C_take (m := l.length) hr0 (by omega)
    rwa [List.take_left] at h⟩
  have HR1 := Aside0.mk hr1
  have HC0 : Aside0 (l.length ≤ c0) := ⟨by omega⟩
  have HC1 := Aside0.mk hc1
  obtain ⟨i0, hi0, _, hsz0, _⟩ := info_parts info5
  have hcut : ∀ W : World, (Instr.slice 26 (.slice (some ⟨g, 0, none⟩) l.length c0) none (some (.int .i64 ((l.length : Int) + 3))) none).run Try.prog W = .ok (.slice (some ⟨g, 0, none⟩) (l.length + 3) c0) W :=
    fun W => cut_room 26 5 .i64 Try.underlying26 hi0 hsz0 (some ⟨g, 0, none⟩) l.length c0 ((l.length : Int) + 3) (by omega) (by omega)
  clear hr0 hr1 hc0 hc1 hq hi0 hsz0
  have hf : Aside0 (conduitlow_SameBytes.f l l = some true) := ⟨by simp [conduitlow_SameBytes.f]⟩
  go_enter Try.func20, Try.ntmps20
  go_wp2_with fail
  refine (conduitlow_SameBytes.calls _ _ l _ _ l true _ HR0.out HC0.out HR1.out HC1.out hf.out).mono ?_
  rintro e w1 ⟨rfl, q1⟩
  have b1 := q1.below
  clear q1
  have d7 := pw_cell_below b1 c7.out
  have d8 := pw_cell_below b1 c8.out
  have d9 := pw_cell_below b1 c9.out
  have B1 := Aside0.mk b1
  clear b1
  simp only [Nat.add_zero] at d7
  go_wp2
  go_ret
  exact ⟨rfl, B1.out⟩


/-! ### conduitlaw02_SumsTells: function 5 -/
/-- The four sums, as numbers. -/
def conduitlaw02_SumsTells.Pure : Prop := ∀ (a0 : Int) (l : List Int), (Lit.int .u32 a0).wf = true → l.length * 1 ≤ 140737488351232 → (∀ x ∈ l, (Lit.int .u8 x).wf = true) →
  conduitlaw02_awake.f = some true ∧ (l.length ≤ 20000 → ∃ k s t, sums_Crc.f l = some s ∧ conduitref02_More.f k 0 l = some s ∧ sums_More.f a0 l = some t ∧ conduitref02_More.f k a0 l = some t)
set_option maxHeartbeats 1600000 in
theorem conduitlaw02_SumsTells.walk (P : conduitlaw02_SumsTells.Pure) (a0 : Int) (a1 : Option Addr) (len1 cap1 : Nat) (z1 : List Int) (w : World) (w0 : (Lit.int .u32 a0).wf = true) (w1 : (a1 = none ∧ len1 = 0 ∧ cap1 = 0 ∧ z1 = []) ∨ ∃ x, a1 = some x ∧ len1 ≤ cap1 ∧ cap1 ≤ maxLen ∧ z1.length = cap1 ∧ (∀ i, i < z1.length → w.cell? (x.add i) = some (.int .u8 (z1.getD i 0))) ∧ ∀ n ∈ z1, (Lit.int .u8 n).wf = true) (y1 : len1 * 1 ≤ 140737488351232) :
    Calls Try.prog 5 #[.int .u32 a0, .slice a1 len1 cap1] w fun e w' => e = .returned (.bool true) ∧ Below w.heap.size w w' := by
  obtain ⟨l, rfl, hr1, hm1, hw1, hc1⟩ := ReadsInt.ofRowC w1
  obtain ⟨pa, pn⟩ := P a0 l w0 y1 hw1
  have HA := Aside0.mk pa
  have HR := Aside0.mk (Kd.C_of_reads (d := (0 : Int)) (h1 := fun _ => rfl) hr1)
  have HC := Aside0.mk hc1
  have HL : Aside0 (l.length ≤ 140737488351232) := ⟨by omega⟩
  clear hr1 hw1 hc1 y1 hm1 w1 w0 pa
  by_cases hlen : l.length ≤ 20000
  · obtain ⟨k, s, t, p1, p2, p3, p4⟩ := pn hlen
    have P1 := Aside0.mk p1
    have P2 := Aside0.mk p2
    have P3 := Aside0.mk p3
    have P4 := Aside0.mk p4
    have hb0 : decide (20000 < (l.length : Int)) = false := decide_eq_false (by omega)
    have hb1 : decide (20000 < l.length) = false := decide_eq_false (by omega)
    clear pn p1 p2 p3 p4 hlen
    go_enter Try.func5, Try.ntmps5
    go_wp2_with fail
    refine (conduitlow_LentBytes.lent _ _ l _ HR.out HC.out HL.out).mono ?_
    rintro e w1 ⟨g, c, rfl, ho, b⟩
    obtain ⟨hcn, hcc, hin⟩ := Kd.R_reads' ho
    have HC2 : Aside0 (l.length + 3 ≤ c) := ⟨hcc⟩
    have HC3 : Aside0 (l.length ≤ c) := ⟨by omega⟩
    have HI : Aside0 (Kd.C (Kd.int .u8) w1 (some ⟨g, 0, none⟩) l.length l) := ⟨by
      have h := Kd.C_take (m := l.length) hin (by simp)
      rwa [List.take_left] at h⟩
    have HF := Aside0.mk hin
    have HR1 := Aside0.mk (Kd.C_below HR.out b)
    have B1 := Aside0.mk b
    clear ho b hcn hcc hin HR
    go_wp2_with fail
    refine (sums_Crc.calls _ _ l s _ HI.out HC3.out P1.out).mono ?_
    rintro e w2 ⟨rfl, b⟩
    have HI2 := Aside0.mk (Kd.C_below HI.out b)
    have HF2 := Aside0.mk (Kd.C_below HF.out b)
    have HR2 := Aside0.mk (Kd.C_below HR1.out b)
    have B2 := Aside0.mk (below_then B1.out B1.out.size b)
    clear b HI HF HR1 B1 P1
    go_wp2_with fail
    refine (conduitref02_More.calls k _ _ _ l s _ HR2.out HC.out P2.out).mono ?_
    rintro e w3 ⟨rfl, q⟩
    have b := q.below
    have HI3 := Aside0.mk (Kd.C_below HI2.out b)
    have HF3 := Aside0.mk (Kd.C_below HF2.out b)
    have HR3 := Aside0.mk (Kd.C_below HR2.out b)
    have B3 := Aside0.mk (below_then B2.out B2.out.size b)
    clear q b HI2 HF2 HR2 B2 P2
    go_wp2_with fail
    refine (sums_More.calls _ _ _ l t _ HI3.out HC3.out P3.out).mono ?_
    rintro e w4 ⟨rfl, b⟩
    have HI4 := Aside0.mk (Kd.C_below HI3.out b)
    have HF4 := Aside0.mk (Kd.C_below HF3.out b)
    have HR4 := Aside0.mk (Kd.C_below HR3.out b)
    have B4 := Aside0.mk (below_then B3.out B3.out.size b)
    clear b HI3 HF3 HR3 B3 P3
    go_wp2_with fail
    refine (conduitref02_More.calls k _ _ _ l t _ HR4.out HC.out P4.out).mono ?_
    rintro e w5 ⟨rfl, q⟩
    have b := q.below
    have HI5 := Aside0.mk (Kd.C_below HI4.out b)
    have HF5 := Aside0.mk (Kd.C_below HF4.out b)
    have HR5 := Aside0.mk (Kd.C_below HR4.out b)
    have B5 := Aside0.mk (below_then B4.out B4.out.size b)
    clear q b HI4 HF4 HR4 B4 P4
    go_wp2_with fail
    refine (conduitlow_KeptBytes.kept g c _ _ l _ HF5.out HC2.out HR5.out HC.out HL.out).mono ?_
    rintro e w6 ⟨rfl, b⟩
    have B6 := Aside0.mk (below_then B5.out B5.out.size b)
    clear b HI5 HF5 HR5 B5
    go_wp2_with fail
    refine (conduitlaw02_awake.calls _ _ HA.out).mono ?_
    rintro e w7 ⟨rfl, b⟩
    have B7 := Aside0.mk (below_then B6.out B6.out.size b)
    clear b B6
    go_wp2
    go_ret
    exact ⟨rfl, B7.out⟩
  · have hb0 : decide (20000 < (l.length : Int)) = true := decide_eq_true (by omega)
    have hb1 : decide (20000 < l.length) = true := decide_eq_true (by omega)
    clear pn hlen
    go_enter Try.func5, Try.ntmps5
    go_wp2_with fail
    refine (conduitlaw02_awake.calls _ _ HA.out).mono ?_
    rintro e w1 ⟨rfl, b⟩
    have B1 := Aside0.mk b
    clear b
    go_wp2
    go_ret
    exact ⟨rfl, B1.out⟩


/-! ### conduitlaw02_SumsBursts: function 6 -/
mutual
def conduitlaw02_SumsBursts.j0 : Nat → List Int → Int → Int → Bool → Option (Bool)
  | 0, _, _, _, _ => none
  | k + 1, x0, x1, x2, x16 => if x16 = true then ((conduitlaw02_awake.f).bind fun t171 => (some t171)) else ((conduitlow_Pick.f x1 (x0.length : Int)).bind fun t172 => ((conduitlow_CopyBytes.f x0).bind fun t173 => (conduitlaw02_SumsBursts.l0 k x0 t172 x2 t173 0)))
def conduitlaw02_SumsBursts.j2 : Nat → List Int → List Int → Option (Bool)
  | 0, _, _ => none
  | k + 1, x0, x7 => (sums_Crc.f x0).bind fun t178 => ((sums_Crc.f x7).bind fun t179 => ((conduitlow_SameBytes.f x0 x7).bind fun t180 => (if ((t178 == t179) == t180) = true then ((conduitlaw02_awake.f).bind fun t181 => (some t181)) else (some false))))
def conduitlaw02_SumsBursts.l0 : Nat → List Int → Int → Int → List Int → Int → Option (Bool)
  | 0, _, _, _, _, _ => none
  | k + 1, x0, x1, x2, x7, x8 => if x8 < 4 then (if (wrap64 (x1 + x8)) < (x0.length : Int) then (if 0 ≤ (wrap64 (x1 + x8)) then (if (wrap64 (x1 + x8)) < (x7.length : Int) then (if 0 ≤ (IntKind.u64.wrap (wrap64 (8 * x8))) then (conduitlaw02_SumsBursts.l0 k x0 x1 x2 (x7.set ((wrap64 (x1 + x8)) : Int).toNat (Go.bits .xor .u8 (rd x7 (wrap64 (x1 + x8))) ((shr .u32 x2 (IntKind.u64.wrap (wrap64 (8 * x8)))) % 256))) (wrap64 (x8 + 1))) else (none)) else (none)) else (none)) else (conduitlaw02_SumsBursts.j2 k x0 x7)) else (conduitlaw02_SumsBursts.j2 k x0 x7)
end
def conduitlaw02_SumsBursts.f (k : Nat) (l0 : List Int) (a1 : Int) (a2 : Int) : Option (Bool) := if (l0.length : Int) > 20000 then (conduitlaw02_SumsBursts.j0 k l0 a1 a2 true) else (conduitlaw02_SumsBursts.j0 k l0 a1 a2 ((l0.length : Int) == 0))
theorem conduitlaw02_SumsBursts.mono_l : ∀ k, (∀ y0 y1 y2 y3, LeO (conduitlaw02_SumsBursts.j0 k y0 y1 y2 y3) (conduitlaw02_SumsBursts.j0 (k + 1) y0 y1 y2 y3)) ∧ (∀ y0 y1, LeO (conduitlaw02_SumsBursts.j2 k y0 y1) (conduitlaw02_SumsBursts.j2 (k + 1) y0 y1)) ∧ (∀ y0 y1 y2 y3 y4, LeO (conduitlaw02_SumsBursts.l0 k y0 y1 y2 y3 y4) (conduitlaw02_SumsBursts.l0 (k + 1) y0 y1 y2 y3 y4))
  | 0 => ⟨fun _ _ _ _ r h => by simp [conduitlaw02_SumsBursts.j0] at h, fun _ _ r h => by simp [conduitlaw02_SumsBursts.j2] at h, fun _ _ _ _ _ r h => by simp [conduitlaw02_SumsBursts.l0] at h⟩
  | k + 1 => by
    obtain ⟨ih0, ih1, ih2⟩ := conduitlaw02_SumsBursts.mono_l k
    refine ⟨?_, ?_, ?_⟩
    · intro y0 y1 y2 y3
      unfold conduitlaw02_SumsBursts.j0
      repeat' first
      | (with_reducible exact ih0 _ _ _ _)
      | (with_reducible exact ih1 _ _)
      | (with_reducible exact ih2 _ _ _ _ _)
      | (with_reducible exact LeO.refl _)
      | (with_reducible exact LeO.none _)
      | (with_reducible refine LeO.ite ?_ ?_)
      | (with_reducible refine LeO.bind ?_ (fun _ => ?_))
      | exact ih0 _ _ _ _
      | exact ih1 _ _
      | exact ih2 _ _ _ _ _
      | exact LeO.none _
      | refine LeO.ite ?_ ?_
      | refine LeO.bind ?_ (fun _ => ?_)
    · intro y0 y1
      unfold conduitlaw02_SumsBursts.j2
      repeat' first
      | (with_reducible exact ih0 _ _ _ _)
      | (with_reducible exact ih1 _ _)
      | (with_reducible exact ih2 _ _ _ _ _)
      | (with_reducible exact LeO.refl _)
      | (with_reducible exact LeO.none _)
      | (with_reducible refine LeO.ite ?_ ?_)
      | (with_reducible refine LeO.bind ?_ (fun _ => ?_))
      | exact ih0 _ _ _ _
      | exact ih1 _ _
      | exact ih2 _ _ _ _ _
      | exact LeO.none _
      | refine LeO.ite ?_ ?_
      | refine LeO.bind ?_ (fun _ => ?_)
    · intro y0 y1 y2 y3 y4
      unfold conduitlaw02_SumsBursts.l0
      repeat' first
      | (with_reducible exact ih0 _ _ _ _)
      | (with_reducible exact ih1 _ _)
      | (with_reducible exact ih2 _ _ _ _ _)
      | (with_reducible exact LeO.refl _)
      | (with_reducible exact LeO.none _)
      | (with_reducible refine LeO.ite ?_ ?_)
      | (with_reducible refine LeO.bind ?_ (fun _ => ?_))
      | exact ih0 _ _ _ _
      | exact ih1 _ _
      | exact ih2 _ _ _ _ _
      | exact LeO.none _
      | refine LeO.ite ?_ ?_
      | refine LeO.bind ?_ (fun _ => ?_)
theorem conduitlaw02_SumsBursts.mono : ∀ a0 a1 a2 k, LeO (conduitlaw02_SumsBursts.f k a0 a1 a2) (conduitlaw02_SumsBursts.f (k + 1) a0 a1 a2) := by
  intro a0 a1 a2 k
  obtain ⟨ih0, ih1, ih2⟩ := conduitlaw02_SumsBursts.mono_l k
  unfold conduitlaw02_SumsBursts.f
  repeat' first
      | (with_reducible exact ih0 _ _ _ _)
      | (with_reducible exact ih1 _ _)
      | (with_reducible exact ih2 _ _ _ _ _)
      | (with_reducible exact LeO.refl _)
      | (with_reducible exact LeO.none _)
      | (with_reducible refine LeO.ite ?_ ?_)
      | (with_reducible refine LeO.bind ?_ (fun _ => ?_))
      | exact ih0 _ _ _ _
      | exact ih1 _ _
      | exact ih2 _ _ _ _ _
      | exact LeO.none _
      | refine LeO.ite ?_ ?_
      | refine LeO.bind ?_ (fun _ => ?_)
set_option maxHeartbeats 8000000 in
set_option maxRecDepth 100000 in
theorem conduitlaw02_SumsBursts.calls (k : Nat) (A0 : Option Addr) (c0 : Nat) (l0 : List Int) (a1 : Int) (a2 : Int) (r : Bool) (w : World) (hr0 : Kd.C (Kd.int .u8) w A0 l0.length l0) (hc0 : l0.length ≤ c0) (h : conduitlaw02_SumsBursts.f k l0 a1 a2 = some r) :
    Calls Try.prog 6 #[.slice A0 l0.length c0, .int .i64 a1, .int .u32 a2] w fun e w' => e = .returned (.bool r) ∧ Below w.heap.size w w' := by
  have HR0 := Aside0.mk hr0
  have HC0 := Aside0.mk hc0
  clear hr0 hc0
  have HB := Aside0.mk (Below.refl w.heap.size w)
  have H : (if (l0.length : Int) > 20000 then (conduitlaw02_SumsBursts.j0 k l0 a1 a2 true) else (conduitlaw02_SumsBursts.j0 k l0 a1 a2 ((l0.length : Int) == 0))) = some r := h
  clear h
  have HC4 := Aside0.mk H
  clear H
  go_enter Try.func6, Try.ntmps6
  go_upto_region 1 with (fail)
  go_cut [16] (fun v16 wc => ∃ (kq : Nat) (x16_3 : Bool), v16 = .bool x16_3 ∧ Aside0 (conduitlaw02_SumsBursts.j0 kq l0 a1 a2 x16_3 = some r) ∧ Aside0 (kq ≤ k) ∧ Aside0 (Below w.heap.size w wc))
  case first =>
    have H := HC4.out
    clear HC4
    by_cases c5 : (l0.length : Int) > 20000
    · rw [if_pos c5] at H
      have c5b0 : decide (20000 < (l0.length : Int)) = true := decide_eq_true c5
      have c5b1 : decide (20000 < l0.length) = true := decide_eq_true (by omega)
      clear c5
      (first | rw [c5b0] | (simp only [i64_w, i32_w]; rw [c5b0]) | skip)
      have H' := Aside0.mk H
      clear H
      go_wp2
      go_meet
      case rel => exact ⟨_, (true), (by first | rfl | (simp; done) | (simp [*]; done)), H', ⟨by first | omega | exact Nat.le_refl _⟩, ⟨by repeat (first | (with_reducible first | exact HB.out | apply below_alloc | apply pw_below_drewN | apply below_drew1) | exact HB.out)⟩⟩
    · rw [if_neg c5] at H
      have c5b0 : decide (20000 < (l0.length : Int)) = false := decide_eq_false c5
      have c5b1 : decide (20000 < l0.length) = false := decide_eq_false (by omega)
      clear c5
      (first | rw [c5b0] | (simp only [i64_w, i32_w]; rw [c5b0]) | skip)
      have H' := Aside0.mk H
      clear H
      go_wp2
      go_meet
      case rel => exact ⟨_, (((l0.length : Int) == 0)), (by first | rfl | (simp; done) | (simp [*]; done)), H', ⟨by first | omega | exact Nat.le_refl _⟩, ⟨by repeat (first | (with_reducible first | exact HB.out | apply below_alloc | apply pw_below_drewN | apply below_drew1) | exact HB.out)⟩⟩
  case rest =>
    clear HC4
    try clear p2
    try clear c5
    try clear c5b0
    try clear c5b1
    obtain ⟨kq, x16_3, rfl, HA, HJ3, HB⟩ := hcut
    cases kq with
    | zero => exact absurd HA.out (by simp [conduitlaw02_SumsBursts.j0])
    | succ kj3 =>
      have H := HA.out
      clear HA
      simp only [conduitlaw02_SumsBursts.j0] at H
      by_cases c6 : x16_3 = true
      · subst c6
        have H1 : ((conduitlaw02_awake.f).bind fun t171 => (some t171)) = some r := by rw [if_pos rfl] at H; exact H
        clear H
        have H := H1
        clear H1
        replace H := Option.bind_eq_some_iff.mp H
        obtain ⟨t171, A70, H⟩ := H
        replace H : (some t171) = some r := H
        have A7 := Aside0.mk A70
        clear A70
        obtain rfl := Option.some.inj H
        go_wp2_with (first | ((with_reducible refine gate_callee (f := 17) rfl ?_); refine goesL_ (some 17) rfl rfl Try.func17 (by kernel_rfl) rfl #[] rfl (by (try simp only [List.map_toArray, List.map_cons, List.map_nil]); first | done | rfl | (simp only [List.length_drop, List.length_take]; rfl)) ?_; (with_reducible refine (conduitlaw02_awake.calls  t171 _ A7.out).mono ?_); rintro e w8 ⟨rfl, hb⟩; refine ⟨_, rfl, ?_⟩; have n0_ := Aside0.mk (below_step (by repeat (first | (with_reducible first | exact HB.out | apply below_alloc | apply pw_below_drewN | apply below_drew1) | exact HB.out)) hb); clear HB; have HB := n0_; clear n0_; (try clear hb); (try clear hb2); (try clear hk); (try clear hi)))
        go_ret
        exact ⟨by first | rfl | (simp [errW_none, errW_some] <;> rfl) | (simp [*, errW_none, errW_some] <;> rfl), by repeat (first | (with_reducible first | exact HB.out | apply below_alloc | apply pw_below_drewN | apply below_drew1) | exact HB.out)⟩
      · replace c6 := Bool.eq_false_iff.mpr c6
        subst c6
        have H1 : ((conduitlow_Pick.f a1 (l0.length : Int)).bind fun t172 => ((conduitlow_CopyBytes.f l0).bind fun t173 => (conduitlaw02_SumsBursts.l0 kj3 l0 t172 a2 t173 0))) = some r := by rw [if_neg (show ¬ (false = true) by decide)] at H; exact H
        clear H
        have H := H1
        clear H1
        replace H := Option.bind_eq_some_iff.mp H
        obtain ⟨t172, A90, H⟩ := H
        replace H : ((conduitlow_CopyBytes.f l0).bind fun t173 => (conduitlaw02_SumsBursts.l0 kj3 l0 t172 a2 t173 0)) = some r := H
        have A9 := Aside0.mk A90
        clear A90
        replace H := Option.bind_eq_some_iff.mp H
        obtain ⟨t173, A100, H⟩ := H
        replace H : (conduitlaw02_SumsBursts.l0 kj3 l0 t172 a2 t173 0) = some r := H
        have A10 := Aside0.mk A100
        clear A100
        have HC11 := Aside0.mk H
        clear H
        go_upto_block 0 with (first | ((with_reducible refine gate_callee (f := 11) rfl ?_); refine goesL_ (some 21) rfl rfl Try.func11 (by kernel_rfl) rfl #[.int .i64 a1, .int .i64 (l0.length : Int)] rfl (by (try simp only [List.map_toArray, List.map_cons, List.map_nil]); first | done | rfl | (simp only [List.length_drop, List.length_take]; rfl)) ?_; (with_reducible refine (conduitlow_Pick.calls a1 (l0.length : Int) t172 _ A9.out).mono ?_); rintro e w' ⟨rfl, ⟨nd, rfl⟩⟩; refine ⟨_, rfl, ?_⟩) | ((with_reducible refine gate_callee (f := 21) rfl ?_); refine goesL_ (some 23) rfl rfl Try.func21 (by kernel_rfl) rfl #[.slice A0 l0.length c0] rfl (by (try simp only [List.map_toArray, List.map_cons, List.map_nil]); first | done | rfl | (simp only [List.length_drop, List.length_take]; rfl)) ?_; (with_reducible refine (conduitlow_CopyBytes.calls _ _ l0 t173 _ ?side1 ?side2 A10.out).mono ?_); (case side1 => repeat (first | exact (Kd.C_below HR0.out (by repeat (first | (with_reducible first | exact HB.out | apply below_alloc | apply pw_below_drewN | apply below_drew1) | exact HB.out))) | (with_reducible refine Kd.C_alloc ?_ _) | (with_reducible refine Kd.C_drewN ?_ _) | (with_reducible refine Kd.C_drew ?_))); (case side2 => exact HC0.out); rintro e w12 ⟨v174, rfl, ho0, hb⟩; refine ⟨_, rfl, ?_⟩; have n0_ := Aside0.mk (Kd.R_lower ho0 (below_size (by repeat (first | (with_reducible first | exact HB.out | apply below_alloc | apply pw_below_drewN | apply below_drew1) | exact HB.out)))); have n1_ := Aside0.mk (below_step (by repeat (first | (with_reducible first | exact HB.out | apply below_alloc | apply pw_below_drewN | apply below_drew1) | exact HB.out)) hb); clear HB; have HO175 := n0_; have HB := n1_; clear n0_ n1_; (try clear hb); (try clear hb2); (try clear hk); (try clear hi); (try clear ho0)))
        (try simp only [Act.put, List.setIfInBounds_toArray, List.set_cons_zero, List.set_cons_succ])
        go_cut [] (fun wc => ∃ (kq : Nat) (x7_10 : List Int), Aside0 (conduitlaw02_SumsBursts.j2 kq l0 x7_10 = some r) ∧ Aside0 (kq ≤ kj3) ∧ Aside0 (Kd.R (Kd.int .u8) 5 wc w.heap.size (fun _ => True) v174 x7_10) ∧ Aside0 (Below w.heap.size w wc))
        case first =>
          have H := HC11.out
          clear HC11
          have H' := Aside0.mk H
          clear H
          go_wp2
          go_loopg [8] kj3 (fun kq v8 w' => ∃ (x7_2 : List Int) (x8_2 : Int), v8 = .int .i64 x8_2 ∧ Aside0 (conduitlaw02_SumsBursts.l0 kq l0 t172 a2 x7_2 x8_2 = some r) ∧ Aside0 (kq ≤ kj3) ∧ Aside0 (Kd.R (Kd.int .u8) 5 w' w.heap.size (fun _ => True) v174 x7_2) ∧ Aside0 (Below w.heap.size w w'))
          case atStart => exact ⟨(t173), (0), (by first | rfl | (simp; done) | (simp [*]; done)), H', ⟨Nat.le_refl _⟩, ⟨by (with_reducible repeat (first | apply Kd.R_alloc | apply Kd.R_drewN | apply Kd.R_drew)); exact HO175.out⟩, ⟨by repeat (first | (with_reducible first | exact HB.out | apply below_alloc | apply pw_below_drewN | apply below_drew1) | exact HB.out)⟩⟩
          case round =>
            clear H'
            try clear c1
            try clear c2
            try clear p2
            try clear c5
            try clear c5b0
            try clear c5b1
            try clear c6
            try clear c11
            try clear p2
            obtain ⟨x7_2, x8_2, rfl, HA, HK2, HO_7, HB⟩ := hrel
            cases gk with
            | zero => exact absurd HA.out (by simp [conduitlaw02_SumsBursts.l0])
            | succ k2 =>
              have H := HA.out
              clear HA
              simp only [conduitlaw02_SumsBursts.l0] at H
              by_cases c13 : x8_2 < 4
              · rw [if_pos c13] at H
                have c13b0 : decide (x8_2 < 4) = true := decide_eq_true c13
                clear c13
                (first | rw [c13b0] | (simp only [i64_w, i32_w]; rw [c13b0]) | skip)
                by_cases c14 : (wrap64 (t172 + x8_2)) < (l0.length : Int)
                · rw [if_pos c14] at H
                  have c14b0 : decide ((wrap64 (t172 + x8_2)) < (l0.length : Int)) = true := decide_eq_true c14
                  clear c14
                  obtain ⟨ji15, hji15⟩ : ∃ j_ : Int, (wrap64 (t172 + x8_2)) = j_ := ⟨_, rfl⟩
                  replace H : (if 0 ≤ (ji15) then (if (ji15) < (x7_2.length : Int) then (if 0 ≤ (IntKind.u64.wrap (wrap64 (8 * x8_2))) then (conduitlaw02_SumsBursts.l0 k2 l0 t172 a2 (x7_2.set ((ji15) : Int).toNat (Go.bits .xor .u8 (rd x7_2 (ji15)) ((shr .u32 a2 (IntKind.u64.wrap (wrap64 (8 * x8_2)))) % 256))) (wrap64 (x8_2 + 1))) else (none)) else (none)) else (none)) = some r := by first | (rw [hji15] at H; exact H) | (simp only [hji15] at H ⊢; exact H)
                  (try rw [hji15] at c14b0)
                  have hji15w : (IntKind.i64.wrap (t172 + x8_2)) = ji15 := (i64_w _).trans hji15
                  by_cases c16 : 0 ≤ (ji15)
                  · rw [if_pos c16] at H
                    have c16b0 : decide (0 ≤ (ji15)) = true := decide_eq_true c16
                    clear c16
                    by_cases c17 : (ji15) < (x7_2.length : Int)
                    · rw [if_pos c17] at H
                      have c17b0 : decide ((ji15) < (x7_2.length : Int)) = true := decide_eq_true c17
                      clear c17
                      obtain ⟨ji18, hji18⟩ : ∃ j_ : Int, (IntKind.u64.wrap (wrap64 (8 * x8_2))) = j_ := ⟨_, rfl⟩
                      replace H : (if 0 ≤ (ji18) then (conduitlaw02_SumsBursts.l0 k2 l0 t172 a2 (x7_2.set ((ji15) : Int).toNat (Go.bits .xor .u8 (rd x7_2 (ji15)) ((shr .u32 a2 (ji18)) % 256))) (wrap64 (x8_2 + 1))) else (none)) = some r := by first | (rw [hji18] at H; exact H) | (simp only [hji18] at H ⊢; exact H)
                      by_cases c19 : 0 ≤ (ji18)
                      · rw [if_pos c19] at H
                        have c19b0 := eq_true c19
                        have c19b1 : decide (0 ≤ (ji18)) = true := decide_eq_true c19
                        clear c19
                        obtain ⟨ji20, hji20⟩ : ∃ j_ : Int, (shr .u32 a2 (ji18)) = j_ := ⟨_, rfl⟩
                        replace H : (conduitlaw02_SumsBursts.l0 k2 l0 t172 a2 (x7_2.set ((ji15) : Int).toNat (Go.bits .xor .u8 (rd x7_2 (ji15)) ((ji20) % 256))) (wrap64 (x8_2 + 1))) = some r := by first | (rw [hji20] at H; exact H) | (simp only [hji20] at H ⊢; exact H)
                        have hji20_ : (a2 / 2 ^ min (ji18).toNat 32) = ji20 := hji20
                        have hji20z : (ji18) ≤ 32 → (a2 / 2 ^ (ji18).toNat) = ji20 := shr_small hji20
                        (try have hji200 : 0 ≤ ji20 := by rw [← hji20]; exact Int.ediv_nonneg (by omega) (Int.pow_nonneg (by decide)))
                        obtain ⟨y177, hy177⟩ : ∃ y_ : List Int, y_ = (x7_2.set ((ji15) : Int).toNat (Go.bits .xor .u8 (rd x7_2 (ji15)) ((ji20) % 256))) := ⟨_, rfl⟩
                        replace H : (conduitlaw02_SumsBursts.l0 k2 l0 t172 a2 y177 (wrap64 (x8_2 + 1))) = some r := by first | (rw [hy177]; with_reducible exact H) | (have H2_ := (Option.bind_some _ _).symm.trans H; rw [hy177]; with_reducible exact H2_) | (have H2_ := (Option.bind_some _ _).symm.trans H; with_reducible exact H2_) | with_reducible exact H | (rw [hy177]; exact H) | exact H
                        have Ny177 := Aside0.mk hy177
                        clear hy177
                        have H' := Aside0.mk H
                        clear H
                        obtain ⟨Ao22, co22, eo22⟩ := Kd.R_slice HO_7.out
                        subst eo22
                        have p176 : 0 ≤ ((ji15) : Int) := of_decide_eq_true (by first | (with_reducible assumption) | assumption)
                        have q176 : (ji15) < (x7_2.length : Int) := of_decide_eq_true (by first | (with_reducible assumption) | assumption)
                        obtain ⟨ad176, e176, hx176_0⟩ := Kd.at_int (Kd.R_reads' HO_7.out).2.2 (ji15) p176 q176
                        cases e176
                        replace p176 := eq_true p176
                        replace q176 := eq_true q176
                        have p21 : 0 ≤ ((ji15) : Int) := of_decide_eq_true (by first | (with_reducible assumption) | assumption)
                        have q21 : ((ji15) : Int) < ((x7_2.length : Int) : Int) := of_decide_eq_true (by first | (with_reducible assumption) | assumption)
                        obtain ⟨go21, co21, eo21, gb21, gl21, cl21, HG21⟩ := Kd.R_form HO_7.out (by omega)
                        (first | cases eo21 | (injection eo21 with ea_ en_ ec_; (first | subst ea_ | (injection ea_ with ea_; subst ea_)); subst ec_; clear en_))
                        have GB21 := Aside0.mk gb21
                        have GG21 := Aside0.mk HG21
                        clear gb21 gl21 HG21
                        (first | simp only [add_plain] at hx176_0 | skip)
                        obtain ⟨hx21_0, hf21_0⟩ := Kd.R_celln 0 HO_7.out ((ji15) : Int) p21 q21
                        replace p21 := eq_true p21
                        replace q21 := eq_true q21
                        have HP23 := Kd.R_putg HO_7.out ((ji15) : Int) (Go.bits .xor .u8 (rd x7_2 (ji15)) ((ji20) % 256))
                        go_wp2_with (first | ((with_reducible refine gate_store (t := 5) (p := 53) rfl ?_); refine store_event (t := 5) (p := 53) (v := ?vo_w24) (w1 := (wr.setCell ⟨go21, ((ji15) : Int).toNat, none⟩ (.int .u8 (Go.bits .xor .u8 (rd x7_2 (ji15)) ((ji20) % 256))))) ?hg ?ho ?hn ?hr ?_; (case ho => rfl); (case hg => rfl); (case hn => rfl); (case hr => first | (go_simp; done) | (go_simp; rfl)); intro w24 hw; have hg : wr.grownBy w24 (some go21) := (by rw [hw]; exact HP23.2); have hp_ : Kd.R (Kd.int .u8) 5 w24 w.heap.size (fun _ => True) (.slice (some ⟨go21, 0, none⟩) x7_2.length co22) y177 := (by rw [hw, Ny177.out]; exact HP23.1); clear HP23; have n0_ := Aside0.mk (hp_); have n1_ := Aside0.mk ((by rw [hw]; exact below_set (HB.out) GB21.out : Below w.heap.size w w24)); clear HO_7; clear HB; have HO_7 := n0_; have HB := n1_; clear n0_ n1_; clear hg hw hp_))
                        go_roundg k2
                        case measure => have := HJ3.out; have := HK2.out; omega
                        case rel => exact ⟨(y177), (wrap64 (x8_2 + 1)), (by first | rfl | (simp; done) | (simp [*]; done)), H', ⟨by have := HJ3.out; have := HK2.out; omega⟩, ⟨by (with_reducible repeat (first | apply Kd.R_alloc | apply Kd.R_drewN | apply Kd.R_drew)); exact HO_7.out⟩, ⟨by repeat (first | (with_reducible first | exact HB.out | apply below_alloc | apply pw_below_drewN | apply below_drew1) | exact HB.out)⟩⟩
                      · rw [if_neg c19] at H
                        exact absurd H (by simp)
                    · rw [if_neg c17] at H
                      exact absurd H (by simp)
                  · rw [if_neg c16] at H
                    exact absurd H (by simp)
                · rw [if_neg c14] at H
                  have c14b0 : decide ((wrap64 (t172 + x8_2)) < (l0.length : Int)) = false := decide_eq_false c14
                  clear c14
                  have H' := Aside0.mk H
                  clear H
                  go_wp2
                  go_meet
                  case rel => exact ⟨_, (x7_2), H', ⟨by have := HJ3.out; have := HK2.out; first | omega | exact Nat.le_refl _⟩, ⟨by (with_reducible repeat (first | apply Kd.R_alloc | apply Kd.R_drewN | apply Kd.R_drew)); exact HO_7.out⟩, ⟨by repeat (first | (with_reducible first | exact HB.out | apply below_alloc | apply pw_below_drewN | apply below_drew1) | exact HB.out)⟩⟩
              · rw [if_neg c13] at H
                have c13b0 : decide (x8_2 < 4) = false := decide_eq_false c13
                clear c13
                (first | rw [c13b0] | (simp only [i64_w, i32_w]; rw [c13b0]) | skip)
                have H' := Aside0.mk H
                clear H
                go_wp2
                go_meet
                case rel => exact ⟨_, (x7_2), H', ⟨by have := HJ3.out; have := HK2.out; first | omega | exact Nat.le_refl _⟩, ⟨by (with_reducible repeat (first | apply Kd.R_alloc | apply Kd.R_drewN | apply Kd.R_drew)); exact HO_7.out⟩, ⟨by repeat (first | (with_reducible first | exact HB.out | apply below_alloc | apply pw_below_drewN | apply below_drew1) | exact HB.out)⟩⟩
        case rest =>
          clear HC11
          try clear c1
          try clear p1
          try clear q1
          try clear hx1
          try clear c2
          try clear p2
          try clear q2
          try clear hx2
          try clear c5
          try clear c5b0
          try clear c5b1
          try clear c6
          try clear p6
          try clear c11
          try clear c13
          try clear c13b0
          try clear c14
          try clear c14b0
          try clear c16
          try clear c16b0
          try clear c17
          try clear c17b0
          try clear p17
          try clear q17
          try clear hx17
          try clear c19
          try clear c19b0
          try clear c19b1
          try clear c21
          try clear p21
          try clear q21
          try clear hx21
          try clear hf21
          try clear hx176_0
          try clear hx21_0
          try clear p176
          try clear p2
          try clear p21
          try clear q176
          try clear q21
          obtain ⟨kq, x7_10, HA, HJ10, HO_7, HB⟩ := hcut
          cases kq with
          | zero => exact absurd HA.out (by simp [conduitlaw02_SumsBursts.j2])
          | succ kj10 =>
            have H := HA.out
            clear HA
            simp only [conduitlaw02_SumsBursts.j2] at H
            replace H := Option.bind_eq_some_iff.mp H
            obtain ⟨t178, A250, H⟩ := H
            replace H : ((sums_Crc.f x7_10).bind fun t179 => ((conduitlow_SameBytes.f l0 x7_10).bind fun t180 => (if ((t178 == t179) == t180) = true then ((conduitlaw02_awake.f).bind fun t181 => (some t181)) else (some false)))) = some r := H
            have A25 := Aside0.mk A250
            clear A250
            replace H := Option.bind_eq_some_iff.mp H
            obtain ⟨t179, A260, H⟩ := H
            replace H : ((conduitlow_SameBytes.f l0 x7_10).bind fun t180 => (if ((t178 == t179) == t180) = true then ((conduitlaw02_awake.f).bind fun t181 => (some t181)) else (some false))) = some r := H
            have A26 := Aside0.mk A260
            clear A260
            replace H := Option.bind_eq_some_iff.mp H
            obtain ⟨t180, A270, H⟩ := H
            replace H : (if ((t178 == t179) == t180) = true then ((conduitlaw02_awake.f).bind fun t181 => (some t181)) else (some false)) = some r := H
            have A27 := Aside0.mk A270
            clear A270
            by_cases c28 : ((t178 == t179) == t180) = true
            · rw [if_pos c28] at H
              have c28b0 : ((t178 == t179) == t180) = true := c28
              (try (have c28b1 : decide ((t178 == t179) = t180) = true := by simpa using c28))
              (try (have c28b2 : ((t178 == t179) == t180) = true := by simpa using c28))
              clear c28
              replace H := Option.bind_eq_some_iff.mp H
              obtain ⟨t181, A290, H⟩ := H
              replace H : (some t181) = some r := H
              have A29 := Aside0.mk A290
              clear A290
              obtain rfl := Option.some.inj H
              go_wp2_with (first | ((with_reducible refine gate_callee (f := 14) rfl ?_); refine goesL_ (some 55) rfl rfl Try.func14 (by kernel_rfl) rfl #[.slice A0 l0.length c0] rfl (by (try simp only [List.map_toArray, List.map_cons, List.map_nil]); first | done | rfl | (simp only [List.length_drop, List.length_take]; rfl)) ?_; (with_reducible refine (sums_Crc.calls _ _ l0 t178 _ ?side1 ?side2 A25.out).mono ?_); (case side1 => repeat (first | exact (Kd.C_below HR0.out HB.out) | (with_reducible refine Kd.C_alloc ?_ _) | (with_reducible refine Kd.C_drewN ?_ _) | (with_reducible refine Kd.C_drew ?_))); (case side2 => exact HC0.out); rintro e w30 ⟨rfl, hb⟩; refine ⟨_, rfl, ?_⟩; have n0_ := Aside0.mk (Kd.R_below (by (with_reducible repeat (first | apply Kd.R_alloc | apply Kd.R_drewN | apply Kd.R_drew)); exact HO_7.out) hb); have n1_ := Aside0.mk (below_step (by repeat (first | (with_reducible first | exact HB.out | apply below_alloc | apply pw_below_drewN | apply below_drew1) | exact HB.out)) hb); clear HO_7; clear HB; have HO_7 := n0_; have HB := n1_; clear n0_ n1_; (try clear hb); (try clear hb2); (try clear hk); (try clear hi); obtain ⟨Ao31, co31, eo31⟩ := Kd.R_slice HO_7.out; subst eo31) | ((with_reducible refine gate_callee (f := 14) rfl ?_); refine goesL_ (some 57) rfl rfl Try.func14 (by kernel_rfl) rfl #[.slice Ao31 x7_10.length co31] rfl (by (try simp only [List.map_toArray, List.map_cons, List.map_nil]); first | done | rfl | (simp only [List.length_drop, List.length_take]; rfl)) ?_; (with_reducible refine (sums_Crc.calls _ _ x7_10 t179 _ ?side1 ?side2 A26.out).mono ?_); (case side1 => repeat (first | exact (Kd.R_reads' HO_7.out).2.2 | (with_reducible refine Kd.C_alloc ?_ _) | (with_reducible refine Kd.C_drewN ?_ _) | (with_reducible refine Kd.C_drew ?_))); (case side2 => exact (Kd.R_reads' HO_7.out).2.1); rintro e w32 ⟨rfl, hb⟩; refine ⟨_, rfl, ?_⟩; have n0_ := Aside0.mk (Kd.R_below (by (with_reducible repeat (first | apply Kd.R_alloc | apply Kd.R_drewN | apply Kd.R_drew)); exact HO_7.out) hb); have n1_ := Aside0.mk (below_step (by repeat (first | (with_reducible first | exact HB.out | apply below_alloc | apply pw_below_drewN | apply below_drew1) | exact HB.out)) hb); clear HO_7; clear HB; have HO_7 := n0_; have HB := n1_; clear n0_ n1_; (try clear hb); (try clear hb2); (try clear hk); (try clear hi)) | ((with_reducible refine gate_callee (f := 22) rfl ?_); refine goesL_ (some 61) rfl rfl Try.func22 (by kernel_rfl) rfl #[.slice A0 l0.length c0, .slice Ao31 x7_10.length co31] rfl (by (try simp only [List.map_toArray, List.map_cons, List.map_nil]); first | done | rfl | (simp only [List.length_drop, List.length_take]; rfl)) ?_; (with_reducible refine (conduitlow_SameBytes.calls _ _ l0 _ _ x7_10 t180 _ ?side1 ?side2 ?side3 ?side4 A27.out).mono ?_); (case side1 => repeat (first | exact (Kd.C_below HR0.out HB.out) | (with_reducible refine Kd.C_alloc ?_ _) | (with_reducible refine Kd.C_drewN ?_ _) | (with_reducible refine Kd.C_drew ?_))); (case side2 => exact HC0.out); (case side3 => repeat (first | exact (Kd.R_reads' HO_7.out).2.2 | (with_reducible refine Kd.C_alloc ?_ _) | (with_reducible refine Kd.C_drewN ?_ _) | (with_reducible refine Kd.C_drew ?_))); (case side4 => exact (Kd.R_reads' HO_7.out).2.1); rintro e w' ⟨rfl, ⟨nd, rfl⟩⟩; refine ⟨_, rfl, ?_⟩) | (go_at_call 17; (with_reducible refine (conduitlaw02_awake.calls  t181 _ A29.out).mono ?_); rintro e w33 ⟨rfl, hb⟩; have n0_ := Aside0.mk (Kd.R_below (by (with_reducible repeat (first | apply Kd.R_alloc | apply Kd.R_drewN | apply Kd.R_drew)); exact HO_7.out) hb); have n1_ := Aside0.mk (below_step (by repeat (first | (with_reducible first | exact HB.out | apply below_alloc | apply pw_below_drewN | apply below_drew1) | exact HB.out)) hb); clear HO_7; clear HB; have HO_7 := n0_; have HB := n1_; clear n0_ n1_; (try clear hb); (try clear hb2); (try clear hk); (try clear hi)))
              go_ret
              exact ⟨by first | rfl | (simp [errW_none, errW_some] <;> rfl) | (simp [*, errW_none, errW_some] <;> rfl), by repeat (first | (with_reducible first | exact HB.out | apply below_alloc | apply pw_below_drewN | apply below_drew1) | exact HB.out)⟩
            · rw [if_neg c28] at H
              have c28b0 : ((t178 == t179) == t180) = false := by simpa using c28
              (try (have c28b1 : decide ((t178 == t179) = t180) = false := by simpa using c28))
              (try (have c28b2 : ((t178 == t179) == t180) = false := by simpa using c28))
              (try (have c28b3 : ¬ ((t178 == t179) = t180) := by simpa using c28))
              clear c28
              obtain rfl := Option.some.inj H
              go_wp2_with (first | ((with_reducible refine gate_callee (f := 14) rfl ?_); refine goesL_ (some 55) rfl rfl Try.func14 (by kernel_rfl) rfl #[.slice A0 l0.length c0] rfl (by (try simp only [List.map_toArray, List.map_cons, List.map_nil]); first | done | rfl | (simp only [List.length_drop, List.length_take]; rfl)) ?_; (with_reducible refine (sums_Crc.calls _ _ l0 t178 _ ?side1 ?side2 A25.out).mono ?_); (case side1 => repeat (first | exact (Kd.C_below HR0.out HB.out) | (with_reducible refine Kd.C_alloc ?_ _) | (with_reducible refine Kd.C_drewN ?_ _) | (with_reducible refine Kd.C_drew ?_))); (case side2 => exact HC0.out); rintro e w34 ⟨rfl, hb⟩; refine ⟨_, rfl, ?_⟩; have n0_ := Aside0.mk (Kd.R_below (by (with_reducible repeat (first | apply Kd.R_alloc | apply Kd.R_drewN | apply Kd.R_drew)); exact HO_7.out) hb); have n1_ := Aside0.mk (below_step (by repeat (first | (with_reducible first | exact HB.out | apply below_alloc | apply pw_below_drewN | apply below_drew1) | exact HB.out)) hb); clear HO_7; clear HB; have HO_7 := n0_; have HB := n1_; clear n0_ n1_; (try clear hb); (try clear hb2); (try clear hk); (try clear hi); obtain ⟨Ao35, co35, eo35⟩ := Kd.R_slice HO_7.out; subst eo35) | ((with_reducible refine gate_callee (f := 14) rfl ?_); refine goesL_ (some 57) rfl rfl Try.func14 (by kernel_rfl) rfl #[.slice Ao35 x7_10.length co35] rfl (by (try simp only [List.map_toArray, List.map_cons, List.map_nil]); first | done | rfl | (simp only [List.length_drop, List.length_take]; rfl)) ?_; (with_reducible refine (sums_Crc.calls _ _ x7_10 t179 _ ?side1 ?side2 A26.out).mono ?_); (case side1 => repeat (first | exact (Kd.R_reads' HO_7.out).2.2 | (with_reducible refine Kd.C_alloc ?_ _) | (with_reducible refine Kd.C_drewN ?_ _) | (with_reducible refine Kd.C_drew ?_))); (case side2 => exact (Kd.R_reads' HO_7.out).2.1); rintro e w36 ⟨rfl, hb⟩; refine ⟨_, rfl, ?_⟩; have n0_ := Aside0.mk (Kd.R_below (by (with_reducible repeat (first | apply Kd.R_alloc | apply Kd.R_drewN | apply Kd.R_drew)); exact HO_7.out) hb); have n1_ := Aside0.mk (below_step (by repeat (first | (with_reducible first | exact HB.out | apply below_alloc | apply pw_below_drewN | apply below_drew1) | exact HB.out)) hb); clear HO_7; clear HB; have HO_7 := n0_; have HB := n1_; clear n0_ n1_; (try clear hb); (try clear hb2); (try clear hk); (try clear hi)) | ((with_reducible refine gate_callee (f := 22) rfl ?_); refine goesL_ (some 61) rfl rfl Try.func22 (by kernel_rfl) rfl #[.slice A0 l0.length c0, .slice Ao35 x7_10.length co35] rfl (by (try simp only [List.map_toArray, List.map_cons, List.map_nil]); first | done | rfl | (simp only [List.length_drop, List.length_take]; rfl)) ?_; (with_reducible refine (conduitlow_SameBytes.calls _ _ l0 _ _ x7_10 t180 _ ?side1 ?side2 ?side3 ?side4 A27.out).mono ?_); (case side1 => repeat (first | exact (Kd.C_below HR0.out HB.out) | (with_reducible refine Kd.C_alloc ?_ _) | (with_reducible refine Kd.C_drewN ?_ _) | (with_reducible refine Kd.C_drew ?_))); (case side2 => exact HC0.out); (case side3 => repeat (first | exact (Kd.R_reads' HO_7.out).2.2 | (with_reducible refine Kd.C_alloc ?_ _) | (with_reducible refine Kd.C_drewN ?_ _) | (with_reducible refine Kd.C_drew ?_))); (case side4 => exact (Kd.R_reads' HO_7.out).2.1); rintro e w' ⟨rfl, ⟨nd, rfl⟩⟩; refine ⟨_, rfl, ?_⟩))
              go_ret
              exact ⟨by first | rfl | (simp [errW_none, errW_some] <;> rfl) | (simp [*, errW_none, errW_some] <;> rfl), by repeat (first | (with_reducible first | exact HB.out | apply below_alloc | apply pw_below_drewN | apply below_drew1) | exact HB.out)⟩

/-- THE ONE PURE STATEMENT of conduitlaw02_SumsBursts: yours. -/
def conduitlaw02_SumsBursts.Pure : Prop := ∀ (l0 : List Int) (a1 : Int) (a2 : Int), l0.length ≤ maxLen → l0.length * 1 ≤ 140737488351232 → (∀ x ∈ l0, (Lit.int .u8 x).wf = true) → (Lit.int .i64 a1).wf = true → (Lit.int .u32 a2).wf = true → ∃ k, conduitlaw02_SumsBursts.f k l0 a1 a2 = some true
theorem conduitlaw02_SumsBursts.walk (P : conduitlaw02_SumsBursts.Pure) (a0 : Option Addr) (len0 cap0 : Nat) (z0 : List Int) (a1 : Int) (a2 : Int) (w : World) (w0 : (a0 = none ∧ len0 = 0 ∧ cap0 = 0 ∧ z0 = []) ∨ ∃ x, a0 = some x ∧ len0 ≤ cap0 ∧ cap0 ≤ maxLen ∧ z0.length = cap0 ∧ (∀ i, i < z0.length → w.cell? (x.add i) = some (.int .u8 (z0.getD i 0))) ∧ ∀ n ∈ z0, (Lit.int .u8 n).wf = true) (y0 : len0 * 1 ≤ 140737488351232) (w1 : (Lit.int .i64 a1).wf = true) (w2 : (Lit.int .u32 a2).wf = true) :
    Calls Try.prog 6 #[.slice a0 len0 cap0, .int .i64 a1, .int .u32 a2] w fun e w' => e = .returned (.bool true) ∧ Below w.heap.size w w' := by
  obtain ⟨l0, rfl, hr0, hm0, hw0, hc0⟩ := ReadsInt.ofRowC w0
  obtain ⟨k, h⟩ := P l0 a1 a2 hm0 y0 hw0 w1 w2
  refine (conduitlaw02_SumsBursts.calls k _ _ l0 a1 a2 true w (Kd.C_of_reads (d := (0 : Int)) (h1 := fun _ => rfl) hr0) hc0 h).mono ?_
  rintro e w' ⟨rfl, hd⟩
  exact ⟨rfl, hd⟩

end Go.Proofs.Ytpoladincbkgiaa.M
