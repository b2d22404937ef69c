/- Functions of the program as Lean functions, each with a proof that the Go code answers just so; written by a program of this session (mkprint.py). No conditions. -/
import Derived.Test.YtonbbaimkpjcfaaMx0
import Derived.Test.YtonbbaimkpjcfaaMx1
namespace Go.Proofs.Ytonbbaimkpjcfaa.M
open Go.RowKit Go.Proofs.YtonbbaimkpjcfaaW.PrintWords Go.Proofs.YtonbbaimkpjcfaaW.PrintLast Go.Proofs.YtonbbaimkpjcfaaW.PrintMore
attribute [local go_sem] max2_int min2_int max_two min_two max_three min_three max_four min_four   -- for this text's walks alone
set_option linter.unusedVariables false
set_option linter.unusedSimpArgs false

/-! ### octets_U16: function 13 -/
def octets_U16.f (l0 : List Int) (a1 : Int) : Option (Int × Bool) := (octets_number.f l0 a1 2).bind fun bt145 => (some (IntKind.u16.wrap (bt145.1), bt145.2))
set_option maxHeartbeats 8000000 in
set_option maxRecDepth 100000 in
theorem octets_U16.calls (A0 : Option Addr) (c0 : Nat) (l0 : List Int) (a1 : Int) (r1 : Int) (r2 : Bool) (w : World) (hr0 : Kd.C (Kd.int .u8) w A0 l0.length l0) (hc0 : l0.length ≤ c0) (h : octets_U16.f l0 a1 = some (r1, r2)) :
    Calls Try.prog 13 #[.slice A0 l0.length c0, .int .i64 a1] w fun e w' => e = .returned (.tuple #[.int .u16 r1, .bool r2]) ∧ Drawn0 w w' := by
  have HR0 := Aside0.mk hr0
  have HC0 := Aside0.mk hc0
  clear hr0 hc0
  have H : ((octets_number.f l0 a1 2).bind fun bt145 => (some (IntKind.u16.wrap (bt145.1), bt145.2))) = some (r1, r2) := h
  clear h
  replace H := Option.bind_eq_some_iff.mp H
  obtain ⟨⟨t145, t146⟩, A30, H⟩ := H
  replace H : (some (IntKind.u16.wrap (t145), t146)) = some (r1, r2) := H
  have A3 := Aside0.mk A30
  clear A30
  simp only [Option.some.injEq, Prod.mk.injEq] at H
  obtain ⟨rfl, rfl⟩ := H
  go_enter Try.func13, Try.ntmps13
  go_wp2_with (first | ((with_reducible refine gate_callee (f := 44) rfl ?_); refine goesL_ (some 11) rfl rfl Try.func44 (by kernel_rfl) rfl #[.slice A0 l0.length c0, .int .i64 a1, .int .i64 2] rfl (by (try simp only [List.map_toArray, List.map_cons, List.map_nil]); first | done | rfl | (simp only [List.length_drop, List.length_take]; rfl)) ?_; (with_reducible refine (octets_number.calls _ _ l0 a1 2 t145 t146 _ ?side1 ?side2 A3.out).mono ?_); (case side1 => repeat (first | exact HR0.out | (with_reducible refine Kd.C_alloc ?_ _) | (with_reducible refine Kd.C_drewN ?_ _) | (with_reducible refine Kd.C_drew ?_))); (case side2 => exact HC0.out); rintro e w' ⟨rfl, ⟨nd, rfl⟩⟩; refine ⟨_, rfl, ?_⟩))
  go_ret2
  exact ⟨by first | rfl | (simp; done) | (simp [*]; done), by repeat (first | exact Drawn0.refl _ | apply Drawn0.step)⟩

/-! ### octets_U64: function 14 -/
def octets_U64.f (l0 : List Int) (a1 : Int) : Option (Int × Bool) := (octets_number.f l0 a1 8).bind fun bt147 => (some (bt147.1, bt147.2))
set_option maxHeartbeats 8000000 in
set_option maxRecDepth 100000 in
theorem octets_U64.calls (A0 : Option Addr) (c0 : Nat) (l0 : List Int) (a1 : Int) (r1 : Int) (r2 : Bool) (w : World) (hr0 : Kd.C (Kd.int .u8) w A0 l0.length l0) (hc0 : l0.length ≤ c0) (h : octets_U64.f l0 a1 = some (r1, r2)) :
    Calls Try.prog 14 #[.slice A0 l0.length c0, .int .i64 a1] w fun e w' => e = .returned (.tuple #[.int .u64 r1, .bool r2]) ∧ Drawn0 w w' := by
  have HR0 := Aside0.mk hr0
  have HC0 := Aside0.mk hc0
  clear hr0 hc0
  have H : ((octets_number.f l0 a1 8).bind fun bt147 => (some (bt147.1, bt147.2))) = some (r1, r2) := h
  clear h
  replace H := Option.bind_eq_some_iff.mp H
  obtain ⟨⟨t147, t148⟩, A30, H⟩ := H
  replace H : (some (t147, t148)) = some (r1, r2) := H
  have A3 := Aside0.mk A30
  clear A30
  simp only [Option.some.injEq, Prod.mk.injEq] at H
  obtain ⟨rfl, rfl⟩ := H
  go_enter Try.func14, Try.ntmps14
  go_wp2_with (first | ((with_reducible refine gate_callee (f := 44) rfl ?_); refine goesL_ (some 8) rfl rfl Try.func44 (by kernel_rfl) rfl #[.slice A0 l0.length c0, .int .i64 a1, .int .i64 8] rfl (by (try simp only [List.map_toArray, List.map_cons, List.map_nil]); first | done | rfl | (simp only [List.length_drop, List.length_take]; rfl)) ?_; (with_reducible refine (octets_number.calls _ _ l0 a1 8 t147 t148 _ ?side1 ?side2 A3.out).mono ?_); (case side1 => repeat (first | exact HR0.out | (with_reducible refine Kd.C_alloc ?_ _) | (with_reducible refine Kd.C_drewN ?_ _) | (with_reducible refine Kd.C_drew ?_))); (case side2 => exact HC0.out); rintro e w' ⟨rfl, ⟨nd, rfl⟩⟩; refine ⟨_, rfl, ?_⟩))
  go_ret2
  exact ⟨by first | rfl | (simp; done) | (simp [*]; done), by repeat (first | exact Drawn0.refl _ | apply Drawn0.step)⟩

/-! ### octets_U8: function 15 -/
def octets_U8.f (l0 : List Int) (a1 : Int) : Option (Int × Bool) := (octets_number.f l0 a1 1).bind fun bt149 => (some ((bt149.1) % 256, bt149.2))
set_option maxHeartbeats 8000000 in
set_option maxRecDepth 100000 in
theorem octets_U8.calls (A0 : Option Addr) (c0 : Nat) (l0 : List Int) (a1 : Int) (r1 : Int) (r2 : Bool) (w : World) (hr0 : Kd.C (Kd.int .u8) w A0 l0.length l0) (hc0 : l0.length ≤ c0) (h : octets_U8.f l0 a1 = some (r1, r2)) :
    Calls Try.prog 15 #[.slice A0 l0.length c0, .int .i64 a1] w fun e w' => e = .returned (.tuple #[.int .u8 r1, .bool r2]) ∧ Drawn0 w w' := by
  have HR0 := Aside0.mk hr0
  have HC0 := Aside0.mk hc0
  clear hr0 hc0
  have H : ((octets_number.f l0 a1 1).bind fun bt149 => (some ((bt149.1) % 256, bt149.2))) = some (r1, r2) := h
  clear h
  replace H := Option.bind_eq_some_iff.mp H
  obtain ⟨⟨t149, t150⟩, A30, H⟩ := H
  replace H : (some ((t149) % 256, t150)) = some (r1, r2) := H
  have A3 := Aside0.mk A30
  clear A30
  simp only [Option.some.injEq, Prod.mk.injEq] at H
  obtain ⟨rfl, rfl⟩ := H
  go_enter Try.func15, Try.ntmps15
  go_wp2_with (first | ((with_reducible refine gate_callee (f := 44) rfl ?_); refine goesL_ (some 11) rfl rfl Try.func44 (by kernel_rfl) rfl #[.slice A0 l0.length c0, .int .i64 a1, .int .i64 1] rfl (by (try simp only [List.map_toArray, List.map_cons, List.map_nil]); first | done | rfl | (simp only [List.length_drop, List.length_take]; rfl)) ?_; (with_reducible refine (octets_number.calls _ _ l0 a1 1 t149 t150 _ ?side1 ?side2 A3.out).mono ?_); (case side1 => repeat (first | exact HR0.out | (with_reducible refine Kd.C_alloc ?_ _) | (with_reducible refine Kd.C_drewN ?_ _) | (with_reducible refine Kd.C_drew ?_))); (case side2 => exact HC0.out); rintro e w' ⟨rfl, ⟨nd, rfl⟩⟩; refine ⟨_, rfl, ?_⟩))
  go_ret2
  exact ⟨by first | rfl | (simp; done) | (simp [*]; done), by repeat (first | exact Drawn0.refl _ | apply Drawn0.step)⟩

/-! ### octets_Text: function 17 -/
def octets_Text.f (l0 : List Int) (a1 : Int) : Option (ByteArray × Int × Bool) := if isBytes l0 = true then
  if 0 ≤ a1 ∧ a1 + 2 ≤ (l0.length : Int) ∧ a1 + 2 + oNum l0 a1.toNat 2 ≤ (l0.length : Int) then
    some (strOfNums ((l0.take (a1.toNat + 2 + (oNum l0 a1.toNat 2).toNat)).drop (a1.toNat + 2)), a1 + 2 + oNum l0 a1.toNat 2, true) else some (⟨#[]⟩, 0, false) else none
set_option maxHeartbeats 1600000 in
theorem octets_Text.calls (A0 : Option Addr) (c0 : Nat) (l0 : List Int) (a1 : Int) (r1 : ByteArray) (r2 : Int) (r3 : Bool) (w : World) (hr0 : Kd.C (Kd.int .u8) w A0 l0.length l0) (hc0 : l0.length ≤ c0) (h : octets_Text.f l0 a1 = some (r1, r2, r3)) :
    Calls Try.prog 17 #[.slice A0 l0.length c0, .int .i64 a1] w fun e w' => e = .returned (.tuple #[.string r1, .int .i64 r2, .bool r3]) ∧ Drawn0 w w' := by
  unfold octets_Text.f at h
  by_cases hb : isBytes l0 = true
  · rw [if_pos hb] at h
    have hmax : (l0.length : Int) ≤ 9223372036854775807 := by have := hr0.2.1; omega
    have HB := Aside0.mk hb
    have HR := Aside0.mk hr0
    have HC := Aside0.mk hc0
    by_cases hin : 0 ≤ a1 ∧ a1 + 2 ≤ (l0.length : Int)
    · obtain ⟨a, rfl⟩ : ∃ a : Nat, a1 = (a : Int) := ⟨a1.toNat, by omega⟩
      rw [Int.toNat_natCast] at h
      have hbd := oNum_bd hb a 2
      rw [show (256 : Int) ^ 2 = 65536 by decide] at hbd
      obtain ⟨m, hm⟩ : ∃ m : Nat, oNum l0 a 2 = (m : Int) := ⟨(oNum l0 a 2).toNat, by omega⟩
      have hu : octets_U16.f l0 (a : Int) = some ((m : Int), true) := by
        unfold octets_U16.f octets_number.f
        rw [if_pos hb, if_pos (by decide), if_pos (by decide), if_pos (by omega), Int.toNat_natCast, show (2 : Int).toNat = 2 from rfl, hm, Option.bind_some]
        have : IntKind.u16.wrap (m : Int) = (m : Int) := by rw [IntKind.wrap_u16]; omega
        rw [this]
      have HU := Aside0.mk hu
      rw [hm] at h hbd
      obtain ⟨hin1, hin2⟩ := hin
      clear hu hm hb hr0 hc0
      have hw1 : wrap64 ((l0.length : Int) - (a : Int)) = (l0.length : Int) - (a : Int) := by unfold wrap64; omega
      have hw2 : wrap64 ((l0.length : Int) - (a : Int) - 2) = (l0.length : Int) - (a : Int) - 2 := by unfold wrap64; omega
      by_cases hfit : (a : Int) + 2 + (m : Int) ≤ (l0.length : Int)
      · rw [if_pos ⟨by omega, by omega, hfit⟩, Int.toNat_natCast] at h
        have HH := Aside0.mk h
        obtain ⟨i0, hi0, _, hsz0, _⟩ := info_parts info5
        have hcut := cut_mid (P := Try.prog) 23 5 .i64 .i64 Try.underlying23 hi0 1 hsz0 A0 l0.length c0 ((a : Int) + 2) ((a : Int) + 2 + (m : Int)) (by omega) (by omega) (by omega) HC.out
        have hmid := Kd.C_mid (c := c0) (lo := a + 2) (hi := a + 2 + m) HR.out (by omega) (by omega) HC.out
        have hlen : ((l0.take (a + 2 + m)).drop (a + 2)).length = m := by rw [List.length_drop, List.length_take]; omega
        rw [hlen] at hmid
        rw [show ((a : Int) + 2).toNat = a + 2 by omega, show ((a : Int) + 2 + (m : Int)).toNat = a + 2 + m by omega, show a + 2 + m - (a + 2) = m by omega] at hcut
        obtain ⟨A', hA'⟩ : ∃ A', (if c0 = a + 2 then A0 else A0.map (·.add ((a + 2) * 1))) = A' := ⟨_, rfl⟩
        rw [hA'] at hcut
        have hmid : Kd.C (Kd.int .u8) w A' m ((l0.take (a + 2 + m)).drop (a + 2)) := by rw [← hA']; exact hmid
        have HM := Aside0.mk hmid
        clear h hmid hA' hlen hi0 hsz0
        have d1 : decide ((l0.length : Int) - (a : Int) - 2 < (m : Int)) = false := decide_eq_false (by omega)
        go_enter Try.func17, Try.ntmps17
        go_wp2_with fail
        refine (octets_U16.calls _ _ l0 _ _ _ _ HR.out HC.out HU.out).mono ?_
        rintro e w1 ⟨rfl, q⟩
        obtain ⟨nd, rfl⟩ := q.out
        have hstr := Kd.C_string (P := Try.prog) (src := 23) (dst := 9) (c := c0 - (a + 2)) Try.underlying23 Try.underlying5 Try.underlying9 (Kd.C_drewN HM.out nd)
        have Q := Aside0.mk q
        clear q
        go_wp2
        go_ret3
        exact ⟨by
          obtain ⟨e1, e2⟩ := Prod.mk.inj (Option.some.inj HH.out)
          obtain ⟨e2, e3⟩ := Prod.mk.inj e2
          rw [← e1, ← e2, ← e3]
          simp, Q.out⟩
      · rw [if_neg (by omega)] at h
        have HH := Aside0.mk h
        clear h
        have d1 : decide ((l0.length : Int) - (a : Int) - 2 < (m : Int)) = true := decide_eq_true (by omega)
        go_enter Try.func17, Try.ntmps17
        go_wp2_with fail
        refine (octets_U16.calls _ _ l0 _ _ _ _ HR.out HC.out HU.out).mono ?_
        rintro e w1 ⟨rfl, q⟩
        have Q := Aside0.mk q
        clear q
        go_wp2
        go_ret3
        exact ⟨by
          obtain ⟨e1, e2⟩ := Prod.mk.inj (Option.some.inj HH.out)
          obtain ⟨e2, e3⟩ := Prod.mk.inj e2
          subst e1 e2 e3
          rfl, Q.out⟩
    · rw [if_neg (by intro hh; exact hin ⟨hh.1, hh.2.1⟩)] at h
      have HH := Aside0.mk h
      have hu : octets_U16.f l0 a1 = some (0, false) := by
        unfold octets_U16.f octets_number.f
        rw [if_pos hb, if_pos (by decide), if_pos (by decide), if_neg hin]
        rfl
      have HU := Aside0.mk hu
      clear h hu hin hb hr0 hc0
      go_enter Try.func17, Try.ntmps17
      go_wp2_with fail
      refine (octets_U16.calls _ _ l0 _ _ _ _ HR.out HC.out HU.out).mono ?_
      rintro e w1 ⟨rfl, q⟩
      have Q := Aside0.mk q
      clear q
      go_wp2
      go_ret3
      exact ⟨by
        obtain ⟨e1, e2⟩ := Prod.mk.inj (Option.some.inj HH.out)
        obtain ⟨e2, e3⟩ := Prod.mk.inj e2
        subst e1 e2 e3
        rfl, Q.out⟩
  · rw [if_neg hb] at h
    cases h


/-! ### octets_Add8: function 26 -/
def octets_Add8.f (l0 : List Int) (a1 : Int) : Option (List Int) := (octets_add.f l0 (IntKind.u64.wrap (a1)) 1).bind fun t151 => (some t151)
set_option maxHeartbeats 8000000 in
set_option maxRecDepth 100000 in
theorem octets_Add8.calls (A0 : Option Addr) (c0 : Nat) (l0 : List Int) (a1 : Int) (r : List Int) (w : World) (hr0 : Kd.C (Kd.int .u8) w A0 l0.length l0) (hc0 : l0.length ≤ c0) (h : octets_Add8.f l0 a1 = some r) :
    Calls Try.prog 26 #[.slice A0 l0.length c0, .int .u8 a1] w fun e w' => ∃ v0_ : Value, e = .returned (v0_) ∧ Kd.R (Kd.int .u8) 5 w' w.heap.size (fun _ => True) v0_ r ∧ Below w.heap.size w w' := by
  have HR0 := Aside0.mk hr0
  have HC0 := Aside0.mk hc0
  clear hr0 hc0
  have HB := Aside0.mk (Below.refl w.heap.size w)
  have H : ((octets_add.f l0 (IntKind.u64.wrap (a1)) 1).bind fun t151 => (some t151)) = some r := h
  clear h
  replace H := Option.bind_eq_some_iff.mp H
  obtain ⟨t151, A30, H⟩ := H
  replace H : (some t151) = some r := H
  have A3 := Aside0.mk A30
  clear A30
  obtain rfl := Option.some.inj H
  go_enter Try.func26, Try.ntmps26
  go_wp2_with (first | ((with_reducible refine gate_callee (f := 43) rfl ?_); refine goesL_ (some 8) rfl rfl Try.func43 (by kernel_rfl) rfl #[.slice A0 l0.length c0, .int .u64 (IntKind.u64.wrap (a1)), .int .i64 1] rfl (by (try simp only [List.map_toArray, List.map_cons, List.map_nil]); first | done | rfl | (simp only [List.length_drop, List.length_take]; rfl)) ?_; (with_reducible refine (octets_add.calls _ _ l0 (IntKind.u64.wrap (a1)) 1 t151 _ ?side1 ?side2 A3.out).mono ?_); (case side1 => repeat (first | exact HR0.out | (with_reducible refine Kd.C_alloc ?_ _) | (with_reducible refine Kd.C_drewN ?_ _) | (with_reducible refine Kd.C_drew ?_))); (case side2 => exact HC0.out); rintro e w4 ⟨v152, rfl, ho0, hb⟩; refine ⟨_, rfl, ?_⟩; have n0_ := Aside0.mk (Kd.R_lower ho0 (below_size (by repeat (first | (with_reducible first | exact HB.out | apply below_alloc | apply pw_below_drewN | apply below_drew1) | exact HB.out)))); have n1_ := Aside0.mk (below_step (by repeat (first | (with_reducible first | exact HB.out | apply below_alloc | apply pw_below_drewN | apply below_drew1) | exact HB.out)) hb); clear HB; have HO153 := n0_; have HB := n1_; clear n0_ n1_; (try clear hb); (try clear hb2); (try clear hk); (try clear hi); (try clear ho0)))
  go_ret
  exact ⟨_, by first | rfl | (simp [errW_none, errW_some] <;> rfl) | (simp [*, errW_none, errW_some] <;> rfl), by (with_reducible repeat (first | apply Kd.R_alloc | apply Kd.R_drewN | apply Kd.R_drew)); exact HO153.out, by repeat (first | (with_reducible first | exact HB.out | apply below_alloc | apply pw_below_drewN | apply below_drew1) | exact HB.out)⟩

/-! ### octets_Add16: function 28 -/
def octets_Add16.f (l0 : List Int) (a1 : Int) : Option (List Int) := (octets_add.f l0 (IntKind.u64.wrap (a1)) 2).bind fun t154 => (some t154)
set_option maxHeartbeats 8000000 in
set_option maxRecDepth 100000 in
theorem octets_Add16.calls (A0 : Option Addr) (c0 : Nat) (l0 : List Int) (a1 : Int) (r : List Int) (w : World) (hr0 : Kd.C (Kd.int .u8) w A0 l0.length l0) (hc0 : l0.length ≤ c0) (h : octets_Add16.f l0 a1 = some r) :
    Calls Try.prog 28 #[.slice A0 l0.length c0, .int .u16 a1] w fun e w' => ∃ v0_ : Value, e = .returned (v0_) ∧ Kd.R (Kd.int .u8) 5 w' w.heap.size (fun _ => True) v0_ r ∧ Below w.heap.size w w' := by
  have HR0 := Aside0.mk hr0
  have HC0 := Aside0.mk hc0
  clear hr0 hc0
  have HB := Aside0.mk (Below.refl w.heap.size w)
  have H : ((octets_add.f l0 (IntKind.u64.wrap (a1)) 2).bind fun t154 => (some t154)) = some r := h
  clear h
  replace H := Option.bind_eq_some_iff.mp H
  obtain ⟨t154, A30, H⟩ := H
  replace H : (some t154) = some r := H
  have A3 := Aside0.mk A30
  clear A30
  obtain rfl := Option.some.inj H
  go_enter Try.func28, Try.ntmps28
  go_wp2_with (first | ((with_reducible refine gate_callee (f := 43) rfl ?_); refine goesL_ (some 8) rfl rfl Try.func43 (by kernel_rfl) rfl #[.slice A0 l0.length c0, .int .u64 (IntKind.u64.wrap (a1)), .int .i64 2] rfl (by (try simp only [List.map_toArray, List.map_cons, List.map_nil]); first | done | rfl | (simp only [List.length_drop, List.length_take]; rfl)) ?_; (with_reducible refine (octets_add.calls _ _ l0 (IntKind.u64.wrap (a1)) 2 t154 _ ?side1 ?side2 A3.out).mono ?_); (case side1 => repeat (first | exact HR0.out | (with_reducible refine Kd.C_alloc ?_ _) | (with_reducible refine Kd.C_drewN ?_ _) | (with_reducible refine Kd.C_drew ?_))); (case side2 => exact HC0.out); rintro e w4 ⟨v155, rfl, ho0, hb⟩; refine ⟨_, rfl, ?_⟩; have n0_ := Aside0.mk (Kd.R_lower ho0 (below_size (by repeat (first | (with_reducible first | exact HB.out | apply below_alloc | apply pw_below_drewN | apply below_drew1) | exact HB.out)))); have n1_ := Aside0.mk (below_step (by repeat (first | (with_reducible first | exact HB.out | apply below_alloc | apply pw_below_drewN | apply below_drew1) | exact HB.out)) hb); clear HB; have HO156 := n0_; have HB := n1_; clear n0_ n1_; (try clear hb); (try clear hb2); (try clear hk); (try clear hi); (try clear ho0)))
  go_ret
  exact ⟨_, by first | rfl | (simp [errW_none, errW_some] <;> rfl) | (simp [*, errW_none, errW_some] <;> rfl), by (with_reducible repeat (first | apply Kd.R_alloc | apply Kd.R_drewN | apply Kd.R_drew)); exact HO156.out, by repeat (first | (with_reducible first | exact HB.out | apply below_alloc | apply pw_below_drewN | apply below_drew1) | exact HB.out)⟩

/-! ### conduitlaw01_OctetsBack: function 7 -/
/-- What all calls answer, as numbers. -/
def conduitlaw01_OctetsBack.Pure : Prop := ∀ (l : List Int) (p q : ByteArray) (w : Int), (Lit.int .u64 w).wf = true → (∀ x ∈ l, (Lit.int .u8 x).wf = true) → l.length ≤ 1048576 → p.size ≤ 1048576 → q.size ≤ 1048576 →
  conduitlaw01_awake.f = some true ∧ (p.size ≤ 65535 → q.size ≤ 65535 → ∃ (L1 L2 L3 L4 L5 L6 : List Int) (e1 : Int), octets_Add8.f l (w / 2048 % 256) = some L1 ∧ octets_Add16.f L1 (IntKind.u16.wrap (w / 128)) = some L2 ∧ octets_Add32.f L2 (IntKind.u32.wrap (w / 8)) = some L3 ∧ octets_Add64.f L3 w = some L4 ∧
    octets_AddText.f L4 p = some (L5, 0) ∧ octets_AddText.f L5 q = some (L6, 0) ∧ octets_U8.f L6 (l.length : Int) = some (w / 2048 % 256, true) ∧ octets_U16.f L6 ((l.length : Int) + 1) = some (IntKind.u16.wrap (w / 128), true) ∧ octets_U32.f L6 ((l.length : Int) + 3) = some (IntKind.u32.wrap (w / 8), true) ∧
    octets_U64.f L6 ((l.length : Int) + 7) = some (w, true) ∧ octets_Text.f L6 ((l.length : Int) + 15) = some (p, e1, true) ∧ octets_Text.f L6 e1 = some (q, (L6.length : Int), true) ∧ l.length ≤ L6.length ∧ L6.length ≤ 3000000 ∧ L6.take l.length = l)
theorem conduitlaw01_OctetsBack.ones (l : List Int) : (l.map fun _ => 1).sum = l.length := by
  induction l with
  | nil => rfl
  | cons a l ih => simp only [List.map_cons, List.sum_cons, ih, List.length_cons]; omega
set_option maxRecDepth 100000 in
set_option maxHeartbeats 1600000 in
theorem conduitlaw01_OctetsBack.walk (P : conduitlaw01_OctetsBack.Pure) (W : World) (A0 : Option Addr) (c0 : Nat) (l0 : (List Int)) (hc0 : l0.length ≤ c0) (h0 : (Kd.int .u8).C W A0 l0.length l0) (ok0 : (l0.length * 1 ≤ 140737488351232 ∧ l0.length ≤ 9223372036854775807 ∧ ∀ x ∈ l0, (Lit.int .u8 x).wf = true)) (a1 : ByteArray) (ok1 : a1.size ≤ 140737488351232) (a2 : ByteArray) (ok2 : a2.size ≤ 140737488351232) (a3 : Int) (ok3 : (Lit.int .u64 a3).wf = true) (bulk : ((l0.map fun x => 1).sum + 1) + (a1.size + 1) + (a2.size + 1) + 1 ≤ 1048576) :
    Calls Try.prog 7 #[.slice A0 l0.length c0, .string a1, .string a2, .int .u64 a3] W fun e w' => e = .returned (.bool true) ∧ Below W.heap.size W w' := by
  have hl : l0.length ≤ 1048576 := by
    have e := conduitlaw01_OctetsBack.ones l0
    omega
  obtain ⟨pa, pn⟩ := P l0 a1 a2 a3 ok3 ok0.2.2 hl (by omega) (by omega)
  have HA := Aside0.mk pa
  have HR := Aside0.mk h0
  have HC := Aside0.mk hc0
  have HL := Aside0.mk hl
  have B0 := Aside0.mk (Below.refl W.heap.size W)
  have HW := Aside0.mk ok3
  clear pa h0 hc0 ok0 ok1 ok2 ok3 bulk
  by_cases hp : a1.size ≤ 65535 ∧ a2.size ≤ 65535
  · obtain ⟨L1, L2, L3, L4, L5, L6, e1, p1, p2, p3, p4, p5, p6, p7, p8, p9, p10, p11, p12, hle, hle2, p13⟩ := pn hp.1 hp.2
    obtain ⟨n, hn⟩ : ∃ n : Nat, l0.length = n := ⟨_, rfl⟩
    have P1 := Aside0.mk p1
    have P2 := Aside0.mk p2
    have P3 := Aside0.mk p3
    have P4 := Aside0.mk p4
    have P5 := Aside0.mk p5
    have P6 := Aside0.mk p6
    have P7 := Aside0.mk p7
    have P8 := Aside0.mk p8
    have P9 := Aside0.mk p9
    have P10 := Aside0.mk p10
    have P11 := Aside0.mk p11
    have P12 := Aside0.mk p12
    have P13 := Aside0.mk p13
    have P14 : Aside0 (conduitlow_SameBytes.f l0 l0 = some true) := ⟨by unfold conduitlow_SameBytes.f; rw [beq_self_eq_true]⟩
    have b1 : decide (65535 < (a1.size : Int)) = false := decide_eq_false (by omega)
    have b2 : decide (65535 < (a2.size : Int)) = false := decide_eq_false (by omega)
    have s1 : wrap64 ((l0.length : Int) + 1) = (l0.length : Int) + 1 := by unfold wrap64; omega
    have s3 : wrap64 ((l0.length : Int) + 3) = (l0.length : Int) + 3 := by unfold wrap64; omega
    have s7 : wrap64 ((l0.length : Int) + 7) = (l0.length : Int) + 7 := by unfold wrap64; omega
    have s15 : wrap64 ((l0.length : Int) + 15) = (l0.length : Int) + 15 := by unfold wrap64; omega
    clear pn p1 p2 p3 p4 p5 p6 p7 p8 p9 p10 p11 p12 p13 hp hn
    go_enter Try.func7, Try.ntmps7
    go_wp2_with fail
    refine (octets_Add8.calls _ _ l0 _ _ _ HR.out HC.out P1.out).mono ?_
    rintro e w1 ⟨v, rfl, o, b⟩
    obtain ⟨Ar1, cr1, rfl, hc, hC⟩ := Kd.R_reads o
    have Hb_1 := Aside0.mk (Kd.C_below HR.out b)
    clear HR
    have Hr1_1 := Aside0.mk hC
    have Cr1 := Aside0.mk hc
    clear hC hc o
    have B1 := Aside0.mk (below_then B0.out B0.out.size b)
    clear b B0
    go_wp2_with fail
    refine (octets_Add16.calls _ _ L1 _ _ _ Hr1_1.out Cr1.out P2.out).mono ?_
    rintro e w2 ⟨v, rfl, o, b⟩
    obtain ⟨Ar2, cr2, rfl, hc, hC⟩ := Kd.R_reads o
    have Hb_2 := Aside0.mk (Kd.C_below Hb_1.out b)
    clear Hb_1
    have Hr1_2 := Aside0.mk (Kd.C_below Hr1_1.out b)
    clear Hr1_1
    have Hr2_2 := Aside0.mk hC
    have Cr2 := Aside0.mk hc
    clear hC hc o
    have B2 := Aside0.mk (below_then B1.out B1.out.size b)
    clear b B1
    clear Hr1_2
    go_wp2_with fail
    refine (octets_Add32.calls _ _ L2 _ _ _ Hr2_2.out Cr2.out P3.out).mono ?_
    rintro e w3 ⟨v, rfl, o, b⟩
    obtain ⟨Ar3, cr3, rfl, hc, hC⟩ := Kd.R_reads o
    have Hb_3 := Aside0.mk (Kd.C_below Hb_2.out b)
    clear Hb_2
    have Hr2_3 := Aside0.mk (Kd.C_below Hr2_2.out b)
    clear Hr2_2
    have Hr3_3 := Aside0.mk hC
    have Cr3 := Aside0.mk hc
    clear hC hc o
    have B3 := Aside0.mk (below_then B2.out B2.out.size b)
    clear b B2
    clear Hr2_3
    go_wp2_with fail
    refine (octets_Add64.calls _ _ L3 _ _ _ Hr3_3.out Cr3.out P4.out).mono ?_
    rintro e w4 ⟨v, rfl, o, b⟩
    obtain ⟨Ar4, cr4, rfl, hc, hC⟩ := Kd.R_reads o
    have Hb_4 := Aside0.mk (Kd.C_below Hb_3.out b)
    clear Hb_3
    have Hr3_4 := Aside0.mk (Kd.C_below Hr3_3.out b)
    clear Hr3_3
    have Hr4_4 := Aside0.mk hC
    have Cr4 := Aside0.mk hc
    clear hC hc o
    have B4 := Aside0.mk (below_then B3.out B3.out.size b)
    clear b B3
    clear Hr3_4
    go_wp2_with fail
    refine (octets_AddText.calls _ _ L4 _ _ _ _ Hr4_4.out Cr4.out P5.out).mono ?_
    rintro e w5 ⟨v, rfl, o, b⟩
    obtain ⟨Ar5, cr5, rfl, hc, hC⟩ := Kd.R_reads o
    have Hb_5 := Aside0.mk (Kd.C_below Hb_4.out b)
    clear Hb_4
    have Hr4_5 := Aside0.mk (Kd.C_below Hr4_4.out b)
    clear Hr4_4
    have Hr5_5 := Aside0.mk hC
    have Cr5 := Aside0.mk hc
    clear hC hc o
    have B5 := Aside0.mk (below_then B4.out B4.out.size b)
    clear b B4
    clear Hr4_5
    go_wp2_with fail
    refine (octets_AddText.calls _ _ L5 _ _ _ _ Hr5_5.out Cr5.out P6.out).mono ?_
    rintro e w6 ⟨v, rfl, o, b⟩
    obtain ⟨Ar6, cr6, rfl, hc, hC⟩ := Kd.R_reads o
    have Hb_6 := Aside0.mk (Kd.C_below Hb_5.out b)
    clear Hb_5
    have Hr5_6 := Aside0.mk (Kd.C_below Hr5_5.out b)
    clear Hr5_5
    have Hr6_6 := Aside0.mk hC
    have Cr6 := Aside0.mk hc
    clear hC hc o
    have B6 := Aside0.mk (below_then B5.out B5.out.size b)
    clear b B5
    clear Hr5_6
    go_wp2_with fail
    refine (octets_U8.calls _ _ L6 _ _ _ _ Hr6_6.out Cr6.out P7.out).mono ?_
    rintro e w7 ⟨rfl, q⟩
    have b := q.below
    have Hb_7 := Aside0.mk (Kd.C_below Hb_6.out b)
    clear Hb_6
    have Hr6_7 := Aside0.mk (Kd.C_below Hr6_6.out b)
    clear Hr6_6
    have B7 := Aside0.mk (below_then B6.out B6.out.size b)
    clear b B6 q
    go_wp2_with fail
    refine (octets_U16.calls _ _ L6 _ _ _ _ Hr6_7.out Cr6.out P8.out).mono ?_
    rintro e w8 ⟨rfl, q⟩
    have b := q.below
    have Hb_8 := Aside0.mk (Kd.C_below Hb_7.out b)
    clear Hb_7
    have Hr6_8 := Aside0.mk (Kd.C_below Hr6_7.out b)
    clear Hr6_7
    have B8 := Aside0.mk (below_then B7.out B7.out.size b)
    clear b B7 q
    go_wp2_with fail
    refine (octets_U32.calls _ _ L6 _ _ _ _ Hr6_8.out Cr6.out P9.out).mono ?_
    rintro e w9 ⟨rfl, q⟩
    have b := q.below
    have Hb_9 := Aside0.mk (Kd.C_below Hb_8.out b)
    clear Hb_8
    have Hr6_9 := Aside0.mk (Kd.C_below Hr6_8.out b)
    clear Hr6_8
    have B9 := Aside0.mk (below_then B8.out B8.out.size b)
    clear b B8 q
    go_wp2_with fail
    refine (octets_U64.calls _ _ L6 _ _ _ _ Hr6_9.out Cr6.out P10.out).mono ?_
    rintro e w10 ⟨rfl, q⟩
    have b := q.below
    have Hb_10 := Aside0.mk (Kd.C_below Hb_9.out b)
    clear Hb_9
    have Hr6_10 := Aside0.mk (Kd.C_below Hr6_9.out b)
    clear Hr6_9
    have B10 := Aside0.mk (below_then B9.out B9.out.size b)
    clear b B9 q
    go_wp2_with fail
    refine (octets_Text.calls _ _ L6 _ _ _ _ _ Hr6_10.out Cr6.out P11.out).mono ?_
    rintro e w11 ⟨rfl, q⟩
    have b := q.below
    have Hb_11 := Aside0.mk (Kd.C_below Hb_10.out b)
    clear Hb_10
    have Hr6_11 := Aside0.mk (Kd.C_below Hr6_10.out b)
    clear Hr6_10
    have B11 := Aside0.mk (below_then B10.out B10.out.size b)
    clear b B10 q
    go_wp2_with fail
    refine (octets_Text.calls _ _ L6 _ _ _ _ _ Hr6_11.out Cr6.out P12.out).mono ?_
    rintro e w12 ⟨rfl, q⟩
    have b := q.below
    have Hb_12 := Aside0.mk (Kd.C_below Hb_11.out b)
    clear Hb_11
    have Hr6_12 := Aside0.mk (Kd.C_below Hr6_11.out b)
    clear Hr6_11
    have B12 := Aside0.mk (below_then B11.out B11.out.size b)
    clear b B11 q
    obtain ⟨i0, hi0, _, _, _⟩ := info_parts info5
    have cut := cut_to (P := Try.prog) 23 5 .i64 Try.underlying23 hi0 Ar6 L6.length cr6 (l0.length : Int) (by omega) (by omega) Cr6.out
    rw [Int.toNat_natCast] at cut
    have hT := Kd.C_take (m := l0.length) Hr6_12.out hle
    rw [P13.out] at hT
    have HT := Aside0.mk hT
    have CT : Aside0 (l0.length ≤ cr6) := ⟨by have := Cr6.out; omega⟩
    clear hT hi0
    clear Hr6_12
    go_wp2_with fail
    refine (conduitlow_SameBytes.calls _ _ l0 _ _ l0 _ _ HT.out CT.out Hb_12.out HC.out P14.out).mono ?_
    rintro e w13 ⟨rfl, q⟩
    have b := q.below
    have Hb_13 := Aside0.mk (Kd.C_below Hb_12.out b)
    clear Hb_12
    have Ht_13 := Aside0.mk (Kd.C_below HT.out b)
    clear HT
    have B13 := Aside0.mk (below_then B12.out B12.out.size b)
    clear b B12 q
    clear Ht_13
    go_wp2_with fail
    refine (conduitlaw01_awake.calls  _ _  HA.out).mono ?_
    rintro e w14 ⟨rfl, b⟩
    have Hb_14 := Aside0.mk (Kd.C_below Hb_13.out b)
    clear Hb_13
    have B14 := Aside0.mk (below_then B13.out B13.out.size b)
    clear b B13
    go_wp2
    go_ret
    exact ⟨rfl, B14.out⟩
  · by_cases hp1 : a1.size ≤ 65535
    · have b1 : decide (65535 < (a1.size : Int)) = false := decide_eq_false (by omega)
      have b2 : decide (65535 < (a2.size : Int)) = true := decide_eq_true (by omega)
      clear pn hp
      go_enter Try.func7, Try.ntmps7
      go_wp2_with fail
      refine (conduitlaw01_awake.calls  _ _  HA.out).mono ?_
      rintro e w1 ⟨rfl, b⟩
      have B1 := Aside0.mk (below_then B0.out B0.out.size b)
      clear b B0
      go_wp2
      go_ret
      exact ⟨rfl, B1.out⟩
    · have b1 : decide (65535 < (a1.size : Int)) = true := decide_eq_true (by omega)
      clear pn hp
      go_enter Try.func7, Try.ntmps7
      go_wp2_with fail
      refine (conduitlaw01_awake.calls  _ _  HA.out).mono ?_
      rintro e w1 ⟨rfl, b⟩
      have B1 := Aside0.mk (below_then B0.out B0.out.size b)
      clear b B0
      go_wp2
      go_ret
      exact ⟨rfl, B1.out⟩


end Go.Proofs.Ytonbbaimkpjcfaa.M
