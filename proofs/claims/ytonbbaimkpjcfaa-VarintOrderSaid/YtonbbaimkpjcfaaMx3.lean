/- Functions of the program as Lean functions, each with a proof that the Go code answers just so; written by a program of this session (mkprint.py). No conditions. -/
import Derived.Test.YtonbbaimkpjcfaaMx0
import Derived.Test.YtonbbaimkpjcfaaMx1
namespace Go.Proofs.Ytonbbaimkpjcfaa.M
open Go.RowKit Go.Proofs.YtonbbaimkpjcfaaW.PrintWords Go.Proofs.YtonbbaimkpjcfaaW.PrintLast Go.Proofs.YtonbbaimkpjcfaaW.PrintMore
attribute [local go_sem] max2_int min2_int max_two min_two max_three min_three max_four min_four   -- for this text's walks alone
set_option linter.unusedVariables false
set_option linter.unusedSimpArgs false

/-! ### octets_U16: function 13 -/
def octets_U16.f (l0 : List Int) (a1 : Int) : Option (Int × Bool) := (octets_number.f l0 a1 2).bind fun bt145 => (some (IntKind.u16.wrap (bt145.1), bt145.2))
set_option maxHeartbeats 8000000 in
set_option maxRecDepth 100000 in
theorem octets_U16.calls (A0 : Option Addr) (c0 : Nat) (l0 : List Int) (a1 : Int) (r1 : Int) (r2 : Bool) (w : World) (hr0 : Kd.C (Kd.int .u8) w A0 l0.length l0) (hc0 : l0.length ≤ c0) (h : octets_U16.f l0 a1 = some (r1, r2)) :
    Calls Try.prog 13 #[.slice A0 l0.length c0, .int .i64 a1] w fun e w' => e = .returned (.tuple #[.int .u16 r1, .bool r2]) ∧ Drawn0 w w' := by
  have HR0 := Aside0.mk hr0
  have HC0 := Aside0.mk hc0
  clear hr0 hc0
  have H : ((octets_number.f l0 a1 2).bind fun bt145 => (some (IntKind.u16.wrap (bt145.1), bt145.2))) = some (r1, r2) := h
  clear h
  replace H := Option.bind_eq_some_iff.mp H
  obtain ⟨⟨t145, t146⟩, A30, H⟩ := H
  replace H : (some (IntKind.u16.wrap (t145), t146)) = some (r1, r2) := H
  have A3 := Aside0.mk A30
  clear A30
  simp only [Option.some.injEq, Prod.mk.injEq] at H
  obtain ⟨rfl, rfl⟩ := H
  go_enter Try.func13, Try.ntmps13
  go_wp2_with (first | ((with_reducible refine gate_callee (f := 44) rfl ?_); refine goesL_ (some 11) rfl rfl Try.func44 (by kernel_rfl) rfl #[.slice A0 l0.length c0, .int .i64 a1, .int .i64 2] rfl (by (try simp only [List.map_toArray, List.map_cons, List.map_nil]); first | done | rfl | (simp only [List.length_drop, List.length_take]; rfl)) ?_; (with_reducible refine (octets_number.calls _ _ l0 a1 2 t145 t146 _ ?side1 ?side2 A3.out).mono ?_); (case side1 => repeat (first | exact HR0.out | (with_reducible refine Kd.C_alloc ?_ _) | (with_reducible refine Kd.C_drewN ?_ _) | (with_reducible refine Kd.C_drew ?_))); (case side2 => exact HC0.out); rintro e w' ⟨rfl, ⟨nd, rfl⟩⟩; refine ⟨_, rfl, ?_⟩))
  go_ret2
  exact ⟨by first | rfl | (simp; done) | (simp [*]; done), by repeat (first | exact Drawn0.refl _ | apply Drawn0.step)⟩

/-! ### octets_U64: function 14 -/
def octets_U64.f (l0 : List Int) (a1 : Int) : Option (Int × Bool) := (octets_number.f l0 a1 8).bind fun bt147 => (some (bt147.1, bt147.2))
set_option maxHeartbeats 8000000 in
set_option maxRecDepth 100000 in
theorem octets_U64.calls (A0 : Option Addr) (c0 : Nat) (l0 : List Int) (a1 : Int) (r1 : Int) (r2 : Bool) (w : World) (hr0 : Kd.C (Kd.int .u8) w A0 l0.length l0) (hc0 : l0.length ≤ c0) (h : octets_U64.f l0 a1 = some (r1, r2)) :
    Calls Try.prog 14 #[.slice A0 l0.length c0, .int .i64 a1] w fun e w' => e = .returned (.tuple #[.int .u64 r1, .bool r2]) ∧ Drawn0 w w' := by
  have HR0 := Aside0.mk hr0
  have HC0 := Aside0.mk hc0
  clear hr0 hc0
  have H : ((octets_number.f l0 a1 8).bind fun bt147 => (some (bt147.1, bt147.2))) = some (r1, r2) := h
  clear h
  replace H := Option.bind_eq_some_iff.mp H
  obtain ⟨⟨t147, t148⟩, A30, H⟩ := H
  replace H : (some (t147, t148)) = some (r1, r2) := H
  have A3 := Aside0.mk A30
  clear A30
  simp only [Option.some.injEq, Prod.mk.injEq] at H
  obtain ⟨rfl, rfl⟩ := H
  go_enter Try.func14, Try.ntmps14
  go_wp2_with (first | ((with_reducible refine gate_callee (f := 44) rfl ?_); refine goesL_ (some 8) rfl rfl Try.func44 (by kernel_rfl) rfl #[.slice A0 l0.length c0, .int .i64 a1, .int .i64 8] rfl (by (try simp only [List.map_toArray, List.map_cons, List.map_nil]); first | done | rfl | (simp only [List.length_drop, List.length_take]; rfl)) ?_; (with_reducible refine (octets_number.calls _ _ l0 a1 8 t147 t148 _ ?side1 ?side2 A3.out).mono ?_); (case side1 => repeat (first | exact HR0.out | (with_reducible refine Kd.C_alloc ?_ _) | (with_reducible refine Kd.C_drewN ?_ _) | (with_reducible refine Kd.C_drew ?_))); (case side2 => exact HC0.out); rintro e w' ⟨rfl, ⟨nd, rfl⟩⟩; refine ⟨_, rfl, ?_⟩))
  go_ret2
  exact ⟨by first | rfl | (simp; done) | (simp [*]; done), by repeat (first | exact Drawn0.refl _ | apply Drawn0.step)⟩

/-! ### octets_U8: function 15 -/
def octets_U8.f (l0 : List Int) (a1 : Int) : Option (Int × Bool) := (octets_number.f l0 a1 1).bind fun bt149 => (some ((bt149.1) % 256, bt149.2))
set_option maxHeartbeats 8000000 in
set_option maxRecDepth 100000 in
theorem octets_U8.calls (A0 : Option Addr) (c0 : Nat) (l0 : List Int) (a1 : Int) (r1 : Int) (r2 : Bool) (w : World) (hr0 : Kd.C (Kd.int .u8) w A0 l0.length l0) (hc0 : l0.length ≤ c0) (h : octets_U8.f l0 a1 = some (r1, r2)) :
    Calls Try.prog 15 #[.slice A0 l0.length c0, .int .i64 a1] w fun e w' => e = .returned (.tuple #[.int .u8 r1, .bool r2]) ∧ Drawn0 w w' := by
  have HR0 := Aside0.mk hr0
  have HC0 := Aside0.mk hc0
  clear hr0 hc0
  have H : ((octets_number.f l0 a1 1).bind fun bt149 => (some ((bt149.1) % 256, bt149.2))) = some (r1, r2) := h
  clear h
  replace H := Option.bind_eq_some_iff.mp H
  obtain ⟨⟨t149, t150⟩, A30, H⟩ := H
  replace H : (some ((t149) % 256, t150)) = some (r1, r2) := H
  have A3 := Aside0.mk A30
  clear A30
  simp only [Option.some.injEq, Prod.mk.injEq] at H
  obtain ⟨rfl, rfl⟩ := H
  go_enter Try.func15, Try.ntmps15
  go_wp2_with (first | ((with_reducible refine gate_callee (f := 44) rfl ?_); refine goesL_ (some 11) rfl rfl Try.func44 (by kernel_rfl) rfl #[.slice A0 l0.length c0, .int .i64 a1, .int .i64 1] rfl (by (try simp only [List.map_toArray, List.map_cons, List.map_nil]); first | done | rfl | (simp only [List.length_drop, List.length_take]; rfl)) ?_; (with_reducible refine (octets_number.calls _ _ l0 a1 1 t149 t150 _ ?side1 ?side2 A3.out).mono ?_); (case side1 => repeat (first | exact HR0.out | (with_reducible refine Kd.C_alloc ?_ _) | (with_reducible refine Kd.C_drewN ?_ _) | (with_reducible refine Kd.C_drew ?_))); (case side2 => exact HC0.out); rintro e w' ⟨rfl, ⟨nd, rfl⟩⟩; refine ⟨_, rfl, ?_⟩))
  go_ret2
  exact ⟨by first | rfl | (simp; done) | (simp [*]; done), by repeat (first | exact Drawn0.refl _ | apply Drawn0.step)⟩

/-! ### octets_Text: function 17 -/
def octets_Text.f (l0 : List Int) (a1 : Int) : Option (ByteArray × Int × Bool) := if isBytes l0 = true then
  if 0 ≤ a1 ∧ a1 + 2 ≤ (l0.length : Int) ∧ a1 + 2 + oNum l0 a1.toNat 2 ≤ (l0.length : Int) then
    some (strOfNums ((l0.take (a1.toNat + 2 + (oNum l0 a1.toNat 2).toNat)).drop (a1.toNat + 2)), a1 + 2 + oNum l0 a1.toNat 2, true) else some (⟨#[]⟩, 0, false) else none
set_option maxHeartbeats 1600000 in
theorem octets_Text.calls (A0 : Option Addr) (c0 : Nat) (l0 : List Int) (a1 : Int) (r1 : ByteArray) (r2 : Int) (r3 : Bool) (w : World) (hr0 : Kd.C (Kd.int .u8) w A0 l0.length l0) (hc0 : l0.length ≤ c0) (h : octets_Text.f l0 a1 = some (r1, r2, r3)) :
    Calls Try.prog 17 #[.slice A0 l0.length c0, .int .i64 a1] w fun e w' => e = .returned (.tuple #[.string r1, .int .i64 r2, .bool r3]) ∧ Drawn0 w w' := by
  unfold octets_Text.f at h
  by_cases hb : isBytes l0 = true
  · rw [if_pos hb] at h
    have hmax : (l0.length : Int) ≤ 9223372036854775807 := by have := hr0.2.1; omega
    have HB := Aside0.mk hb
    have HR := Aside0.mk hr0
    have HC := Aside0.mk hc0
    by_cases hin : 0 ≤ a1 ∧ a1 + 2 ≤ (l0.length : Int)
    · obtain ⟨a, rfl⟩ : ∃ a : Nat, a1 = (a : Int) := ⟨a1.toNat, by omega⟩
      rw [Int.toNat_natCast] at h
      have hbd := oNum_bd hb a 2
      rw [show (256 : Int) ^ 2 = 65536 by decide] at hbd
      obtain ⟨m, hm⟩ : ∃ m : Nat, oNum l0 a 2 = (m : Int) := ⟨(oNum l0 a 2).toNat, by omega⟩
      have hu : octets_U16.f l0 (a : Int) = some ((m : Int), true) := by
        unfold octets_U16.f octets_number.f
        rw [if_pos hb, if_pos (by decide), if_pos (by decide), if_pos (by omega), Int.toNat_natCast, show (2 : Int).toNat = 2 from rfl, hm, Option.bind_some]
        have : IntKind.u16.wrap (m : Int) = (m : Int) := by rw [IntKind.wrap_u16]; omega
        rw [this]
      have HU := Aside0.mk hu
      rw [hm] at h hbd
      obtain ⟨hin1, hin2⟩ := hin
      clear hu hm hb hr0 hc0
      have hw1 : wrap64 ((l0.length : Int) - (a : Int)) = (l0.length : Int) - (a : Int) := by unfold wrap64; omega
      have hw2 : wrap64 ((l0.length : Int) - (a : Int) - 2) = (l0.length : Int) - (a : Int) - 2 := by unfold wrap64; omega
      by_cases hfit : (a : Int) + 2 + (m : Int) ≤ (l0.length : Int)
      · rw [if_pos ⟨by omega, by omega, hfit⟩, Int.toNat_natCast] at h
        have HH := Aside0.mk h
        obtain ⟨i0, hi0, _, hsz0, _⟩ := info_parts info5
        have hcut := cut_mid (P := Try.prog) 23 5 .i64 .i64 Try.underlying23 hi0 1 hsz0 A0 l0.length c0 ((a : Int) + 2) ((a : Int) + 2 + (m : Int)) (by omega) (by omega) (by omega) HC.out
        have hmid := Kd.C_mid (c := c0) (lo := a + 2) (hi := a + 2 + m) HR.out (by omega) (by omega) HC.out
        have hlen : ((l0.take (a + 2 + m)).drop (a + 2)).length = m := by rw [List.length_drop, List.length_take]; omega
        rw [hlen] at hmid
        rw [show ((a : Int) + 2).toNat = a + 2 by omega, show ((a : Int) + 2 + (m : Int)).toNat = a + 2 + m by omega, show a + 2 + m - (a + 2) = m by omega] at hcut
        obtain ⟨A', hA'⟩ : ∃ A', (if c0 = a + 2 then A0 else A0.map (·.add ((a + 2) * 1))) = A' := ⟨_, rfl⟩
        rw [hA'] at hcut
        have hmid : Kd.C (Kd.int .u8) w A' m ((l0.take (a + 2 + m)).drop (a + 2)) := by rw [← hA']; exact hmid
        have HM := Aside0.mk hmid
        clear h hmid hA' hlen hi0 hsz0
        have d1 : decide ((l0.length : Int) - (a : Int) - 2 < (m : Int)) = false := decide_eq_false (by omega)
        go_enter Try.func17, Try.ntmps17
        go_wp2_with fail
        refine (octets_U16.calls _ _ l0 _ _ _ _ HR.out HC.out HU.out).mono ?_
        rintro e w1 ⟨rfl, q⟩
        obtain ⟨nd, rfl⟩ := q.out
        have hstr := Kd.C_string (P := Try.prog) (src := 23) (dst := 9) (c := c0 - (a + 2)) Try.underlying23 Try.underlying5 Try.underlying9 (Kd.C_drewN HM.out nd)
        have Q := Aside0.mk q
        clear q
        go_wp2
        go_ret3
        exact ⟨by
          obtain ⟨e1, e2⟩ := Prod.mk.inj (Option.some.inj HH.out)
          obtain ⟨e2, e3⟩ := Prod.mk.inj e2
          rw [← e1, ← e2, ← e3]
          simp, Q.out⟩
      · rw [if_neg (by omega)] at h
        have HH := Aside0.mk h
        clear h
        have d1 : decide ((l0.length : Int) - (a : Int) - 2 < (m : Int)) = true := decide_eq_true (by omega)
        go_enter Try.func17, Try.ntmps17
        go_wp2_with fail
        refine (octets_U16.calls _ _ l0 _ _ _ _ HR.out HC.out HU.out).mono ?_
        rintro e w1 ⟨rfl, q⟩
        have Q := Aside0.mk q
        clear q
        go_wp2
        go_ret3
        exact ⟨by
          obtain ⟨e1, e2⟩ := Prod.mk.inj (Option.some.inj HH.out)
          obtain ⟨e2, e3⟩ := Prod.mk.inj e2
          subst e1 e2 e3
          rfl, Q.out⟩
    · rw [if_neg (by intro hh; exact hin ⟨hh.1, hh.2.1⟩)] at h
      have HH := Aside0.mk h
      have hu : octets_U16.f l0 a1 = some (0, false) := by
        unfold octets_U16.f octets_number.f
        rw [if_pos hb, if_pos (by decide), if_pos (by decide), if_neg hin]
        rfl
      have HU := Aside0.mk hu
      clear h hu hin hb hr0 hc0
      go_enter Try.func17, Try.ntmps17
      go_wp2_with fail
      refine (octets_U16.calls _ _ l0 _ _ _ _ HR.out HC.out HU.out).mono ?_
      rintro e w1 ⟨rfl, q⟩
      have Q := Aside0.mk q
      clear q
      go_wp2
      go_ret3
      exact ⟨by
        obtain ⟨e1, e2⟩ := Prod.mk.inj (Option.some.inj HH.out)
        obtain ⟨e2, e3⟩ := Prod.mk.inj e2
        subst e1 e2 e3
        rfl, Q.out⟩
  · rw [if_neg hb] at h
    cases h


-- NOT PRINTED: function 4 (conduitlaw01_OctetsNumbers)

/-! ### slices_Clone_byte_byte: function 45 -/
def slices_Clone_byte_byte.f (l0 : List Int) : Option (List Int) := if l0.length < 140737488355328 then some l0 else none
set_option maxHeartbeats 1600000 in
theorem slices_Clone_byte_byte.calls (A0 : Option Addr) (c0 : Nat) (l0 : List Int) (r : List Int) (w : World) (hr0 : Kd.C (Kd.int .u8) w A0 l0.length l0) (hc0 : l0.length ≤ c0) (h : slices_Clone_byte_byte.f l0 = some r) :
    Calls Try.prog 45 #[.slice A0 l0.length c0] w fun e w' => ∃ v0_ : Value, e = .returned (v0_) ∧ Kd.R (Kd.int .u8) 5 w' w.heap.size (fun _ => True) v0_ r ∧ Below w.heap.size w w' := by
  unfold slices_Clone_byte_byte.f at h
  by_cases hl : l0.length < 140737488355328
  · rw [if_pos hl] at h
    obtain rfl := Option.some.inj h
    have HR0 := Aside0.mk hr0
    have HL := Aside0.mk hl
    clear hr0 hl h
    cases A0 with
    | none =>
      have hz : l0 = [] := by
        have h1 := HR0.out.2.2
        by_cases hp : 0 < l0.length
        · obtain ⟨ad, e, _⟩ := h1 hp
          cases e
        · exact List.eq_nil_of_length_eq_zero (by omega)
      subst hz
      have ke := fun (w : World) (a : Option Addr) (n c : Nat) => Lib.run_eql_slice_nil (P := Try.prog) w 23 5 a n c 0 0 Try.underlying23
      go_enter Try.func45, Try.ntmps45
      go_wp2
      go_ret
      exact ⟨_, rfl, Kd.R_nil _ _ _ _ _, Below.refl _ _⟩
    | some ad =>
      have ho : Kd.R (Kd.int .u8) 5 (w.alloc (.cells #[] 5)) w.heap.size (fun _ => True) (.slice (some ⟨w.heap.size, 0, none⟩) 0 0) ([] : List Int) := by
        have hh := own_lit w w.heap.size 5 .u8 [] (Nat.le_refl _) (by simp)
        exact Kd.R_of_own hh (fun _ _ => trivial)
      have HO := Aside0.mk ho
      clear ho
      have ke := fun (w : World) (a : Option Addr) (n c : Nat) => Lib.run_eql_slice_nil (P := Try.prog) w 23 5 a n c 0 0 Try.underlying23
      go_enter Try.func45, Try.ntmps45
      go_wp2_with ((with_reducible refine gate_builtin (b := .append) (xs := #[.tmp 5, .tmp 6]) rfl ?_); at_builtin; refine Kd.R_append_rows (Kd.int .u8) (w0 := w) w.heap.size rfl (.tmp 5) (.tmp 6) 23 5 (.int .u8 0) 1 rfl Try.underlying23 info5 rfl (by decide) (by omega) (.slice (some ⟨w.heap.size, 0, none⟩) 0 0) [] l0 (some ad) l0.length c0 (fun _ => True) (fun _ => False) rfl rfl HO.out (Kd.C_alloc HR0.out _) (fun _ _ h => h) (fun _ h => h.elim) (fun _ _ => trivial) ((Below.refl _ _).alloc (Nat.le_refl _) _) (by simp) ?aL ?_; (case aL => have := HL.out; simp; omega); intro v2 w2 o2 b2 _ _; rw [List.nil_append] at o2; have O2 := Aside0.mk o2; have B2 := Aside0.mk b2; clear o2 b2)
      go_ret
      exact ⟨_, rfl, O2.out, B2.out⟩
  · rw [if_neg hl] at h
    cases h


/-! ### varint_groups: function 46 -/
/-- How many groups of seven bits a number has, and each one's byte. -/
def vCnt (v : Nat) : Nat := if h : v < 128 then 1 else vCnt (v / 128) + 1
termination_by v
decreasing_by omega
def vGrp (x : Nat) : Nat := if x < 128 then x else x % 128 + 128
theorem vCnt_pos (v : Nat) : 0 < vCnt v := by
  rw [vCnt]
  split <;> omega
theorem vCnt_small {v : Nat} (h : v < 128) : vCnt v = 1 := by rw [vCnt, dif_pos h]
theorem vCnt_big {v : Nat} (h : ¬ v < 128) : vCnt v = vCnt (v / 128) + 1 := by rw [vCnt, dif_neg h]
theorem vCnt_at (k v : Nat) (h : k < vCnt v) : vCnt v = k + vCnt (v / 128 ^ k) := by
  induction k generalizing v with
  | zero => simp
  | succ k ih =>
    by_cases hv : v < 128
    · rw [vCnt_small hv] at h
      omega
    · rw [vCnt_big hv] at h ⊢
      rw [ih (v / 128) (by omega), Nat.div_div_eq_div_mul, ← Nat.pow_succ', Nat.succ_eq_add_one]
      omega
theorem vCnt_last (k v : Nat) (h : k < vCnt v) : k + 1 = vCnt v ↔ v / 128 ^ k < 128 := by
  have h1 := vCnt_at k v h
  constructor
  · intro e
    by_cases hv : v / 128 ^ k < 128
    · exact hv
    · rw [vCnt_big hv] at h1
      have := vCnt_pos (v / 128 ^ k / 128)
      omega
  · intro hv
    rw [vCnt_small hv] at h1
    omega
theorem vCnt_bd (k v : Nat) (h : v < 128 ^ (k + 1)) : vCnt v ≤ k + 1 := by
  induction k generalizing v with
  | zero => rw [vCnt_small (by simpa using h)]; omega
  | succ k ih =>
    by_cases hv : v < 128
    · rw [vCnt_small hv]; omega
    · rw [vCnt_big hv]
      have := ih (v / 128) (by rw [Nat.pow_succ] at h; omega)
      omega
theorem vCnt_le (v : Nat) (h : v < 18446744073709551616) : vCnt v ≤ 10 := vCnt_bd 9 v (Nat.lt_of_lt_of_le h (by decide))
theorem vGrp_or (x : Nat) (h : ¬ x < 128) : Go.bits .or .u8 (((x : Nat) : Int) % 256) 128 = ((vGrp x : Nat) : Int) := by
  have h1 : ((x : Int) % 256) = ((x % 256 : Nat) : Int) := by omega
  unfold vGrp
  rw [if_neg h, h1]
  have key : ∀ y : Fin 256, Go.bits .or .u8 ((y.val : Nat) : Int) 128 = ((y.val % 128 + 128 : Nat) : Int) := by decide +kernel
  have := key ⟨x % 256, Nat.mod_lt _ (by decide)⟩
  simp only at this
  rw [this]
  omega
theorem varint_groups.makes (v : Nat) (w : World) : Calls Try.prog 46 #[.int .u64 (v : Int)] w fun e w' => e = .returned (.func (.func 50) #[] #[.pointer (some ⟨w.heap.size, 0, none⟩)]) ∧ w' = w.alloc (.cells #[.int .u64 (v : Int)] 22) := by
  go_enter Try.func46, Try.ntmps46
  go_wp2
  go_ret
  exact ⟨rfl, rfl⟩
section
attribute [local go_sem] Oper.semAt_some
set_option maxHeartbeats 1600000 in
theorem varint_groups.hands (F : Fence) (n : Nat) (hf : F.fn 50) (hro : F.round = none) (hn : 1 ≤ n) (Bn v : Nat) (hv : v < 18446744073709551616) :
    Range.Hands F n Try.prog 50 Bn (vCnt v) (fun k => #[.int .u8 ((vGrp (v / 128 ^ k) : Nat) : Int)]) (fun k => .int .u64 ((v / 128 ^ k : Nat) : Int)) := by
  intro l J J' W hY hJ hJ' hst h0
  refine callsIn_of_wp Try.func50 rfl hf ?_ hro
  simp only [Try.ntmps50, List.size_toArray, List.length_cons, List.length_nil, Nat.reduceAdd, Nat.reduceSub, Array.replicate_succ, Array.replicate_zero, List.push_toArray, List.append_toArray, List.nil_append, List.cons_append]
  gi_wp2
  gi_loopw [] (fun wr => ∃ k, k < vCnt v ∧ J k wr) (fun wr => match wr.cell? ⟨Bn, 0, none⟩ with | some (.int _ z) => z.toNat | _ => 0)
  case atStart => exact ⟨0, vCnt_pos v, h0⟩
  case round =>
    obtain ⟨k, hk, hj⟩ := hrel
    obtain ⟨hc, hz⟩ := hJ k wr hj
    have hl := vCnt_last k v hk
    have hs : ((v / 128 ^ (k + 1) : Nat) : Int) = ((v / 128 ^ k : Nat) : Int) / 128 := by rw [Nat.pow_succ, ← Nat.div_div_eq_div_mul]; omega
    have hst' := hst k
    have hJ2 := hJ' k
    obtain ⟨fn, tmps, assign, body, hy, hR⟩ := hY k wr hk hj
    have hx2 : v / 128 ^ k < 18446744073709551616 := Nat.lt_of_le_of_lt (Nat.div_le_self _ _) hv
    dsimp only at hy hc hst' hJ2
    rw [hs] at hst'
    clear hJ hJ' hst hY hv
    obtain ⟨x, hx⟩ : ∃ x, v / 128 ^ k = x := ⟨_, rfl⟩
    rw [hx] at hc hl hy hx2 hst' hJ2
    clear hx hs
    by_cases hlt : x < 128
    · have hg : vGrp x = x := by unfold vGrp; rw [if_pos hlt]
      have hlast := hl.2 hlt
      have HLT := Aside0.mk hlast
      rw [hg] at hy
      clear hl hst' hg hlast
      have hd : decide (128 ≤ (x : Int)) = false := decide_eq_false (by omega)
      gi_wp2
      refine hR.mono ?_
      rintro e W' ⟨rfl, hj'⟩
      gi_wp2
      go_end0
      have hk1 : k = vCnt v - 1 := by have := HLT.out; omega
      exact ⟨⟨_, rfl⟩, by rw [← hk1]; exact hj'⟩
    · have hd : decide (128 ≤ (x : Int)) = true := decide_eq_true (by omega)
      have hlast : k + 1 < vCnt v := by
        rcases Nat.lt_or_ge (k + 1) (vCnt v) with h | h
        · exact h
        · exact absurd (hl.1 (by omega)) hlt
      rw [← vGrp_or x hlt] at hy
      clear hl
      gi_wp2
      refine hR.mono ?_
      rintro e W' ⟨rfl, hj'⟩
      obtain ⟨hc', hz'⟩ := hJ2 W' hj'
      have hj2 := Aside0.mk (hst' W' hlast hj')
      clear hst' hJ2
      gi_wp2
      refine ⟨⟨k + 1, hlast, hj2.out⟩, ?_⟩
      rw [World.cell?_setCell_same' _ _ _ (by rw [hc']; rfl), hc]
      show ((x : Int) / 128).toNat < ((x : Int)).toNat
      omega
end


/-! ### varint_Put: function 19 -/
/-- The first k groups' bytes. -/
def vBytes (v k : Nat) : List Int := (List.range k).map fun j => ((vGrp (v / 128 ^ j) : Nat) : Int)
theorem vBytes_succ (v k : Nat) : vBytes v (k + 1) = vBytes v k ++ [((vGrp (v / 128 ^ k) : Nat) : Int)] := by simp [vBytes, List.range_succ]
theorem vBytes_length (v k : Nat) : (vBytes v k).length = k := by simp [vBytes]
def varint_Put.f (l0 : List Int) (a1 : Int) : Option (List Int) := if 0 ≤ a1 then if a1 ≤ 18446744073709551615 then if (l0.length : Int) ≤ 140737488355000 then some (l0 ++ vBytes a1.toNat (vCnt a1.toNat)) else none else none else none
section
attribute [local go_sem] Oper.semAt_some
set_option maxHeartbeats 3200000 in
theorem varint_Put.calls (A0 : Option Addr) (c0 : Nat) (l0 : List Int) (a1 : Int) (r : List Int) (w : World) (hr0 : Kd.C (Kd.int .u8) w A0 l0.length l0) (hc0 : l0.length ≤ c0) (h : varint_Put.f l0 a1 = some r) :
    Calls Try.prog 19 #[.slice A0 l0.length c0, .int .u64 a1] w fun e w' => ∃ v0_ : Value, e = .returned (v0_) ∧ Kd.R (Kd.int .u8) 5 w' w.heap.size (fun _ => True) v0_ r ∧ Below w.heap.size w w' := by
  unfold varint_Put.f at h
  by_cases h0 : 0 ≤ a1
  · by_cases h1 : a1 ≤ 18446744073709551615
    · by_cases h2 : (l0.length : Int) ≤ 140737488355000
      · rw [if_pos h0, if_pos h1, if_pos h2] at h
        obtain ⟨v, rfl⟩ : ∃ v : Nat, a1 = (v : Int) := ⟨a1.toNat, by omega⟩
        rw [Int.toNat_natCast] at h
        obtain rfl := Option.some.inj h
        have hv : v < 18446744073709551616 := by omega
        have HV := Aside0.mk hv
        have HC := Aside0.mk (vCnt_le v hv)
        have HL := Aside0.mk h2
        have HR := Aside0.mk hr0
        have hcl : slices_Clone_byte_byte.f l0 = some l0 := by unfold slices_Clone_byte_byte.f; rw [if_pos (by omega)]
        have HCL := Aside0.mk hcl
        obtain ⟨i0, hi, hz0, hz1, hz2⟩ := info_parts info5
        clear h h0 h1 h2 hv hr0 hcl
        refine (callsIn_wide (n := 3)).1 ?_
        refine callsIn_of_wp_marks Try.func19 rfl trivial ?_ rfl
        simp only [Try.ntmps19, List.size_toArray, List.length_cons, List.length_nil, Nat.reduceAdd, Nat.reduceSub, Array.replicate_succ, Array.replicate_zero, List.push_toArray, List.append_toArray, List.nil_append, List.cons_append]
        gi_wp2
        refine ⟨trivial, (callsIn_wide.2 (slices_Clone_byte_byte.calls A0 c0 l0 l0 _ HR.out hc0 HCL.out)).mono ?_⟩
        rintro e w1 ⟨x1, rfl, o1, b1⟩
        obtain ⟨A1, c1, e1⟩ := Kd.R_slice o1
        subst e1
        have r1 : w1.ownsRow w.heap.size 5 1 (.slice A1 l0.length c1) l0.length (nums .u8 l0) := Kd.own_of_R o1
        have R1 := Aside0.mk r1
        have B1 := Aside0.mk b1
        clear o1 r1 b1 HR HCL
        gi_wp2
        refine ⟨trivial, (callsIn_wide.2 (varint_groups.makes v _)).mono ?_⟩
        rintro e w3 ⟨rfl, hw3⟩
        obtain ⟨w2, hw2⟩ : ∃ w2, w1.alloc (.cells #[.slice A1 l0.length c1] 23) = w2 := ⟨_, rfl⟩
        rw [hw2] at hw3 ⊢
        obtain ⟨m, hm⟩ : ∃ m, w1.heap.size = m := ⟨_, rfl⟩
        have hm0 : w.heap.size ≤ m := by have := B1.out.size; omega
        have hz2' : w2.heap.size = m + 1 := by rw [← hw2, World.size_alloc, hm]
        have hx2 : Boxed w2 m 23 (.slice A1 l0.length c1) := by rw [← hw2, ← hm]; exact Boxed.new _ _ _
        have hr2 : w2.ownsRow w.heap.size 5 1 (.slice A1 l0.length c1) l0.length (nums .u8 l0) := by rw [← hw2]; exact R1.out.alloc _
        have hb2 : Below w.heap.size w w2 := by rw [← hw2]; exact B1.out.alloc B1.out.size _
        have hz3 : w3.heap.size = m + 2 := by rw [hw3, World.size_alloc, hz2']
        have hx3 : Boxed w3 m 23 (.slice A1 l0.length c1) := by rw [hw3]; exact hx2.alloc _
        have hr3 : w3.ownsRow w.heap.size 5 1 (.slice A1 l0.length c1) l0.length (nums .u8 l0) := by rw [hw3]; exact hr2.alloc _
        have hn3 : Boxed w3 (m + 1) 22 (.int .u64 (v : Int)) := by rw [hw3, ← hz2']; exact Boxed.new _ _ _
        have hb3 : Below w.heap.size w w3 := by rw [hw3]; exact hb2.alloc hb2.size _
        rw [hz2', hm]
        have X3 := Aside0.mk hx3
        have R3 := Aside0.mk hr3
        have N3 := Aside0.mk hn3
        have B3 := Aside0.mk hb3
        have Z3 := Aside0.mk hz3
        have M0 := Aside0.mk hm0
        clear hw3 hw2 hm hm0 hz2' hx2 hr2 hb2 hz3 hx3 hr3 hn3 hb3 R1 B1
        gi_wp2
        refine Range.range_cell (F := Fence.wide) rfl (by omega) (gf := 50) (Bn := m + 1) rfl trivial (enters_of Try.func50 (by kernel_rfl) rfl)
          (N := vCnt v) (x := fun k => #[.int .u8 ((vGrp (v / 128 ^ k) : Nat) : Int)]) (u := fun k => .int .u64 ((v / 128 ^ k : Nat) : Int)) (fun _ => rfl) (varint_groups.hands Fence.wide 2 trivial rfl (by omega) (m + 1) v HV.out)
          (fun k W => (∃ x, Boxed W m 23 x ∧ W.ownsRow w.heap.size 5 1 x (l0 ++ vBytes v k).length (nums .u8 (l0 ++ vBytes v k))) ∧ Boxed W (m + 1) 22 (.int .u64 ((v / 128 ^ k : Nat) : Int)) ∧ Below w.heap.size w W)
          (fun k W => (∃ x, Boxed W m 23 x ∧ W.ownsRow w.heap.size 5 1 x (l0 ++ vBytes v (k + 1)).length (nums .u8 (l0 ++ vBytes v (k + 1)))) ∧ Boxed W (m + 1) 22 (.int .u64 ((v / 128 ^ k : Nat) : Int)) ∧ Below w.heap.size w W)
          ?ab ?ab' (fun k W h => ⟨h.2.1.cell, h.2.1.frozen⟩) (fun k W h => ⟨h.2.1.cell, h.2.1.frozen⟩) ?step ?start
          (fun k => { tmps := #[.slice A0 l0.length c0, .int .u64 (v : Int), undef, undef, .slice none 0 0, .pointer (some ⟨m, 0, none⟩), .int .u8 ((vGrp (v / 128 ^ k) : Nat) : Int), .slice A0 l0.length c0, .slice A1 l0.length c1, .int .u64 (v : Int), .func (.func 50) #[] #[.pointer (some ⟨m + 1, 0, none⟩)], .int .u8 ((vGrp (v / 128 ^ k) : Nat) : Int), undef, undef, undef, undef, undef], defers := [] })
          ?assign ?body ?done
        case ab =>
          rintro k W l o o' ⟨⟨x, h1, h2⟩, h3, h4⟩ hl hlo ho
          have hz := Z3.out
          have hmz := M0.out
          exact ⟨⟨x, (World.putObj_heap_other (by omega)).trans h1, ownsRow_putObj h2 _ hlo ho⟩, (World.putObj_heap_other (by omega)).trans h3, Range.below_putObj h4 l o' (by omega) (blk_lt hlo)⟩
        case ab' =>
          rintro k W l o o' ⟨⟨x, h1, h2⟩, h3, h4⟩ hl hlo ho
          have hz := Z3.out
          have hmz := M0.out
          exact ⟨⟨x, (World.putObj_heap_other (by omega)).trans h1, ownsRow_putObj h2 _ hlo ho⟩, (World.putObj_heap_other (by omega)).trans h3, Range.below_putObj h4 l o' (by omega) (blk_lt hlo)⟩
        case step =>
          rintro k W _ ⟨⟨x, h1, h2⟩, h3, h4⟩
          have hmz := M0.out
          exact ⟨⟨x, h1.kept (grownBy_setCell' W (m + 1) _) (by simp), h2.kept (grownBy_setCell' W (m + 1) _) (.inr (h3.not_row (by decide) h2).symm)⟩, h3.set _, h4.setCell (by simp; omega) _⟩
        case start =>
          intro o o'
          have hz := Z3.out
          have hmz := M0.out
          exact ⟨⟨_, (X3.out.alloc _).alloc _, by simpa [vBytes] using (R3.out.alloc _).alloc _⟩, by simpa using (N3.out.alloc _).alloc _, (B3.out.alloc (by omega) _).alloc (by simp; omega) _⟩
        case assign =>
          intro l k W K hK
          gi_wp2
          simpa using hK
        case body =>
          rintro l k W hk ⟨⟨x, hx, hrow⟩, hn, hb⟩
          have hc := hx.cell
          have hle := HC.out
          have hll := HL.out
          have hmz := M0.out
          have hsz := hb.size
          have hn2 : (l0 ++ vBytes v (k + 1)).length = (l0 ++ vBytes v k).length + 1 := by rw [vBytes_succ]; simp; omega
          have hn3 : nums .u8 (l0 ++ vBytes v (k + 1)) = nums .u8 (l0 ++ vBytes v k) ++ [.int .u8 ((vGrp (v / 128 ^ k) : Nat) : Int)] := by rw [vBytes_succ, ← List.append_assoc]; simp [nums]
          have hlen : (l0 ++ vBytes v k).length = l0.length + k := by rw [List.length_append, vBytes_length]
          have HN := Aside0.mk hn
          have HB := Aside0.mk hb
          clear hn hb
          rw [hn2, hn3]
          clear hn2 hn3
          obtain ⟨y, hy⟩ : ∃ y, l0 ++ vBytes v k = y := ⟨_, rfl⟩
          rw [hy] at hlen hrow ⊢
          clear hy
          have hmx : y.length + 1 ≤ maxLen := by rw [hlen]; unfold maxLen; omega
          have hml : y.length + 1 ≤ 140737488355328 := by omega
          clear hlen
          gi_wp2_with (gi_at_builtin; refine wpListIn_append_own _ rfl _ _ 23 rfl w.heap.size 5 i0 (.int .u8 0) 1 1 Try.underlying23 hi hz0 hz1 hz2 rfl (by decide) _ _ _ rfl (hrow.alloc _) ⟨W.heap.size, 0, none⟩ 1 1 [.int .u8 ((vGrp (v / 128 ^ k) : Nat) : Int)] rfl rfl (cell_one_new _ _ _) (by simp [Value.oneCell']) (by omega) (by omega) (by simp; omega) ?_; intro v' w1 hown' hgrow _; obtain ⟨g', cap', rfl⟩ := ownsRow_succ hown'; obtain ⟨hv1, hv2, hr2, hk2, hb2⟩ := hx.appended (by decide) hrow hsz M0.out hown' hgrow; have hc1 := hv1.cell; have hf1 := hv1.frozen; have hn1 : Boxed w1 (m + 1) 22 (.int .u64 ((v / 128 ^ k : Nat) : Int)) := (HN.out.alloc _).kept hgrow (by exact (HN.out.not_row (by decide) hrow)))
          exact ⟨⟨_, hv2, hr2⟩, hn1.kept (grownBy_setCell' w1 m _) (by simp), HB.out.trans hb2⟩
        case done =>
          rintro D W hD ⟨⟨x, hx, hrow⟩, hn, hb⟩ hK
          have hp := vCnt_pos v
          rw [show vCnt v - 1 + 1 = vCnt v by omega] at hrow
          have hc := hx.cell
          have HB := Aside0.mk hb
          have HD : Aside0 (w.heap.size ≤ D) := ⟨by have := Z3.out; have := M0.out; omega⟩
          clear hn hb
          gi_wp2
          refine ⟨by simp, .inl ⟨_, _, rfl, run_takeDeferred hK, ?_⟩⟩
          exact ⟨_, results_tmp rfl _ _ _, _, rfl, Kd.R_of_own (ownsRow_putObj hrow _ hK rfl) (fun _ _ => trivial), Range.below_putObj HB.out D _ HD.out (blk_lt hK)⟩
      · rw [if_pos h0, if_pos h1, if_neg h2] at h
        cases h
    · rw [if_pos h0, if_neg h1] at h
      cases h
  · rw [if_neg h0] at h
    cases h
end


/-! ### varint_Get: function 21 -/
/-- The groups from place a on, the i-th one next, d bytes left; the number so far; the place behind. -/
def vLoop (l : List Int) (a : Nat) : Nat → Nat → Int → Option (Int × Nat)
  | 0, _, _ => none
  | d + 1, i, acc => if i = 9 ∧ rd l ((a + i : Nat) : Int) > 1 ∨ 0 < i ∧ rd l ((a + i : Nat) : Int) = 0 then none else
      if rd l ((a + i : Nat) : Int) < 128 then some (acc + rd l ((a + i : Nat) : Int) * 2 ^ (7 * i), i + 1) else vLoop l a d (i + 1) (acc + (rd l ((a + i : Nat) : Int) - 128) * 2 ^ (7 * i))
def varint_Get.f (l0 : List Int) (a1 : Int) : Option (Int × Int × Bool) := if isBytes l0 = true then if (l0.length : Int) ≤ 9223372036854775000 then
  if 0 ≤ a1 ∧ a1 ≤ (l0.length : Int) then match vLoop l0 a1.toNat (min (l0.length - a1.toNat) 10) 0 0 with
    | some (n, m) => some (n, a1 + (m : Int), true)
    | none => some (0, 0, false) else some (0, 0, false) else none else none
theorem vor (acc c : Int) (i : Nat) (hi : i ≤ 9) (h0 : 0 ≤ acc) (h1 : acc < 2 ^ (7 * i)) (c0 : 0 ≤ c) (c1 : c < 128) (c9 : i = 9 → c ≤ 1) :
    Go.bits .or .u64 acc (IntKind.u64.wrap (c * 2 ^ (7 * i))) = acc + c * 2 ^ (7 * i) ∧ 0 ≤ acc + c * 2 ^ (7 * i) ∧ (i < 9 → acc + c * 2 ^ (7 * i) < 2 ^ (7 * (i + 1))) := by
  have hp : (0 : Int) < 2 ^ (7 * i) := Int.pow_pos (by decide)
  have hm : c * 2 ^ (7 * i) < 18446744073709551616 ∧ (2 : Int) ^ (7 * i) ≤ 9223372036854775808 := by
    have key : ∀ j : Fin 10, (2 : Int) ^ (7 * j.val) ≤ 9223372036854775808 ∧ (j.val < 9 → (2 : Int) ^ (7 * j.val) ≤ 72057594037927936) := by decide
    have k1 := key ⟨i, by omega⟩
    refine ⟨?_, k1.1⟩
    rcases Nat.lt_or_ge i 9 with h | h
    · have h2 := k1.2 h
      have : c * 2 ^ (7 * i) ≤ 127 * 2 ^ (7 * i) := Int.mul_le_mul_of_nonneg_right (by omega) (by omega)
      simp only at h2
      omega
    · have h3 := c9 (by omega)
      have : c * 2 ^ (7 * i) ≤ 1 * 2 ^ (7 * i) := Int.mul_le_mul_of_nonneg_right (by omega) (by omega)
      have h4 := k1.1
      simp only at h4
      omega
  have hn : 0 ≤ c * 2 ^ (7 * i) := Int.mul_nonneg c0 (by omega)
  have hw : IntKind.u64.wrap (c * 2 ^ (7 * i)) = c * 2 ^ (7 * i) := by rw [IntKind.wrap_u64]; omega
  have hc : Go.bits .or .u64 acc (c * 2 ^ (7 * i)) = Go.bits .or .u64 (c * 2 ^ (7 * i)) acc := by simp only [Go.bits, BitVec.or_comm]
  refine ⟨?_, by omega, fun h9 => ?_⟩
  · rw [hw, hc, bits_join .u64 64 (by decide) (fun m m0 m1 => by rw [IntKind.wrap_u64]; rw [show (2 : Int) ^ 64 = 18446744073709551616 by decide] at m1; omega) (7 * i) _ _ hn (Int.mul_emod_left _ _) (by rw [show (2 : Int) ^ 64 = 18446744073709551616 by decide]; omega) h0 h1 (by rw [show (2 : Int) ^ 64 = 18446744073709551616 by decide]; omega)]
    omega
  · have : c * 2 ^ (7 * i) ≤ 127 * 2 ^ (7 * i) := Int.mul_le_mul_of_nonneg_right (by omega) (by omega)
    have e : (2 : Int) ^ (7 * (i + 1)) = 2 ^ (7 * i) * 128 := by rw [show 7 * (i + 1) = 7 * i + 7 by omega, Int.pow_add]; rfl
    rw [e]
    omega
theorem and127 (c : Int) (h0 : 0 ≤ c) (h1 : c < 256) : Go.bits .and .u8 c 127 = c % 128 := by
  have key : ∀ y : Fin 256, Go.bits .and .u8 ((y.val : Nat) : Int) 127 = ((y.val % 128 : Nat) : Int) := by decide +kernel
  have := key ⟨c.toNat, by omega⟩
  simp only at this
  rw [show ((c.toNat : Nat) : Int) = c by omega] at this
  rw [this]
  omega
set_option maxHeartbeats 3200000 in
theorem varint_Get.calls (A0 : Option Addr) (c0 : Nat) (l0 : List Int) (a1 : Int) (r1 : Int) (r2 : Int) (r3 : Bool) (w : World) (hr0 : Kd.C (Kd.int .u8) w A0 l0.length l0) (hc0 : l0.length ≤ c0) (h : varint_Get.f l0 a1 = some (r1, r2, r3)) :
    Calls Try.prog 21 #[.slice A0 l0.length c0, .int .i64 a1] w fun e w' => e = .returned (.tuple #[.int .u64 r1, .int .i64 r2, .bool r3]) ∧ Drawn0 w w' := by
  unfold varint_Get.f at h
  by_cases hb : isBytes l0 = true
  · by_cases hmax : (l0.length : Int) ≤ 9223372036854775000
    · rw [if_pos hb, if_pos hmax] at h
      have HB := Aside0.mk hb
      have HR := Aside0.mk hr0
      by_cases hin : 0 ≤ a1 ∧ a1 ≤ (l0.length : Int)
      · rw [if_pos hin] at h
        obtain ⟨a, rfl⟩ : ∃ a : Nat, a1 = (a : Int) := ⟨a1.toNat, by omega⟩
        rw [Int.toNat_natCast] at h
        obtain ⟨d, hd⟩ : ∃ d, min (l0.length - a) 10 = d := ⟨_, rfl⟩
        rw [hd] at h
        have HH := Aside0.mk h
        have hd10 : d ≤ 10 := by omega
        have hda : a + d ≤ l0.length := by omega
        have hmin : (if (a : Int) + 10 < (l0.length : Int) then (a : Int) + 10 else (l0.length : Int)) = (a : Int) + (d : Int) := by split <;> omega
        obtain ⟨i0, hi0, _, hsz0, _⟩ := info_parts info5
        have hcut := cut_mid (P := Try.prog) 23 5 .i64 .i64 Try.underlying23 hi0 1 hsz0 A0 l0.length c0 (a : Int) ((a : Int) + (d : Int)) (by omega) (by omega) (by omega) hc0
        have hmid := Kd.C_mid (c := c0) (lo := a) (hi := a + d) HR.out (by omega) (by omega) hc0
        have hlen : ((l0.take (a + d)).drop a).length = d := by rw [List.length_drop, List.length_take]; omega
        rw [hlen] at hmid
        rw [Int.toNat_natCast, show ((a : Int) + (d : Int)).toNat = a + d by omega, show a + d - a = d by omega] at hcut
        obtain ⟨A', hA'⟩ : ∃ A', (if c0 = a then A0 else A0.map (·.add (a * 1))) = A' := ⟨_, rfl⟩
        rw [hA'] at hcut
        have hmid : Kd.C (Kd.int .u8) w A' d ((l0.take (a + d)).drop a) := by rw [← hA']; exact hmid
        have HM := Aside0.mk hmid
        have hrd : ∀ i : Nat, i < d → rd ((l0.take (a + d)).drop a) (i : Int) = rd l0 ((a + i : Nat) : Int) := by
          intro i hi
          unfold rd
          rw [Int.toNat_natCast, Int.toNat_natCast, List.getD_eq_getElem?_getD, List.getD_eq_getElem?_getD, List.getElem?_drop, List.getElem?_take_of_lt (by omega)]
        have HRD := Aside0.mk hrd
        have d1 : decide ((a : Int) < 0) = false := decide_eq_false (by omega)
        have d2 : decide ((l0.length : Int) < (a : Int)) = false := decide_eq_false (by omega)
        have d2' : decide (l0.length < a) = false := decide_eq_false (by omega)
        clear h hd hb hr0 hmid hrd hA' hlen hi0 hsz0 hin hc0
        go_enter Try.func21, Try.ntmps21
        go_wp2
        have hv0 : vLoop l0 a (d - 0) 0 0 = vLoop l0 a d 0 0 := by rw [Nat.sub_zero]
        go_loop [7, 27] (fun n i => ∃ (k : Nat) (acc : Int), k ≤ d ∧ i = .int .i64 k ∧ n = .int .u64 acc ∧ Aside0 (0 ≤ acc ∧ acc < 2 ^ (7 * k) ∧ vLoop l0 a (d - k) k acc = vLoop l0 a d 0 0)) (fun _ i => d - (intOf i).toNat)
        case atStart => exact ⟨0, 0, Nat.zero_le _, rfl, rfl, ⟨Int.le_refl 0, by decide, hv0⟩⟩
        case round =>
          obtain ⟨k, acc, hk, rfl, rfl, HA⟩ := hrel
          clear hv0
          by_cases hlt : k < d
          · have ht : decide ((k : Int) < (d : Int)) = true := decide_eq_true (by omega)
            obtain ⟨ad, e1, cell⟩ := Kd.at_int HM.out (k : Int) (by omega) (by omega)
            subst e1
            rw [HRD.out k hlt, Int.toNat_natCast] at cell
            have hb2 := isBytes_rd HB.out ((a + k : Nat) : Int)
            obtain ⟨x, hx⟩ : ∃ x, rd l0 ((a + k : Nat) : Int) = x := ⟨_, rfl⟩
            have HX := Aside0.mk hx
            rw [hx] at cell hb2
            have d3 : ((k : Int) < (d : Int)) = True := eq_true (by omega)
            clear hx
            obtain ⟨e, he⟩ : ∃ e, d - k = e + 1 := ⟨d - k - 1, by omega⟩
            have hstep : vLoop l0 a (d - k) k acc = if k = 9 ∧ x > 1 ∨ 0 < k ∧ x = 0 then none else if x < 128 then some (acc + x * 2 ^ (7 * k), k + 1) else vLoop l0 a (d - (k + 1)) (k + 1) (acc + (x - 128) * 2 ^ (7 * k)) := by
              rw [he, vLoop, HX.out, show d - (k + 1) = e by omega]
            have HS := Aside0.mk hstep
            clear hstep he
            have hm7 : (7 * (k : Int)) ≤ 63 := by omega
            by_cases h9 : k = 9
            · have b9 : ((k : Int) == 9) = true := beq_iff_eq.2 (by omega)
              have b0 : decide (0 < (k : Int)) = true := decide_eq_true (by omega)
              have b0n : decide (0 < k) = true := decide_eq_true (by omega)
              by_cases hx1 : x > 1
              · have bx : decide (1 < x) = true := decide_eq_true hx1
                have hbad : Aside0 (k = 9 ∧ x > 1 ∨ 0 < k ∧ x = 0) := ⟨.inl ⟨h9, hx1⟩⟩
                clear h9
                go_wp2
                go_ret3
                exact ⟨by
                  have hh := HH.out
                  rw [← HA.out.2.2, HS.out, if_pos hbad.out] at hh
                  obtain ⟨e1, e2⟩ := Prod.mk.inj (Option.some.inj hh)
                  obtain ⟨e2, e3⟩ := Prod.mk.inj e2
                  subst e1 e2 e3
                  rfl, Drawn0.refl _⟩
              · have bx : decide (1 < x) = false := decide_eq_false hx1
                by_cases hx0 : x = 0
                · have bz : (x == 0) = true := beq_iff_eq.2 hx0
                  have hbad : Aside0 (k = 9 ∧ x > 1 ∨ 0 < k ∧ x = 0) := ⟨.inr ⟨by omega, hx0⟩⟩
                  clear h9 hx0
                  go_wp2
                  go_ret3
                  exact ⟨by
                    have hh := HH.out
                    rw [← HA.out.2.2, HS.out, if_pos hbad.out] at hh
                    obtain ⟨e1, e2⟩ := Prod.mk.inj (Option.some.inj hh)
                    obtain ⟨e2, e3⟩ := Prod.mk.inj e2
                    subst e1 e2 e3
                    rfl, Drawn0.refl _⟩
                · have bz : (x == 0) = false := beq_eq_false_iff_ne.2 hx0
                  have hgood : Aside0 (¬ (k = 9 ∧ x > 1 ∨ 0 < k ∧ x = 0)) := ⟨by omega⟩
                  have hlast : x < 128 := by omega
                  have h9' : k = 9 → x ≤ 1 := fun _ => by omega
                  clear h9
                  have hv := vor acc x k (by omega) HA.out.1 HA.out.2.1 hb2.1 hlast h9'
                  have hv1 := Aside0.mk hv.1
                  have hand : Go.bits .and .u8 x 127 = x := by rw [and127 x hb2.1 hb2.2]; omega
                  have dl : decide (x < 128) = true := decide_eq_true hlast
                  have HL := Aside0.mk hlast
                  clear hv h9' hlast
                  go_wp2
                  go_ret3
                  exact ⟨by
                    have hh := HH.out
                    rw [← HA.out.2.2, HS.out, if_neg hgood.out, if_pos HL.out] at hh
                    obtain ⟨e1, e2⟩ := Prod.mk.inj (Option.some.inj hh)
                    obtain ⟨e2, e3⟩ := Prod.mk.inj e2
                    rw [hv1.out, e1, ← e2, ← e3, show (a : Int) + ((k + 1 : Nat) : Int) = (a : Int) + (k : Int) + 1 by omega]
                    rfl, Drawn0.refl _⟩
            · have b9 : ((k : Int) == 9) = false := beq_eq_false_iff_ne.2 (by omega)
              by_cases hx0 : 0 < k ∧ x = 0
              · have b0 : decide (0 < (k : Int)) = true := decide_eq_true (by omega)
                have b0n : decide (0 < k) = true := decide_eq_true (by omega)
                have bz : (x == 0) = true := beq_iff_eq.2 hx0.2
                have hbad : Aside0 (k = 9 ∧ x > 1 ∨ 0 < k ∧ x = 0) := ⟨.inr hx0⟩
                clear h9 hx0
                go_wp2
                go_ret3
                exact ⟨by
                  have hh := HH.out
                  rw [← HA.out.2.2, HS.out, if_pos hbad.out] at hh
                  obtain ⟨e1, e2⟩ := Prod.mk.inj (Option.some.inj hh)
                  obtain ⟨e2, e3⟩ := Prod.mk.inj e2
                  subst e1 e2 e3
                  rfl, Drawn0.refl _⟩
              · have hgood : Aside0 (¬ (k = 9 ∧ x > 1 ∨ 0 < k ∧ x = 0)) := ⟨by omega⟩
                have h9' : k = 9 → x ≤ 1 := fun hh => absurd hh h9
                by_cases hk0 : 0 < k
                · have b0 : decide (0 < (k : Int)) = true := decide_eq_true (by omega)
                  have b0n : decide (0 < k) = true := decide_eq_true (by omega)
                  have bz : (x == 0) = false := beq_eq_false_iff_ne.2 (by omega)
                  by_cases hlast : x < 128
                  · have hk9 : k < 9 := by omega
                    clear h9 hx0 hk0
                    have hv := vor acc x k (by omega) HA.out.1 HA.out.2.1 hb2.1 hlast h9'
                    have hv1 := Aside0.mk hv.1
                    have hand : Go.bits .and .u8 x 127 = x := by rw [and127 x hb2.1 hb2.2]; omega
                    have dl : decide (x < 128) = true := decide_eq_true hlast
                    have HL := Aside0.mk hlast
                    clear hv h9' hlast
                    go_wp2
                    go_ret3
                    exact ⟨by
                      have hh := HH.out
                      rw [← HA.out.2.2, HS.out, if_neg hgood.out, if_pos HL.out] at hh
                      obtain ⟨e1, e2⟩ := Prod.mk.inj (Option.some.inj hh)
                      obtain ⟨e2, e3⟩ := Prod.mk.inj e2
                      rw [hv1.out, e1, ← e2, ← e3, show (a : Int) + ((k + 1 : Nat) : Int) = (a : Int) + (k : Int) + 1 by omega]
                      rfl, Drawn0.refl _⟩
                  · have hk9 : k < 9 := by omega
                    clear h9 hx0 hk0
                    have hv := vor acc (x - 128) k (by omega) HA.out.1 HA.out.2.1 (by omega) (by omega) (fun hh => by have := h9' hh; omega)
                    have HV := Aside0.mk hv
                    have hw8 : IntKind.u64.wrap (x - 128) = x - 128 := by rw [IntKind.wrap_u64]; omega
                    have hand : Go.bits .and .u8 x 127 = x - 128 := by rw [and127 x hb2.1 hb2.2]; omega
                    have dl : decide (x < 128) = false := decide_eq_false hlast
                    have HL := Aside0.mk hlast
                    clear hv h9' hlast
                    go_wp2
                    refine ⟨⟨k + 1, acc + (x - 128) * 2 ^ (7 * k), by omega, by go_num, by rw [HV.out.1], ⟨HV.out.2.1, HV.out.2.2 hk9, ?_⟩⟩, by simp [intOf]; omega⟩
                    rw [← HA.out.2.2, HS.out, if_neg hgood.out, if_neg HL.out]
                · have b0 : decide (0 < (k : Int)) = false := decide_eq_false (by omega)
                  have b0n : decide (0 < k) = false := decide_eq_false (by omega)
                  by_cases hlast : x < 128
                  · have hk9 : k < 9 := by omega
                    clear h9 hx0 hk0
                    have hv := vor acc x k (by omega) HA.out.1 HA.out.2.1 hb2.1 hlast h9'
                    have hv1 := Aside0.mk hv.1
                    have hand : Go.bits .and .u8 x 127 = x := by rw [and127 x hb2.1 hb2.2]; omega
                    have dl : decide (x < 128) = true := decide_eq_true hlast
                    have HL := Aside0.mk hlast
                    clear hv h9' hlast
                    go_wp2
                    go_ret3
                    exact ⟨by
                      have hh := HH.out
                      rw [← HA.out.2.2, HS.out, if_neg hgood.out, if_pos HL.out] at hh
                      obtain ⟨e1, e2⟩ := Prod.mk.inj (Option.some.inj hh)
                      obtain ⟨e2, e3⟩ := Prod.mk.inj e2
                      rw [hv1.out, e1, ← e2, ← e3, show (a : Int) + ((k + 1 : Nat) : Int) = (a : Int) + (k : Int) + 1 by omega]
                      rfl, Drawn0.refl _⟩
                  · have hk9 : k < 9 := by omega
                    clear h9 hx0 hk0
                    have hv := vor acc (x - 128) k (by omega) HA.out.1 HA.out.2.1 (by omega) (by omega) (fun hh => by have := h9' hh; omega)
                    have HV := Aside0.mk hv
                    have hw8 : IntKind.u64.wrap (x - 128) = x - 128 := by rw [IntKind.wrap_u64]; omega
                    have hand : Go.bits .and .u8 x 127 = x - 128 := by rw [and127 x hb2.1 hb2.2]; omega
                    have dl : decide (x < 128) = false := decide_eq_false hlast
                    have HL := Aside0.mk hlast
                    clear hv h9' hlast
                    go_wp2
                    refine ⟨⟨k + 1, acc + (x - 128) * 2 ^ (7 * k), by omega, by go_num, by rw [HV.out.1], ⟨HV.out.2.1, HV.out.2.2 hk9, ?_⟩⟩, by simp [intOf]; omega⟩
                    rw [← HA.out.2.2, HS.out, if_neg hgood.out, if_neg HL.out]
          · obtain rfl : k = d := by omega
            go_wp2
            go_ret3
            exact ⟨by
              have hh := HH.out
              rw [← HA.out.2.2, Nat.sub_self] at hh
              obtain ⟨e1, e2⟩ := Prod.mk.inj (Option.some.inj hh)
              obtain ⟨e2, e3⟩ := Prod.mk.inj e2
              subst e1 e2 e3
              rfl, Drawn0.refl _⟩
      · rw [if_neg hin] at h
        obtain ⟨e1, e2⟩ := Prod.mk.inj (Option.some.inj h)
        obtain ⟨e2, e3⟩ := Prod.mk.inj e2
        subst e1 e2 e3
        by_cases hneg : a1 < 0
        · have d1 : decide (a1 < 0) = true := decide_eq_true hneg
          clear hin h hb hr0
          go_enter Try.func21, Try.ntmps21
          go_wp2
          go_ret3
          exact ⟨rfl, Drawn0.refl _⟩
        · have d1 : decide (a1 < 0) = false := decide_eq_false hneg
          have d2 : decide ((l0.length : Int) < a1) = true := decide_eq_true (by omega)
          clear hin h hb hr0
          go_enter Try.func21, Try.ntmps21
          go_wp2
          go_ret3
          exact ⟨rfl, Drawn0.refl _⟩
    · rw [if_pos hb, if_neg hmax] at h
      cases h
  · rw [if_neg hb] at h
    cases h


/-! ### conduitlow_Pick: function 22 -/
def conduitlow_Pick.f (a0 : Int) (a1 : Int) : Option (Int) := if a1 ≤ 0 then (some 0) else (if a1 = 0 then (none) else (if (Int.tmod a0 a1) < 0 then (some (wrap64 ((Int.tmod a0 a1) + a1))) else (some (Int.tmod a0 a1))))
set_option maxHeartbeats 8000000 in
set_option maxRecDepth 100000 in
theorem conduitlow_Pick.calls (a0 : Int) (a1 : Int) (r : Int) (w : World) (h : conduitlow_Pick.f a0 a1 = some r) :
    Calls Try.prog 22 #[.int .i64 a0, .int .i64 a1] w fun e w' => e = .returned (.int .i64 r) ∧ Drawn0 w w' := by
  have H : (if a1 ≤ 0 then (some 0) else (if a1 = 0 then (none) else (if (Int.tmod a0 a1) < 0 then (some (wrap64 ((Int.tmod a0 a1) + a1))) else (some (Int.tmod a0 a1))))) = some r := h
  clear h
  by_cases c3 : a1 ≤ 0
  · rw [if_pos c3] at H
    have c3b0 : decide (a1 ≤ 0) = true := decide_eq_true c3
    clear c3
    obtain rfl := Option.some.inj H
    go_enter Try.func22, Try.ntmps22
    go_wp2
    go_ret
    exact ⟨by first | rfl | (simp; done) | (simp [*]; done), by repeat (first | exact Drawn0.refl _ | apply Drawn0.step)⟩
  · rw [if_neg c3] at H
    have c3b0 : decide (a1 ≤ 0) = false := decide_eq_false c3
    clear c3
    by_cases c4 : a1 = 0
    · rw [if_pos c4] at H
      exact absurd H (by simp)
    · rw [if_neg c4] at H
      have c4b0 : (a1 == 0) = false := beq_eq_false_iff_ne.mpr c4
      have c4b1 : (a1 != 0) = true := bne_iff_ne.mpr c4
      by_cases c5 : (Int.tmod a0 a1) < 0
      · rw [if_pos c5] at H
        have c5b0 : decide ((Int.tmod a0 a1) < 0) = true := decide_eq_true c5
        clear c5
        obtain rfl := Option.some.inj H
        go_enter Try.func22, Try.ntmps22
        go_wp2
        go_ret
        exact ⟨by first | rfl | (simp; done) | (simp [*]; done), by repeat (first | exact Drawn0.refl _ | apply Drawn0.step)⟩
      · rw [if_neg c5] at H
        have c5b0 : decide ((Int.tmod a0 a1) < 0) = false := decide_eq_false c5
        clear c5
        obtain rfl := Option.some.inj H
        go_enter Try.func22, Try.ntmps22
        go_wp2
        go_ret
        exact ⟨by first | rfl | (simp; done) | (simp [*]; done), by repeat (first | exact Drawn0.refl _ | apply Drawn0.step)⟩

/-! ### varint_GetInt: function 35 -/
def varint_GetInt.f (l0 : List Int) (a1 : Int) : Option (Int × Int × Bool) := (varint_Get.f l0 a1).bind fun bt224 => (some (Go.bits .xor .i64 (wrap64 (bt224.1 / 2)) (wrap64 (-(wrap64 (Go.bits .and .u64 bt224.1 1)))), bt224.2.1, bt224.2.2))
set_option maxHeartbeats 8000000 in
set_option maxRecDepth 100000 in
theorem varint_GetInt.calls (A0 : Option Addr) (c0 : Nat) (l0 : List Int) (a1 : Int) (r1 : Int) (r2 : Int) (r3 : Bool) (w : World) (hr0 : Kd.C (Kd.int .u8) w A0 l0.length l0) (hc0 : l0.length ≤ c0) (h : varint_GetInt.f l0 a1 = some (r1, r2, r3)) :
    Calls Try.prog 35 #[.slice A0 l0.length c0, .int .i64 a1] w fun e w' => e = .returned (.tuple #[.int .i64 r1, .int .i64 r2, .bool r3]) ∧ Drawn0 w w' := by
  have HR0 := Aside0.mk hr0
  have HC0 := Aside0.mk hc0
  clear hr0 hc0
  have H : ((varint_Get.f l0 a1).bind fun bt224 => (some (Go.bits .xor .i64 (wrap64 (bt224.1 / 2)) (wrap64 (-(wrap64 (Go.bits .and .u64 bt224.1 1)))), bt224.2.1, bt224.2.2))) = some (r1, r2, r3) := h
  clear h
  replace H := Option.bind_eq_some_iff.mp H
  obtain ⟨⟨t224, t225, t226⟩, A30, H⟩ := H
  replace H : (some (Go.bits .xor .i64 (wrap64 (t224 / 2)) (wrap64 (-(wrap64 (Go.bits .and .u64 t224 1)))), t225, t226)) = some (r1, r2, r3) := H
  have A3 := Aside0.mk A30
  clear A30
  simp only [Option.some.injEq, Prod.mk.injEq] at H
  obtain ⟨rfl, rfl, rfl⟩ := H
  go_enter Try.func35, Try.ntmps35
  go_wp2_with (first | ((with_reducible refine gate_callee (f := 21) rfl ?_); refine goesL_ (some 13) rfl rfl Try.func21 (by kernel_rfl) rfl #[.slice A0 l0.length c0, .int .i64 a1] rfl (by (try simp only [List.map_toArray, List.map_cons, List.map_nil]); first | done | rfl | (simp only [List.length_drop, List.length_take]; rfl)) ?_; (with_reducible refine (varint_Get.calls _ _ l0 a1 t224 t225 t226 _ ?side1 ?side2 A3.out).mono ?_); (case side1 => repeat (first | exact HR0.out | (with_reducible refine Kd.C_alloc ?_ _) | (with_reducible refine Kd.C_drewN ?_ _) | (with_reducible refine Kd.C_drew ?_))); (case side2 => exact HC0.out); rintro e w' ⟨rfl, ⟨nd, rfl⟩⟩; refine ⟨_, rfl, ?_⟩))
  go_ret3
  exact ⟨by first | rfl | (simp; done) | (simp [*]; done), by repeat (first | exact Drawn0.refl _ | apply Drawn0.step)⟩

end Go.Proofs.Ytonbbaimkpjcfaa.M
