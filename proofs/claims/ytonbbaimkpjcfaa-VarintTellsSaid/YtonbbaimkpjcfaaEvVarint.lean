/- The functions of varint: what they come to. No conditions. -/
import Derived.Test.YtonbbaimkpjcfaaEvPutVar
namespace Go.Proofs.Ytonbbaimkpjcfaa.Ev
open Go
set_option linter.unusedVariables false
set_option linter.unusedSimpArgs false
set_option maxRecDepth 100000
theorem getD_of {α : Type} {l : List α} {i : Nat} (d : α) (h : i < l.length) : l.drop i = l.getD i d :: l.drop (i + 1) := by
  rw [List.drop_eq_getElem_cons h, List.getD_eq_getElem?_getD, List.getElem?_eq_getElem h]
  rfl
abbrev cGet : Ctr := ⟨List UInt8 × Int, 0, fun (l, a) => [.p false (.sl 1 (bl l)), isI .i64 a], fun _ => [], fun (l, a) => l.length ≤ 4611686018427387904 ∧ -9223372036854775808 ≤ a ∧ a ≤ 9223372036854775807,
  fun (l, a) => .tuple [isI .u64 (vGet l a).1, isI .i64 (vGet l a).2.1, isB (vGet l a).2.2], fun _ => []⟩
theorem get_does : Does [] tab Try.f21 cGet := by
  rintro ⟨l, a⟩ ⟨h1, h2, h3⟩
  have hlen := bl_length l
  have hno : vGet l a = (0, 0, false) → retOk tab cGet (l, a) Try.f21 ⟨[(4, isI .u64 0), (5, isI .i64 0), (6, isB false)], [], 99⟩ := by
    intro h
    conv => whnf
    rw [h]
    exact ⟨rfl, rfl, rfl⟩
  conv => whnf
  split <;> rename_i hb1 <;> rw [hb1] <;> conv => whnf
  · simp only [decide_eq_true_eq] at hb1
    exact hno (vGet_no (by omega))
  split <;> rename_i hb2 <;> rw [hb2] <;> conv => whnf
  · simp only [cond_false, hlen, decide_eq_true_eq] at hb2
    exact hno (vGet_no (by omega))
  simp only [cond_false, hlen, decide_eq_false_iff_not] at hb1 hb2
  have hw : IntKind.i64.wrap (a + 10) = a + 10 := wrap_i64 (by omega) (by omega)
  refine And.intro (by simp only [allP, List.nil_append, List.cons_append, true_and]; rw [hw, hlen]; split <;> omega) ?_
  conv => whnf
  have hS : ((bl l).take (if IntKind.i64.wrap (a + 10) < ((bl l).length : Int) then IntKind.i64.wrap (a + 10) else ((bl l).length : Int)).toNat).drop a.toNat = bl ((l.drop a.toNat).take 10) := by
    rw [hw, hlen, bl_take, bl_drop, List.drop_take]
    congr 1
    split
    · congr 1; omega
    · rw [List.take_of_length_le (by rw [List.length_drop]; omega), List.take_of_length_le (by rw [List.length_drop]; omega)]
  rw [hS]
  have hs10 : ((l.drop a.toNat).take 10).length ≤ 10 := by rw [List.length_take]; omega
  have hsl : a + ((l.drop a.toNat).take 10).length ≤ l.length := by rw [List.length_take, List.length_drop]; omega
  have hV1 : ∀ n m, vdec (nats ((l.drop a.toNat).take 10)) 0 0 = some (n, m) → vGet l a = ((n : Int), a + (m : Nat), true) := fun n m h => vGet_some (by omega) h
  have hV0 : vdec (nats ((l.drop a.toNat).take 10)) 0 0 = none → vGet l a = (0, 0, false) := vGet_none
  obtain ⟨S, hSe⟩ : ∃ S, (l.drop a.toNat).take 10 = S := ⟨_, rfl⟩
  rw [hSe] at hs10 hsl hV1 hV0 ⊢
  clear hS hSe
  have hSl := bl_length S
  refine ⟨{p : Nat × Nat // p.1 ≤ S.length ∧ p.1 ≤ 9 ∧ p.2 < 2 ^ (7 * p.1) ∧ vdec (nats (S.drop p.1)) p.1 p.2 = vdec (nats S) 0 0}, fun p => ⟨[(1, isI .i64 a), (7, isI .u64 p.1.2), (25, .p false (.sl 1 (bl S))), (26, isI .i64 S.length), (27, isI .i64 p.1.1)], [], 99⟩, fun p => 10 - p.1.1, ⟨⟨(0, 0), by simp⟩, ?_⟩, ?_⟩
  · conv => whnf
    simp only [allP, pvle_refl, Int.natCast_zero, bl_length, and_self, and_true, true_and] <;> (try simp only [pvle, bl_length, and_self, and_true, true_and])
  rintro ⟨⟨i, n⟩, hi1, hi2, hi3, hi4⟩
  simp only at hi1 hi2 hi3 hi4
  show aw _ _ _ _ _ _ ⟨[(1, isI .i64 a), (7, isI .u64 n), (25, .p false (.sl 1 (bl S))), (26, isI .i64 S.length), (27, isI .i64 i)], [], 99⟩
  conv => whnf
  split <;> rename_i hb <;> rw [hb] <;> conv => whnf
  · simp only [decide_eq_true_eq] at hb
    have hlt : i < S.length := by omega
    refine And.intro (by simp only [allP, List.nil_append, List.cons_append, true_and]; rw [hSl]; omega) ?_
    conv => whnf
    rw [bl_getD, Int.toNat_natCast]
    have hd := getD_of (l := S) (0 : UInt8) hlt
    have hc := u8_lt (S.getD i 0)
    obtain ⟨c, hce⟩ : ∃ c, S.getD i 0 = c := ⟨_, rfl⟩
    rw [hce] at hd hc ⊢
    have hst : vdec (nats S) 0 0 = if i = 9 ∧ c.toNat > 1 ∨ 0 < i ∧ c.toNat = 0 then none else if c.toNat < 128 then some (n + c.toNat * 2 ^ (7 * i), i + 1) else vdec (nats (S.drop (i + 1))) (i + 1) (n + (c.toNat - 128) * 2 ^ (7 * i)) := by
      rw [← hi4, hd]
      rfl
    have hbad : (i = 9 ∧ c.toNat > 1 ∨ 0 < i ∧ c.toNat = 0) → vGet l a = (0, 0, false) := fun h => hV0 (by rw [hst, if_pos h])
    conv => whnf
    have hsh : IntKind.i64.wrap (7 * (i : Int)) = ((7 * i : Nat) : Int) := by rw [wrap_i64 (by omega) (by omega)]; omega
    have hand : IntKind.u8.wrap ((BitVec.ofInt IntKind.u8.bits ((c.toNat : Nat) : Int) &&& BitVec.ofInt IntKind.u8.bits 127).toNat : Nat) = ((c.toNat % 128 : Nat) : Int) := (and127 _ (by omega) (by omega)).trans (by omega)
    have hm8 : c.toNat < 128 → c.toNat % 128 = c.toNat := Nat.mod_eq_of_lt
    have hm9 : ¬ c.toNat < 128 → c.toNat % 128 = c.toNat - 128 := by omega
    have hai : IntKind.i64.wrap (IntKind.i64.wrap (a + (i : Int)) + 1) = a + ((i + 1 : Nat) : Int) := by rw [wrap_i64 (x := a + i) (by omega) (by omega), wrap_i64 (by omega) (by omega)]; omega
    have hi1' : IntKind.i64.wrap ((i : Int) + 1) = ((i + 1 : Nat) : Int) := by rw [wrap_i64 (by omega) (by omega)]; rfl
    have hn3 : (n : Int) < 2 ^ (7 * i) := by exact_mod_cast hi3
    have hvor := fun h9 => vor (n : Int) ((c.toNat % 128 : Nat) : Int) i hi2 (by omega) hn3 (by omega) (by omega) h9
    have hor : ¬ (i = 9 ∧ c.toNat > 1) → IntKind.u64.wrap ((BitVec.ofInt IntKind.u64.bits (n : Int) ||| BitVec.ofInt IntKind.u64.bits (IntKind.u64.wrap (IntKind.u64.wrap (IntKind.u8.wrap ((BitVec.ofInt IntKind.u8.bits ((c.toNat : Nat) : Int) &&& BitVec.ofInt IntKind.u8.bits 127).toNat : Nat)) * 2 ^ min (IntKind.i64.wrap (7 * (i : Int))).toNat IntKind.u64.bits))).toNat : Nat) = ((n + c.toNat % 128 * 2 ^ (7 * i) : Nat) : Int) := by
      intro h
      rw [hsh, hand, Int.toNat_natCast, show min (7 * i) IntKind.u64.bits = 7 * i by show min _ 64 = _; omega, wrap_u64n (n := c.toNat % 128) (by omega)]
      refine ((hvor (by omega)).1).trans ?_
      push_cast
      rfl
    have hnew : ¬ (i = 9 ∧ c.toNat > 1) → ¬ c.toNat < 128 → n + (c.toNat - 128) * 2 ^ (7 * i) < 2 ^ (7 * (i + 1)) := by
      intro h h8
      have := (hvor (by omega)).2.2 (by omega)
      rw [hm9 h8] at this
      exact_mod_cast this
    have hleaf : i = 9 ∧ c.toNat > 1 ∨ i = 9 ∧ c.toNat = 0 ∨ i = 9 ∧ c.toNat = 1 ∨ i = 0 ∨ (i ≠ 9 ∧ 0 < i) ∧ c.toNat = 0 ∨ (i ≠ 9 ∧ 0 < i) ∧ c.toNat ≠ 0 := by omega
    rcases hleaf with ⟨h9, hx⟩ | ⟨h9, hx⟩ | ⟨h9, hx⟩ | h9 | ⟨h9, hx⟩ | ⟨h9, hx⟩
    · split <;> rename_i hb
      rotate_left
      · exfalso; (try simp [h9] at hb) <;> omega
      rw [hb]
      clear hb
      conv => whnf
      split <;> rename_i hb
      rotate_left
      · exfalso; (try simp [hx] at hb) <;> omega
      rw [hb]
      clear hb
      conv => whnf
      rw [hbad (by omega)]
      simp only [allP, pvle_refl, Int.natCast_zero, and_self, and_true, true_and] <;> (try simp only [pvle, and_self, and_true, true_and])
    · split <;> rename_i hb
      rotate_left
      · exfalso; (try simp [h9] at hb) <;> omega
      rw [hb]
      clear hb
      conv => whnf
      split <;> rename_i hb
      · exfalso; (try simp [hx] at hb) <;> omega
      rw [hb]
      clear hb
      conv => whnf
      split <;> rename_i hb
      rotate_left
      · exfalso; (try simp [h9] at hb) <;> omega
      rw [hb]
      clear hb
      conv => whnf
      split <;> rename_i hb
      rotate_left
      · exfalso; (try simp [hx] at hb) <;> omega
      rw [hb]
      clear hb
      conv => whnf
      rw [hbad (by omega)]
      simp only [allP, pvle_refl, Int.natCast_zero, and_self, and_true, true_and] <;> (try simp only [pvle, and_self, and_true, true_and])
    · split <;> rename_i hb
      rotate_left
      · exfalso; (try simp [h9] at hb) <;> omega
      rw [hb]
      clear hb
      conv => whnf
      split <;> rename_i hb
      · exfalso; (try simp [hx] at hb) <;> omega
      rw [hb]
      clear hb
      conv => whnf
      split <;> rename_i hb
      rotate_left
      · exfalso; (try simp [h9] at hb) <;> omega
      rw [hb]
      clear hb
      conv => whnf
      split <;> rename_i hb
      · exfalso; (try simp [hx] at hb) <;> omega
      rw [hb]
      clear hb
      conv => whnf
      refine And.intro (by simp only [allP, List.nil_append, List.cons_append, true_and]; rw [hsh]; omega) ?_
      conv => whnf
      rw [hor (by omega)]
      conv => whnf
      by_cases hc8 : c.toNat < 128
      · split <;> rename_i hb
        rotate_left
        · exfalso; (try simp [hc8] at hb) <;> omega
        rw [hb]
        clear hb
        conv => whnf
        rw [hV1 _ _ (by rw [hst, if_neg (by omega), if_pos hc8])]
        simp only [allP, pvle_refl, Int.natCast_zero, hai, hm8 hc8, and_self, and_true, true_and] <;> (try simp only [pvle, hai, hm8 hc8, and_self, and_true, true_and])
      · split <;> rename_i hb
        · exfalso; (try simp [hc8] at hb) <;> omega
        rw [hb]
        clear hb
        conv => whnf
        refine ⟨⟨(i + 1, n + (c.toNat - 128) * 2 ^ (7 * i)), by simp only; omega, by simp only; omega, hnew (by omega) hc8, by simp only; rw [hst, if_neg (by omega), if_neg hc8]⟩, by simp only; omega, ?_⟩
        conv => whnf
        simp only [allP, pvle_refl, Int.natCast_zero, hi1', hm9 hc8, and_self, and_true, true_and] <;> (try simp only [pvle, hi1', hm9 hc8, and_self, and_true, true_and])
    · split <;> rename_i hb
      · exfalso; (try simp [h9] at hb) <;> omega
      rw [hb]
      clear hb
      conv => whnf
      split <;> rename_i hb
      · exfalso; (try simp [h9] at hb) <;> omega
      rw [hb]
      clear hb
      conv => whnf
      refine And.intro (by simp only [allP, List.nil_append, List.cons_append, true_and]; rw [hsh]; omega) ?_
      conv => whnf
      rw [hor (by omega)]
      conv => whnf
      by_cases hc8 : c.toNat < 128
      · split <;> rename_i hb
        rotate_left
        · exfalso; (try simp [hc8] at hb) <;> omega
        rw [hb]
        clear hb
        conv => whnf
        rw [hV1 _ _ (by rw [hst, if_neg (by omega), if_pos hc8])]
        simp only [allP, pvle_refl, Int.natCast_zero, hai, hm8 hc8, and_self, and_true, true_and] <;> (try simp only [pvle, hai, hm8 hc8, and_self, and_true, true_and])
      · split <;> rename_i hb
        · exfalso; (try simp [hc8] at hb) <;> omega
        rw [hb]
        clear hb
        conv => whnf
        refine ⟨⟨(i + 1, n + (c.toNat - 128) * 2 ^ (7 * i)), by simp only; omega, by simp only; omega, hnew (by omega) hc8, by simp only; rw [hst, if_neg (by omega), if_neg hc8]⟩, by simp only; omega, ?_⟩
        conv => whnf
        simp only [allP, pvle_refl, Int.natCast_zero, hi1', hm9 hc8, and_self, and_true, true_and] <;> (try simp only [pvle, hi1', hm9 hc8, and_self, and_true, true_and])
    · split <;> rename_i hb
      · exfalso; (try simp [h9] at hb) <;> omega
      rw [hb]
      clear hb
      conv => whnf
      split <;> rename_i hb
      rotate_left
      · exfalso; (try simp [h9] at hb) <;> omega
      rw [hb]
      clear hb
      conv => whnf
      split <;> rename_i hb
      rotate_left
      · exfalso; (try simp [hx] at hb) <;> omega
      rw [hb]
      clear hb
      conv => whnf
      rw [hbad (by omega)]
      simp only [allP, pvle_refl, Int.natCast_zero, and_self, and_true, true_and] <;> (try simp only [pvle, and_self, and_true, true_and])
    · split <;> rename_i hb
      · exfalso; (try simp [h9] at hb) <;> omega
      rw [hb]
      clear hb
      conv => whnf
      split <;> rename_i hb
      rotate_left
      · exfalso; (try simp [h9] at hb) <;> omega
      rw [hb]
      clear hb
      conv => whnf
      split <;> rename_i hb
      · exfalso; (try simp [hx] at hb) <;> omega
      rw [hb]
      clear hb
      conv => whnf
      refine And.intro (by simp only [allP, List.nil_append, List.cons_append, true_and]; rw [hsh]; omega) ?_
      conv => whnf
      rw [hor (by omega)]
      conv => whnf
      by_cases hc8 : c.toNat < 128
      · split <;> rename_i hb
        rotate_left
        · exfalso; (try simp [hc8] at hb) <;> omega
        rw [hb]
        clear hb
        conv => whnf
        rw [hV1 _ _ (by rw [hst, if_neg (by omega), if_pos hc8])]
        simp only [allP, pvle_refl, Int.natCast_zero, hai, hm8 hc8, and_self, and_true, true_and] <;> (try simp only [pvle, hai, hm8 hc8, and_self, and_true, true_and])
      · split <;> rename_i hb
        · exfalso; (try simp [hc8] at hb) <;> omega
        rw [hb]
        clear hb
        conv => whnf
        refine ⟨⟨(i + 1, n + (c.toNat - 128) * 2 ^ (7 * i)), by simp only; omega, by simp only; omega, hnew (by omega) hc8, by simp only; rw [hst, if_neg (by omega), if_neg hc8]⟩, by simp only; omega, ?_⟩
        conv => whnf
        simp only [allP, pvle_refl, Int.natCast_zero, hi1', hm9 hc8, and_self, and_true, true_and] <;> (try simp only [pvle, hi1', hm9 hc8, and_self, and_true, true_and])
  · simp only [decide_eq_false_iff_not] at hb
    have : i = S.length := by omega
    subst this
    rw [List.drop_length] at hi4
    rw [hV0 hi4.symm]
    simp only [allP, pvle_refl, Int.natCast_zero, and_self, and_true, true_and] <;> (try simp only [pvle, and_self, and_true, true_and])
theorem get_sound : Sound Try.prog 21 cGet := does_sound mixed tabOk_prog GamOk.nil Try.func21 get_does
def gV1 : List (FuncId × Ctr) := (21, cGet) :: (19, cPut) :: (36, cLen) :: []
theorem gV1_ok : GamOk Try.prog gV1 := GamOk.cons (GamOk.cons (GamOk.cons GamOk.nil Try.func36 (by kernel_rfl) (by kernel_rfl) len_sound) Try.func19 (by kernel_rfl) (by kernel_rfl) put_sound) Try.func21 (by kernel_rfl) (by kernel_rfl) get_sound
abbrev cPutInt : Ctr := ⟨List UInt8 × Int, 0, fun (l, x) => [.p false (.sl 1 (bl l)), isI .i64 x], fun _ => [], fun (l, x) => -9223372036854775808 ≤ x ∧ x ≤ 9223372036854775807 ∧ l.length ≤ 140737488355000, fun _ => .rowf 0,
  fun (l, x) => [(0, .row 5 1 true false (bl (l ++ vE (zig x))))]⟩
abbrev cGetInt : Ctr := ⟨List UInt8 × Int, 0, fun (l, a) => [.p false (.sl 1 (bl l)), isI .i64 a], fun _ => [], fun (l, a) => l.length ≤ 4611686018427387904 ∧ -9223372036854775808 ≤ a ∧ a ≤ 9223372036854775807,
  fun (l, a) => .tuple [isI .i64 (unzig (vGet l a).1), isI .i64 (vGet l a).2.1, isB (vGet l a).2.2], fun _ => []⟩
theorem putInt_does : Does gV1 tab Try.f34 cPutInt := by
  rintro ⟨l, x⟩ ⟨h1, h2, h3⟩
  have hz : IntKind.u64.wrap ((BitVec.ofInt IntKind.u64.bits (IntKind.u64.wrap (IntKind.u64.wrap x * 2 ^ min (Int.toNat 1) IntKind.u64.bits)) ^^^ BitVec.ofInt IntKind.u64.bits (IntKind.u64.wrap (x.fdiv (2 ^ min (Int.toNat 63) IntKind.i64.bits)))).toNat : Nat) = ((zig x : Nat) : Int) := by
    have h := put_zig x h1 h2
    rw [Int.fdiv_eq_ediv_of_nonneg _ (by decide)]
    exact h
  conv => whnf
  refine And.intro (by simp only [allP, List.nil_append, List.cons_append, true_and]; decide) ?_
  conv => whnf
  refine And.intro (by simp only [allP, List.nil_append, List.cons_append, true_and]; decide) ?_
  conv => whnf
  refine ⟨(l, zig x), ?_⟩
  conv => whnf
  refine And.intro (by simp only [allP, List.nil_append, List.cons_append, true_and]; exact ⟨rfl, congrArg _ hz.symm, zig_lt h1 h2, h3⟩) ?_
  conv => whnf
theorem getInt_does : Does gV1 tab Try.f35 cGetInt := by
  rintro ⟨l, a⟩ ⟨h1, h2, h3⟩
  conv => whnf
  have hv := vGet_lt l a
  refine ⟨(l, a), ?_⟩
  conv => whnf
  refine And.intro (by simp only [allP, List.nil_append, List.cons_append, true_and]; exact ⟨rfl, rfl, h1, h2, h3⟩) ?_
  conv => whnf
  refine And.intro (by simp only [allP, List.nil_append, List.cons_append, true_and]; decide) ?_
  conv => whnf
  obtain ⟨n, hn⟩ : ∃ n, (vGet l a).1 = n := ⟨_, rfl⟩
  rw [hn] at hv ⊢
  have hz : IntKind.i64.wrap ((BitVec.ofInt IntKind.i64.bits (IntKind.i64.wrap (n.fdiv (2 ^ min (Int.toNat 1) IntKind.u64.bits))) ^^^ BitVec.ofInt IntKind.i64.bits (IntKind.i64.wrap (-IntKind.i64.wrap (IntKind.u64.wrap ((BitVec.ofInt IntKind.u64.bits n &&& BitVec.ofInt IntKind.u64.bits 1).toNat : Nat))))).toNat : Nat) = unzig n := by
    obtain ⟨m, rfl⟩ : ∃ m : Nat, n = (m : Nat) := ⟨n.toNat, by omega⟩
    have hb := unzig_bd hv.1 hv.2
    have h := get_zig (unzig (m : Nat)) hb.1 hb.2
    have e : ((Lib.zigzag (unzig (m : Nat)) : Nat) : Int) = (m : Nat) := by rw [show Lib.zigzag (unzig (m : Nat)) = m from zig_unzig m]
    rw [e] at h
    rw [Int.fdiv_eq_ediv_of_nonneg _ (by decide)]
    exact h
  simp only [allP, pvle_refl, Int.natCast_zero, hz, and_self, and_true, true_and] <;> (try simp only [pvle, hz, and_self, and_true, true_and])
theorem putInt_sound : Sound Try.prog 34 cPutInt := does_sound mixed tabOk_prog gV1_ok Try.func34 putInt_does
theorem getInt_sound : Sound Try.prog 35 cGetInt := does_sound mixed tabOk_prog gV1_ok Try.func35 getInt_does
/-- All of varint. -/
def gVar : List (FuncId × Ctr) := (34, cPutInt) :: (35, cGetInt) :: gV1
theorem gVar_ok : GamOk Try.prog gVar := GamOk.cons (GamOk.cons gV1_ok Try.func35 (by kernel_rfl) (by kernel_rfl) getInt_sound) Try.func34 (by kernel_rfl) (by kernel_rfl) putInt_sound
end Go.Proofs.Ytonbbaimkpjcfaa.Ev
