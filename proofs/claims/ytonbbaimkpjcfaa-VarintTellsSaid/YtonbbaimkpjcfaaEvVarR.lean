/- The document's numbers of any size: they come to what the program's come to. No conditions. -/
import Derived.Test.YtonbbaimkpjcfaaEvVarint
import Derived.Test.YtonbbaimkpjcfaaEvLow
namespace Go.Proofs.Ytonbbaimkpjcfaa.Ev
open Go
set_option linter.unusedVariables false
set_option linter.unusedSimpArgs false
set_option maxRecDepth 100000
set_option maxHeartbeats 4000000
abbrev cRBytes : Ctr := ⟨Nat, 0, fun v => [isI .u64 v], fun _ => [], fun v => v < 18446744073709551616, fun _ => .rowf 0, fun v => [(0, .row 5 1 true false (bl (vE v)))]⟩
theorem rbytes_does : Does [] tab Try.f41 cRBytes := by
  rintro (v : Nat) (hv : v < 18446744073709551616)
  have h10 := vCnt_le v hv
  conv => whnf
  refine ⟨{s : List UInt8 × Nat // s.1 ++ vE s.2 = vE v ∧ s.2 < 18446744073709551616 ∧ s.1.length ≤ 10}, fun s => ⟨[(0, isI .u64 s.1.2), (3, .rowf 0)], [(0, .row 5 1 true false (bl s.1.1))], 99⟩, fun s => s.1.2, ⟨⟨([], v), rfl, hv, Nat.zero_le _⟩, ?_⟩, ?_⟩
  · conv => whnf
    exact ⟨rfl, rfl⟩
  rintro ⟨⟨l, x⟩, he, hx, hl⟩
  simp only at he hx hl
  show aw _ _ _ _ _ _ ⟨[(0, isI .u64 x), (3, .rowf 0)], [(0, .row 5 1 true false (bl l))], 99⟩
  conv => whnf
  by_cases h : x < 128
  · rw [show decide (((x : Nat) : Int) > 127) = false from decide_eq_false (by omega)]
    conv => whnf
    refine And.intro (by simp only [allP, List.nil_append, List.cons_append, true_and]; rw [bl_length]; simp only [List.length_cons, List.length_nil]; omega) ?_
    conv => whnf
    rw [byte_of, ← he, vE_small h, bl_append]
    rfl
  · rw [show decide (((x : Nat) : Int) > 127) = true from decide_eq_true (by omega)]
    conv => whnf
    refine dI (k := ?_)
    conv => whnf
    refine And.intro (by simp only [allP, List.nil_append, List.cons_append, true_and]; rw [bl_length]; simp only [List.length_cons, List.length_nil]; omega) ?_
    conv => whnf
    refine dI (k := ?_)
    conv => whnf
    have hq : IntKind.u64.wrap (((x : Nat) : Int).tdiv 128) = ((x / 128 : Nat) : Int) := by rw [show ((x : Nat) : Int).tdiv 128 = ((x / 128 : Nat) : Int) from tdiv_nat x 128, wrap_u64 (by omega) (by omega)]
    have hb : PV.int .u8 (IntKind.u8.wrap (IntKind.u8.wrap (((x : Nat) : Int).tmod 128) + 128)) = bv (UInt8.ofNat (x % 128 + 128)) := by
      unfold bv
      congr 1
      rw [show ((x : Nat) : Int).tmod 128 = ((x % 128 : Nat) : Int) from tmod_nat x 128, wrap_u8 (x := ((x % 128 : Nat) : Int)) (by omega) (by omega), wrap_u8 (by omega) (by omega), UInt8.toNat_ofNat']
      omega
    have hn : (l ++ [UInt8.ofNat (x % 128 + 128)]) ++ vE (x / 128) = vE v := by rw [← he, vE_big h, List.append_assoc]; rfl
    have hlen := congrArg List.length hn
    rw [List.length_append, vE_length, vE_length] at hlen
    refine ⟨⟨(l ++ [UInt8.ofNat (x % 128 + 128)], x / 128), hn, by simp only; omega, by simp only; omega⟩, by simp only; omega, ?_⟩
    conv => whnf
    rw [hb]
    exact ⟨by rw [hq]; rfl, by rw [bl_append]; rfl⟩
theorem rbytes_sound : Sound Try.prog 41 cRBytes := does_sound mixed tabOk_prog GamOk.nil Try.func41 rbytes_does
def gR3a : List (FuncId × Ctr) := (41, cRBytes) :: gLow
theorem gR3a_ok : GamOk Try.prog gR3a := GamOk.cons gLow_ok Try.func41 (by kernel_rfl) (by kernel_rfl) rbytes_sound
theorem rput_does : Does gR3a tab Try.f39 cPut := by
  rintro ⟨l, v⟩ ⟨h1, h2⟩
  have h10 := vCnt_le v h1
  have hvl := vE_length v
  conv => whnf
  refine ⟨l, ?_⟩
  conv => whnf
  refine And.intro (by simp only [allP, List.nil_append, List.cons_append, true_and]; exact ⟨rfl, by omega⟩) ?_
  conv => whnf
  refine ⟨v, ?_⟩
  conv => whnf
  refine And.intro (by simp only [allP, List.nil_append, List.cons_append, true_and]; exact ⟨rfl, h1⟩) ?_
  conv => whnf
  refine And.intro (by simp only [allP, List.nil_append, List.cons_append, true_and]; rw [bl_length, bl_length]; omega) ?_
  conv => whnf
  rw [← bl_append]
theorem rput_sound : Sound Try.prog 39 cPut := does_sound mixed tabOk_prog gR3a_ok Try.func39 rput_does
abbrev cRSigned : Ctr := ⟨Int, 0, fun x => [isI .i64 x], fun _ => [], fun x => -9223372036854775808 ≤ x ∧ x ≤ 9223372036854775807, fun x => isI .u64 (zig x : Nat), fun _ => []⟩
theorem zig_pos {x : Int} (h : 0 ≤ x) (h2 : x ≤ 9223372036854775807) : ((zig x : Nat) : Int) = 2 * x := by
  have h1 := unzig_zig x (by omega) h2
  unfold unzig at h1
  split at h1 <;> omega
theorem zig_neg {x : Int} (h : x < 0) (h2 : -9223372036854775808 ≤ x) : ((zig x : Nat) : Int) = -2 * x - 1 := by
  have h1 := unzig_zig x h2 (by omega)
  unfold unzig at h1
  split at h1 <;> omega
theorem rsigned_does : Does [] tab Try.f48 cRSigned := by
  rintro (x : Int) ⟨h1, h2⟩
  conv => whnf
  by_cases h : 0 ≤ x
  · rw [show decide (x ≥ 0) = true from decide_eq_true h]
    conv => whnf
    rw [show IntKind.u64.wrap (IntKind.u64.wrap x * 2) = ((zig x : Nat) : Int) from by rw [zig_pos h h2, wrap_u64 (x := x) (by omega) (by omega), wrap_u64 (by omega) (by omega)]; omega]
  · rw [show decide (x ≥ 0) = false from decide_eq_false h]
    conv => whnf
    rw [show IntKind.u64.wrap (IntKind.u64.wrap (IntKind.u64.wrap (IntKind.i64.wrap (-IntKind.i64.wrap (x + 1))) * 2) + 1) = ((zig x : Nat) : Int) from by
      rw [zig_neg (by omega) h1, wrap_i64 (x := x + 1) (by omega) (by omega), wrap_i64 (by omega) (by omega), wrap_u64 (x := -(x + 1)) (by omega) (by omega), wrap_u64 (x := -(x + 1) * 2) (by omega) (by omega), wrap_u64 (by omega) (by omega)]; omega]
theorem rsigned_sound : Sound Try.prog 48 cRSigned := does_sound mixed tabOk_prog GamOk.nil Try.func48 rsigned_does
def gR3b : List (FuncId × Ctr) := (39, cPut) :: (48, cRSigned) :: gR3a
theorem gR3b_ok : GamOk Try.prog gR3b := GamOk.cons (GamOk.cons gR3a_ok Try.func48 (by kernel_rfl) (by kernel_rfl) rsigned_sound) Try.func39 (by kernel_rfl) (by kernel_rfl) rput_sound
theorem rputInt_does : Does gR3b tab Try.f40 cPutInt := by
  rintro ⟨l, x⟩ ⟨h1, h2, h3⟩
  conv => whnf
  refine ⟨x, ?_⟩
  conv => whnf
  refine And.intro (by simp only [allP, List.nil_append, List.cons_append, true_and]; exact ⟨rfl, h1, h2⟩) ?_
  conv => whnf
  refine ⟨(l, zig x), ?_⟩
  conv => whnf
  refine And.intro (by simp only [allP, List.nil_append, List.cons_append, true_and]; exact ⟨rfl, rfl, zig_lt h1 h2, h3⟩) ?_
  conv => whnf
theorem rputInt_sound : Sound Try.prog 40 cPutInt := does_sound mixed tabOk_prog gR3b_ok Try.func40 rputInt_does
/-! ### Read -/
def valL : List UInt8 → Nat
  | [] => 0
  | b :: r => b.toNat % 128 + 128 * valL r
theorem valL_vE (v : Nat) : valL (vE v) = v := by
  induction v using Nat.strongRecOn with
  | ind v ih =>
    by_cases h : v < 128
    · rw [vE_small h, valL, valL, UInt8.toNat_ofNat']; omega
    · rw [vE_big h, valL, ih (v / 128) (by omega), UInt8.toNat_ofNat']; omega
theorem vE_split (v : Nat) : ∃ p q, vE v = p ++ [q] ∧ q.toNat < 128 ∧ ∀ b ∈ p, 128 ≤ b.toNat := by
  induction v using Nat.strongRecOn with
  | ind v ih =>
    by_cases h : v < 128
    · exact ⟨[], UInt8.ofNat v, vE_small h, by rw [UInt8.toNat_ofNat']; omega, by simp⟩
    · obtain ⟨p, q, h1, h2, h3⟩ := ih (v / 128) (by omega)
      refine ⟨UInt8.ofNat (v % 128 + 128) :: p, q, by rw [vE_big h, h1]; rfl, h2, fun b hb => ?_⟩
      rcases List.mem_cons.1 hb with rfl | hb
      · rw [UInt8.toNat_ofNat']; omega
      · exact h3 b hb
/-- Where a number ends that is read. -/
theorem vGet_ends {l : List UInt8} {a k : Nat} (hk : ∀ j, j < k → 128 ≤ (l.getD (a + j) 0).toNat) : vGet l a = (0, 0, false) ∨ ∃ v p, v < 18446744073709551616 ∧ k ≤ p ∧ p + 1 ≤ 10 ∧ a + p + 1 ≤ l.length ∧ (l.getD (a + p) 0).toNat < 128 ∧ (∀ j, j < p → 128 ≤ (l.getD (a + j) 0).toNat) ∧ (l.drop a).take (p + 1) = vE v ∧ vGet l a = ((v : Int), ((a + p + 1 : Nat) : Int), true) := by
  rcases vGet_form l (a : Int) with h | ⟨v, hv, h0, h1, h2, h3⟩
  · exact Or.inl h
  · obtain ⟨p, q, e1, e2, e3⟩ := vE_split v
    have hc : vCnt v = p.length + 1 := by rw [← vE_length, e1]; simp
    have h10 := vCnt_le v hv
    rw [Int.toNat_natCast, hc] at h3
    rw [hc] at h2
    have hel : ∀ j, j < p.length + 1 → (l.drop a).getD j 0 = (p ++ [q]).getD j 0 := by
      intro j hj
      rw [← e1, ← h3, List.getD_eq_getElem?_getD, List.getD_eq_getElem?_getD, List.getElem?_take, if_pos hj]
    have hda : ∀ j, (l.drop a).getD j 0 = l.getD (a + j) 0 := fun j => by rw [List.getD_eq_getElem?_getD, List.getD_eq_getElem?_getD, List.getElem?_drop]
    have hlast : (l.getD (a + p.length) 0).toNat < 128 := by
      rw [← hda, hel _ (by omega), List.getD_eq_getElem?_getD, List.getElem?_append_right (Nat.le_refl _), Nat.sub_self]
      exact e2
    have hin : ∀ j, j < p.length → 128 ≤ (l.getD (a + j) 0).toNat := by
      intro j hj
      rw [← hda, hel _ (by omega), List.getD_eq_getElem?_getD, List.getElem?_append_left hj, List.getElem?_eq_getElem hj]
      exact e3 _ (List.getElem_mem hj)
    refine Or.inr ⟨v, p.length, hv, ?_, by omega, by omega, hlast, hin, h3, by rw [h2]; simp only [Prod.mk.injEq, and_true, true_and]; omega⟩
    rcases Nat.lt_or_ge p.length k with h | h
    · have := hk _ h; omega
    · exact h
theorem vGet_long {l : List UInt8} {a k : Nat} (hk : ∀ j, j < k → 128 ≤ (l.getD (a + j) 0).toNat) (h : l.length ≤ a + k ∨ 10 ≤ k) : vGet l a = (0, 0, false) := by
  rcases vGet_ends hk with e | ⟨v, p, _, h1, h2, h3, _⟩
  · exact e
  · omega
theorem vGet_at {l : List UInt8} {a k : Nat} (hk : ∀ j, j < k → 128 ≤ (l.getD (a + j) 0).toNat) (h : a + k < l.length) (h10 : k < 10) (hc : (l.getD (a + k) 0).toNat < 128) {n : Nat} (hn : n = valL ((l.drop a).take (k + 1)) % 18446744073709551616) :
    vGet l a = match decide (vE n = (l.drop a).take (k + 1)) with | true => ((n : Int), ((a + k + 1 : Nat) : Int), true) | false => (0, 0, false) := by
  have hnl : n < 18446744073709551616 := by omega
  by_cases he : vE n = (l.drop a).take (k + 1)
  · rw [decide_eq_true he]
    have hl : l = l.take a ++ vE n ++ l.drop (a + (k + 1)) := by
      rw [he, List.append_assoc, ← List.drop_drop, List.take_append_drop, List.take_append_drop]
    have hcn : vCnt n = k + 1 := by rw [← vE_length, he, List.length_take, List.length_drop]; omega
    have hp := vGet_put (l.take a) (l.drop (a + (k + 1))) hnl
    rw [← hl, List.length_take, Nat.min_eq_left (by omega), hcn] at hp
    exact hp
  · rw [decide_eq_false he]
    rcases vGet_ends hk with e | ⟨v, p, hv, h1, h2, h3, h4, h5, h6, h7⟩
    · exact e
    · have hpk : p = k := by
        rcases Nat.lt_or_ge k p with h | h
        · have := h5 _ h; omega
        · omega
      subst hpk
      rw [h6, valL_vE] at hn
      exact absurd (by rw [h6, hn, Nat.mod_eq_of_lt hv]) he
theorem rget_does : Does gR3a tab Try.f37 cGet := by
  rintro ⟨l, a⟩ ⟨h1, h2, h3⟩
  have hbl := bl_length l
  conv => whnf
  by_cases h0 : a < 0
  · rw [decide_eq_true h0]
    conv => whnf
    rw [vGet_no (by omega)]
    exact ⟨rfl, rfl, rfl⟩
  rw [decide_eq_false h0]
  conv => whnf
  rw [hbl]
  obtain ⟨a, rfl⟩ : ∃ n : Nat, a = (n : Int) := ⟨a.toNat, by omega⟩
  by_cases h5 : l.length ≤ a
  · rw [decide_eq_true (show (a : Int) ≥ (l.length : Int) by omega)]
    conv => whnf
    rw [vGet_long (a := a) (k := 0) (fun j hj => by omega) (Or.inl (by omega))]
    exact ⟨rfl, rfl, rfl⟩
  rw [decide_eq_false (show ¬ (a : Int) ≥ (l.length : Int) by omega)]
  conv => whnf
  refine ⟨{k : Nat // a + k ≤ l.length ∧ k ≤ 10 ∧ ∀ j, j < k → 128 ≤ (l.getD (a + j) 0).toNat}, fun k => ⟨[(0, .p false (.sl 1 (bl l))), (1, isI .i64 a), (7, isI .i64 (a + k.1 : Nat))], [], 99⟩, fun k => 10 - k.1, ⟨⟨0, by omega, by omega, fun j hj => by omega⟩, ?_⟩, ?_⟩
  · conv => whnf
    exact ⟨rfl, rfl, rfl⟩
  rintro ⟨k, hk, hk10, hkb⟩
  show aw _ _ _ _ _ _ ⟨[(0, .p false (.sl 1 (bl l))), (1, isI .i64 a), (7, isI .i64 (a + k : Nat))], [], 99⟩
  have hw1 : IntKind.i64.wrap (((a + k : Nat) : Int) - (a : Int)) = (k : Nat) := by rw [wrap_i64 (by omega) (by omega)]; omega
  have hlong : (l.length ≤ a + k ∨ 10 ≤ k) → retOk tab cGet (l, (a : Int)) Try.f37 ⟨[(4, isI .u64 0), (5, isI .i64 0), (6, isB false)], [], 99⟩ := by
    intro h
    conv => whnf
    rw [vGet_long hkb h]
    exact ⟨rfl, rfl, rfl⟩
  conv => whnf
  rw [hbl]
  by_cases he : a + k < l.length
  case' neg =>
    rw [decide_eq_false (show ¬ ((a + k : Nat) : Int) < (l.length : Int) by omega)]
    conv => whnf
    rw [hbl, decide_eq_true (show ((a + k : Nat) : Int) ≥ (l.length : Int) by omega)]
    conv => whnf
    exact hlong (Or.inl (by omega))
  rw [decide_eq_true (show ((a + k : Nat) : Int) < (l.length : Int) by omega)]
  conv => whnf
  rw [hw1]
  by_cases he2 : k < 10
  case' neg =>
    rw [decide_eq_false (show ¬ ((k : Nat) : Int) < 10 by omega)]
    conv => whnf
    rw [hbl, decide_eq_false (show ¬ ((a + k : Nat) : Int) ≥ (l.length : Int) by omega)]
    conv => whnf
    rw [hw1, decide_eq_true (show ((k : Nat) : Int) ≥ 10 by omega)]
    conv => whnf
    exact hlong (Or.inr (by omega))
  rw [decide_eq_true (show ((k : Nat) : Int) < 10 by omega)]
  conv => whnf
  refine And.intro (by simp only [allP, List.nil_append, List.cons_append, true_and]; rw [hbl]; omega) ?_
  conv => whnf
  rw [Int.toNat_natCast, bl_getD]
  conv => whnf
  by_cases hc : 128 ≤ (l.getD (a + k) 0).toNat
  · rw [decide_eq_true (show (((l.getD (a + k) 0).toNat : Nat) : Int) ≥ 128 by omega)]
    conv => whnf
    refine ⟨⟨k + 1, by omega, by omega, fun j hj => ?_⟩, by simp only; omega, ?_⟩
    · rcases Nat.lt_or_ge j k with h | h
      · exact hkb j h
      · obtain rfl : j = k := by omega
        exact hc
    conv => whnf
    exact ⟨rfl, rfl, by rw [wrap_i64 (by omega) (by omega)]; rfl⟩
  rw [decide_eq_false (show ¬ (((l.getD (a + k) 0).toNat : Nat) : Int) ≥ 128 by omega)]
  conv => whnf
  rw [hbl, decide_eq_false (show ¬ ((a + k : Nat) : Int) ≥ (l.length : Int) by omega)]
  conv => whnf
  rw [hw1, decide_eq_false (show ¬ ((k : Nat) : Int) ≥ 10 by omega)]
  conv => whnf
  have hat := fun n hn => vGet_at (n := n) hkb he he2 (by omega) hn
  have hsl : ((l.drop a).take (k + 1)).length = k + 1 := by rw [List.length_take, List.length_drop]; omega
  have hse : ∀ j, j < k + 1 → ((l.drop a).take (k + 1)).getD j 0 = l.getD (a + j) 0 := fun j hj => by rw [List.getD_eq_getElem?_getD, List.getD_eq_getElem?_getD, List.getElem?_take, if_pos hj, List.getElem?_drop]
  have hcut : List.drop ((a : Int)).toNat (List.take (((a + k + 1 : Nat) : Int)).toNat (bl l)) = bl ((l.drop a).take (k + 1)) := by rw [Int.toNat_natCast, Int.toNat_natCast, List.drop_take, bl_drop, bl_take, Nat.add_assoc, Nat.add_sub_cancel_left]
  generalize (l.drop a).take (k + 1) = seg at hat hsl hse hcut
  refine ⟨{j : Nat // j ≤ k + 1}, fun j => ⟨[(0, .p false (.sl 1 (bl l))), (1, isI .i64 a), (7, isI .i64 (a + k : Nat)), (8, isI .u64 (valL (seg.drop (k + 1 - j.1)) % 18446744073709551616 : Nat)), (9, isI .i64 ((a + k : Nat) - (j.1 : Int)))], [], 99⟩, fun j => k + 1 - j.1, ⟨⟨0, Nat.zero_le _⟩, ?_⟩, ?_⟩
  · conv => whnf
    rw [Nat.sub_zero, List.drop_of_length_le (by omega)]
    exact ⟨rfl, rfl, rfl, rfl, by simp only [Int.sub_zero]; rfl⟩
  rintro ⟨j, hj⟩
  show aw _ _ _ _ _ _ ⟨[(0, .p false (.sl 1 (bl l))), (1, isI .i64 a), (7, isI .i64 (a + k : Nat)), (8, isI .u64 (valL (seg.drop (k + 1 - j)) % 18446744073709551616 : Nat)), (9, isI .i64 ((a + k : Nat) - (j : Int)))], [], 99⟩
  conv => whnf
  by_cases hjk : j ≤ k
  · rw [decide_eq_true (show ((a + k : Nat) : Int) - (j : Int) ≥ (a : Int) by omega)]
    conv => whnf
    refine And.intro (by simp only [allP, List.nil_append, List.cons_append, true_and]; rw [hbl]; omega) ?_
    conv => whnf
    rw [show (((a + k : Nat) : Int) - (j : Int)).toNat = a + (k - j) by omega, bl_getD]
    conv => whnf
    refine dI (k := ?_)
    conv => whnf
    have hst : valL (seg.drop (k + 1 - (j + 1))) = (l.getD (a + (k - j)) 0).toNat % 128 + 128 * valL (seg.drop (k + 1 - j)) := by
      rw [← hse _ (by omega), show k + 1 - (j + 1) = k - j by omega, getD_of (i := k - j) 0 (by omega), valL, show k - j + 1 = k + 1 - j by omega]
    have hcl := u8_lt (l.getD (a + (k - j)) 0)
    generalize l.getD (a + (k - j)) 0 = c at hst hcl ⊢
    generalize valL (seg.drop (k + 1 - j)) = V at hst ⊢
    refine ⟨⟨j + 1, by omega⟩, by simp only; omega, ?_⟩
    conv => whnf
    have hwv : IntKind.u64.wrap (IntKind.u64.wrap (((V % 18446744073709551616 : Nat) : Int) * 128) + IntKind.u64.wrap (((c.toNat : Nat) : Int).tmod 128)) = ((valL (seg.drop (k + 1 - (j + 1))) % 18446744073709551616 : Nat) : Int) := by
      rw [hst, show ((c.toNat : Nat) : Int).tmod 128 = ((c.toNat % 128 : Nat) : Int) from tmod_nat _ 128]
      simp only [IntKind.wrap_u64]
      omega
    exact ⟨rfl, rfl, rfl, by rw [hwv]; rfl, by rw [wrap_i64 (by omega) (by omega)]; exact congrArg _ (by simp only; omega)⟩
  · obtain rfl : j = k + 1 := by omega
    rw [decide_eq_false (show ¬ ((a + k : Nat) : Int) - ((k + 1 : Nat) : Int) ≥ (a : Int) by omega)]
    rw [Nat.sub_self, List.drop_zero]
    have hgn := hat _ rfl
    generalize hn : valL seg % 18446744073709551616 = n at hgn ⊢
    conv => whnf
    refine ⟨n, ?_⟩
    conv => whnf
    refine And.intro (by simp only [allP, List.nil_append, List.cons_append, true_and]; exact ⟨rfl, by omega⟩) ?_
    conv => whnf
    have hw2 : IntKind.i64.wrap (((a + k : Nat) : Int) + 1) = ((a + k + 1 : Nat) : Int) := by rw [wrap_i64 (by omega) (by omega)]; rfl
    rw [hw2]
    refine And.intro (by simp only [allP, List.nil_append, List.cons_append, true_and]; rw [hbl]; omega) ?_
    conv => whnf
    rw [hcut]
    conv => whnf
    refine ⟨(vE n, seg), ?_⟩
    conv => whnf
    refine And.intro (by simp only [allP, List.nil_append, List.cons_append, true_and]; exact ⟨rfl, rfl, trivial⟩) ?_
    conv => whnf
    cases hs : decide (vE n = seg)
    · rw [hs] at hgn
      conv => whnf
      refine ⟨by rfl, ?_⟩
      (set_option smartUnfolding false in conv => whnf)
      rw [hgn]
      exact ⟨rfl, rfl, rfl⟩
    · rw [hs] at hgn
      conv => whnf
      refine ⟨by rfl, ?_⟩
      (set_option smartUnfolding false in conv => whnf)
      rw [hgn, hw2]
      exact ⟨rfl, rfl, rfl⟩
theorem rget_sound : Sound Try.prog 37 cGet := does_sound mixed tabOk_prog gR3a_ok Try.func37 rget_does
def gR3c : List (FuncId × Ctr) := (37, cGet) :: (40, cPutInt) :: gR3b
theorem gR3c_ok : GamOk Try.prog gR3c := GamOk.cons (GamOk.cons gR3b_ok Try.func40 (by kernel_rfl) (by kernel_rfl) rputInt_sound) Try.func37 (by kernel_rfl) (by kernel_rfl) rget_sound
theorem rgetInt_does : Does gR3c tab Try.f38 cGetInt := by
  rintro ⟨l, a⟩ ⟨h1, h2, h3⟩
  have hv := vGet_lt l a
  have he := vGet_end l a
  have hor : vGet l a = (0, 0, false) ∨ (vGet l a).2.2 = true := by
    rcases vGet_form l a with h | ⟨v, _, _, _, h, _⟩
    · exact Or.inl h
    · exact Or.inr (by rw [h])
  conv => whnf
  refine ⟨(l, a), ?_⟩
  conv => whnf
  refine And.intro (by simp only [allP, List.nil_append, List.cons_append, true_and]; exact ⟨rfl, rfl, h1, h2, h3⟩) ?_
  conv => whnf
  obtain ⟨n, e, ok, hG⟩ : ∃ n e ok, vGet l a = (n, e, ok) := ⟨_, _, _, rfl⟩
  rw [hG] at hv he hor ⊢
  simp only at hv he hor
  rcases hor with hor | rfl
  · cases hor
    conv => whnf
    rw [hG]
    exact ⟨rfl, rfl, rfl⟩
  obtain ⟨n, rfl⟩ : ∃ m : Nat, n = (m : Nat) := ⟨n.toNat, by omega⟩
  conv => whnf
  refine dI (k := ?_)
  conv => whnf
  have hm : (((n : Nat) : Int), e, true).1.tmod 2 = ((n % 2 : Nat) : Int) := tmod_nat n 2
  have hq : IntKind.i64.wrap (IntKind.u64.wrap ((((n : Nat) : Int), e, true).1.tdiv 2)) = ((n / 2 : Nat) : Int) := by rw [show (((n : Nat) : Int), e, true).1.tdiv 2 = ((n / 2 : Nat) : Int) from tdiv_nat n 2, wrap_u64 (by omega) (by omega), wrap_i64 (by omega) (by omega)]
  rw [hm]
  by_cases h : n % 2 = 1
  · rw [show (((n % 2 : Nat) : Int) == 1) = true from by rw [h]; rfl]
    conv => whnf
    refine dI (k := ?_)
    conv => whnf
    have hz : IntKind.i64.wrap (IntKind.i64.wrap (-((n / 2 : Nat) : Int)) - 1) = unzig ((n : Nat) : Int) := by
      unfold unzig
      rw [if_neg (by omega), wrap_i64 (x := -((n / 2 : Nat) : Int)) (by omega) (by omega), wrap_i64 (by omega) (by omega)]
      omega
    rw [hq, hz, hG]
    exact ⟨rfl, rfl, rfl⟩
  · rw [show (((n % 2 : Nat) : Int) == 1) = false from by rw [show n % 2 = 0 by omega]; rfl]
    conv => whnf
    refine dI (k := ?_)
    conv => whnf
    have hz : ((n / 2 : Nat) : Int) = unzig ((n : Nat) : Int) := by
      unfold unzig
      rw [if_pos (by omega)]
      omega
    rw [hq, hz, hG]
    exact ⟨rfl, rfl, rfl⟩
theorem rgetInt_sound : Sound Try.prog 38 cGetInt := does_sound mixed tabOk_prog gR3c_ok Try.func38 rgetInt_does
/-- All of conduitref03. -/
def gRef03 : List (FuncId × Ctr) := (38, cGetInt) :: gR3c
theorem gRef03_ok : GamOk Try.prog gRef03 := GamOk.cons gR3c_ok Try.func38 (by kernel_rfl) (by kernel_rfl) rgetInt_sound
end Go.Proofs.Ytonbbaimkpjcfaa.Ev
