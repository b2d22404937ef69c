/- Wire: what is read: numbers. No conditions. -/
import Derived.Test.YtingmlhhabaplaaGreatEvWire0
import Derived.Test.YtingmlhhabaplaaGreatEvBytes
namespace Go.Proofs.YtingmlhhabaplaaGreat.Ev
open Go
set_option linter.unusedVariables false
set_option linter.unusedSimpArgs false
set_option maxRecDepth 100000
set_option maxHeartbeats 4000000
/-- What still stands there, and whether it went wrong. -/
abbrev In := List UInt8 × Bool
/-- A number read. -/
def gNu (s : In) : Int × In := match vGet s.1 0 with
  | (v, a, true) => (unzig v, s.1.drop a.toNat, s.2)
  | (_, _, false) => (0, [], true)
/-- A part of a thing read. -/
abbrev cI {X : Type} (get : In → X × In) (av : X → AV) : Ctr := ⟨In, 1, fun _ => [.ptr 0 0], fun s => [(0, .box [.p false (.sl 1 (bl s.1)), isB s.2])],
  fun s => s.1.length ≤ 1099511627776, fun s => av (get s).1, fun s => [(0, .box [.p false (.sl 1 (bl (get s).2.1)), isB (get s).2.2])]⟩
abbrev cINum : Ctr := cI gNu (fun n => isI .i64 n)
theorem inum_does : Does gVar tab Tryz.f86 cINum := by
  rintro ⟨l, b⟩ (h : l.length ≤ 1099511627776)
  conv => whnf
  refine ⟨(l, 0), ?_⟩
  conv => whnf
  refine And.intro (by simp only [allP, List.nil_append, List.cons_append, true_and]; and_intros <;> first | rfl | omega) ?_
  conv => whnf
  rcases vGet_form l 0 with hf | ⟨v, hv, h1, h2, hf, h3⟩
  · have hg : gNu (l, b) = (0, [], true) := by unfold gNu; simp only; rw [hf]
    rw [hf]
    conv => whnf
    refine dI (k := ?_)
    conv => whnf
    refine dI (k := ?_)
    conv => whnf
    rw [hg]
    and_intros <;> first | rfl | exact trivial | simp [pvle]
  · have hg : gNu (l, b) = (unzig v, l.drop (vCnt v), b) := by unfold gNu; simp only; rw [hf]; simp
    rw [hf]
    conv => whnf
    refine And.intro (by simp only [allP, List.nil_append, List.cons_append, true_and]; rw [bl_length]; omega) ?_
    conv => whnf
    rw [Int.toNat_natCast, bl_length, List.take_of_length_le (by rw [bl_length]; exact Nat.le_refl _), bl_drop, show (0 + (vCnt v : Int)).toNat = vCnt v by omega]
    refine dI (k := ?_)
    conv => whnf
    rw [hg]
    and_intros <;> first | rfl | exact trivial | simp [pvle]
theorem inum_sound : Sound Tryz.prog 86 cINum := does_sound mixed tabOk_prog gVar_ok Tryz.func86 inum_does
theorem gNu_put (n : Int) (h : i64R n) (r : List UInt8) (b : Bool) : gNu (nuB n ++ r, b) = (n, r, b) := by
  have hz := zig_lt h.1 h.2
  have hp := vGet_put [] r hz
  rw [List.nil_append] at hp
  unfold gNu nuB
  simp only
  rw [show (0 : Int) = (([] : List UInt8).length : Nat) from rfl, hp]
  simp only [List.length_nil, Nat.zero_add]
  rw [unzig_zig n h.1 h.2, Int.toNat_natCast, ← vE_length, List.drop_left]
theorem gNu_back {l r : List UInt8} {b : Bool} {n : Int} (h : gNu (l, b) = (n, r, false)) : i64R n ∧ b = false ∧ l = nuB n ++ r := by
  rcases vGet_form l 0 with hf | ⟨v, hv, h1, h2, hf, h3⟩
  · unfold gNu at h
    simp only at h
    rw [hf] at h
    simp at h
  · unfold gNu at h
    simp only at h
    rw [hf] at h
    simp only [Prod.mk.injEq] at h
    obtain ⟨rfl, hr, rfl⟩ := h
    rw [show (0 + (vCnt v : Int)).toNat = vCnt v by omega] at hr
    refine ⟨unzig_bd (by omega) (by omega), rfl, ?_⟩
    rw [← hr, nuB, zig_unzig, ← h3]
    exact (List.take_append_drop _ _).symm
theorem gNu_len (s : In) : (gNu s).2.1.length ≤ s.1.length := by
  rcases vGet_form s.1 0 with hf | ⟨v, hv, h1, h2, hf, h3⟩ <;> unfold gNu <;> rw [hf]
  · exact Nat.zero_le _
  · simp only [List.length_drop]; omega
def gI1 : List (FuncId × Ctr) := (86, cINum) :: gVar
theorem gI1_ok : GamOk Tryz.prog gI1 := GamOk.cons gVar_ok Tryz.func86 (by kernel_rfl) (by kernel_rfl) inum_sound
theorem iint_does : Does gI1 tab Tryz.f97 cINum := by
  rintro ⟨l, b⟩ (h : l.length ≤ 1099511627776)
  conv => whnf
  refine ⟨(l, b), ?_⟩
  conv => whnf
  refine And.intro (by simp only [allP, List.nil_append, List.cons_append, true_and]; and_intros <;> first | rfl | exact h) ?_
  conv => whnf
  first | done | (and_intros <;> rfl)
theorem iint_sound : Sound Tryz.prog 97 cINum := does_sound mixed tabOk_prog gI1_ok Tryz.func97 iint_does
/-- A truth read. -/
def gBo (s : In) : Bool × In := match s.1 with
  | [] => (false, [], true)
  | x :: r => if x = 0 then (false, r, s.2) else if x = 1 then (true, r, s.2) else (false, [], true)
abbrev cIBool : Ctr := cI gBo (fun n => isB n)
theorem ibool_does : Does [] tab Tryz.f121 cIBool := by
  rintro ⟨_ | ⟨x, r⟩, b⟩ (h : _ ≤ 1099511627776)
  · conv => whnf
    refine dI (k := ?_)
    conv => whnf
    refine dI (k := ?_)
    conv => whnf
    and_intros <;> first | rfl | exact trivial | simp [pvle, bl, gBo]
  · have hx : ∀ y : UInt8, x = y ↔ x.toNat = y.toNat := fun y => ⟨fun h => by rw [h], fun h => UInt8.toNat_inj.1 h⟩
    have tk : ∀ y : UInt8, ((bl (y :: r)).take ((bl (y :: r)).length : Int).toNat).drop (Int.toNat 1) = bl r := by
      intro y
      rw [Int.toNat_natCast, List.take_length]
      rfl
    by_cases h0 : x = 0
    · subst h0
      have hg : gBo (0 :: r, b) = (false, r, b) := rfl
      conv => whnf
      refine And.intro (by simp only [allP, List.nil_append, List.cons_append, true_and]; rw [bl_length]; simp only [List.length_cons]; omega) ?_
      conv => whnf
      refine And.intro (by simp only [allP, List.nil_append, List.cons_append, true_and]; rw [bl_length]; simp only [List.length_cons]; omega) ?_
      conv => whnf
      refine And.intro (by simp only [allP, List.nil_append, List.cons_append, true_and]; rw [bl_length]; simp only [List.length_cons]; omega) ?_
      conv => whnf
      rw [tk]
      refine dI (k := ?_)
      conv => whnf
      rw [hg]
      and_intros <;> first | rfl | exact trivial | simp [pvle]
    by_cases h1 : x = 1
    · subst h1
      have hg : gBo (1 :: r, b) = (true, r, b) := rfl
      conv => whnf
      refine And.intro (by simp only [allP, List.nil_append, List.cons_append, true_and]; rw [bl_length]; simp only [List.length_cons]; omega) ?_
      conv => whnf
      refine And.intro (by simp only [allP, List.nil_append, List.cons_append, true_and]; rw [bl_length]; simp only [List.length_cons]; omega) ?_
      conv => whnf
      refine And.intro (by simp only [allP, List.nil_append, List.cons_append, true_and]; rw [bl_length]; simp only [List.length_cons]; omega) ?_
      conv => whnf
      rw [tk]
      refine dI (k := ?_)
      conv => whnf
      rw [hg]
      and_intros <;> first | rfl | exact trivial | simp [pvle]
    have hg : gBo (x :: r, b) = (false, [], true) := by unfold gBo; simp only [h0, h1, if_false]
    have hd : decide ((x.toNat : Int) > 1) = true := decide_eq_true (by rw [hx] at h0 h1; have e0 : (0 : UInt8).toNat = 0 := rfl; have e1 : (1 : UInt8).toNat = 1 := rfl; omega)
    conv => whnf
    refine And.intro (by simp only [allP, List.nil_append, List.cons_append, true_and]; rw [bl_length]; simp only [List.length_cons]; omega) ?_
    conv => whnf
    rw [hd]
    conv => whnf
    refine dI (k := ?_)
    conv => whnf
    refine dI (k := ?_)
    conv => whnf
    rw [hg]
    and_intros <;> first | rfl | exact trivial | simp [pvle]
theorem ibool_sound : Sound Tryz.prog 121 cIBool := does_sound mixed tabOk_prog GamOk.nil Tryz.func121 ibool_does
theorem gBo_put (n : Bool) (r : List UInt8) (b : Bool) : gBo (boB n ++ r, b) = (n, r, b) := by cases n <;> rfl
theorem gBo_back {l r : List UInt8} {b : Bool} {n : Bool} (h : gBo (l, b) = (n, r, false)) : b = false ∧ l = boB n ++ r := by
  unfold gBo at h
  match l with
  | [] => simp at h
  | x :: t =>
    simp only at h
    split at h
    · rename_i h0; cases h; exact ⟨rfl, by rw [h0]; rfl⟩
    split at h
    · rename_i h0; cases h; exact ⟨rfl, by rw [h0]; rfl⟩
    · simp at h
theorem gBo_len (s : In) : (gBo s).2.1.length ≤ s.1.length := by
  obtain ⟨l, b⟩ := s
  unfold gBo
  match l with
  | [] => exact Nat.le_refl _
  | x :: t =>
    simp only
    split
    · simp
    split <;> simp
/-- A size read: not more than what still stands there. -/
def gSz (s : In) : Nat × In := match vGet s.1 0 with
  | (v, a, true) => if v ≤ s.1.length - a then (v.toNat, s.1.drop a.toNat, s.2) else (0, [], true)
  | (_, _, false) => (0, [], true)
abbrev cISize : Ctr := cI gSz (fun n => isI .i64 n)
theorem isize_does : Does gVar tab Tryz.f144 cISize := by
  rintro ⟨l, b⟩ (h : l.length ≤ 1099511627776)
  conv => whnf
  refine ⟨(l, 0), ?_⟩
  conv => whnf
  refine And.intro (by simp only [allP, List.nil_append, List.cons_append, true_and]; and_intros <;> first | rfl | omega) ?_
  conv => whnf
  rcases vGet_form l 0 with hf | ⟨v, hv, h1, h2, hf, h3⟩
  · have hg : gSz (l, b) = (0, [], true) := by unfold gSz; simp only; rw [hf]
    rw [hf]
    conv => whnf
    refine dI (k := ?_)
    conv => whnf
    refine dI (k := ?_)
    conv => whnf
    rw [hg]
    and_intros <;> first | rfl | exact trivial | simp [pvle]
  · have hw : IntKind.u64.wrap (IntKind.i64.wrap (((bl l).length : Int) - (0 + (vCnt v : Int)))) = (l.length : Int) - (vCnt v : Int) := by
      rw [bl_length, wrap_i64 (by omega) (by omega), wrap_u64 (by omega) (by omega)]; omega
    rw [hf]
    conv => whnf
    split <;> rename_i hb <;> rw [hb] <;> conv => whnf
    · have hb' : decide ((v : Int) > IntKind.u64.wrap (IntKind.i64.wrap (((bl l).length : Int) - (0 + (vCnt v : Int))))) = true := hb
      rw [hw] at hb'
      have hb2 := of_decide_eq_true hb'
      have hg : gSz (l, b) = (0, [], true) := by unfold gSz; simp only; rw [hf]; simp only; rw [if_neg (by omega)]
      refine dI (k := ?_)
      conv => whnf
      refine dI (k := ?_)
      conv => whnf
      rw [hg]
      and_intros <;> first | rfl | exact trivial | simp [pvle]
    · have hb' : decide ((v : Int) > IntKind.u64.wrap (IntKind.i64.wrap (((bl l).length : Int) - (0 + (vCnt v : Int))))) = false := hb
      rw [hw] at hb'
      have hb2 := of_decide_eq_false hb'
      have hg : gSz (l, b) = (v, l.drop (vCnt v), b) := by unfold gSz; simp only; rw [hf]; simp only; rw [if_pos (by omega), Int.toNat_natCast, show (0 + (vCnt v : Int)).toNat = vCnt v by omega]
      refine And.intro (by simp only [allP, List.nil_append, List.cons_append, true_and]; rw [bl_length]; omega) ?_
      conv => whnf
      rw [Int.toNat_natCast, bl_length, List.take_of_length_le (by rw [bl_length]; exact Nat.le_refl _), bl_drop, show (0 + (vCnt v : Int)).toNat = vCnt v by omega]
      refine dI (k := ?_)
      conv => whnf
      rw [hg]
      show pvle (.int .i64 (v : Int)) (.int .i64 (IntKind.i64.wrap (v : Int))) ∧ _
      rw [wrap_i64n (by omega)]
      and_intros <;> first | rfl | exact trivial | simp [pvle]
theorem isize_sound : Sound Tryz.prog 144 cISize := does_sound mixed tabOk_prog gVar_ok Tryz.func144 isize_does
theorem gSz_put (n : Nat) (h : n < 18446744073709551616) (r : List UInt8) (b : Bool) (hr : n ≤ r.length) : gSz (vE n ++ r, b) = (n, r, b) := by
  have hp := vGet_put [] r h
  rw [List.nil_append] at hp
  unfold gSz
  simp only
  rw [show (0 : Int) = (([] : List UInt8).length : Nat) from rfl, hp]
  simp only [List.length_nil, Nat.zero_add]
  have hl := vE_length n
  rw [if_pos (by rw [List.length_append]; omega), Int.toNat_natCast, Int.toNat_natCast, ← vE_length, List.drop_left]
theorem gSz_back {l r : List UInt8} {b : Bool} {n : Nat} (h : gSz (l, b) = (n, r, false)) : n < 18446744073709551616 ∧ n ≤ r.length ∧ b = false ∧ l = vE n ++ r := by
  rcases vGet_form l 0 with hf | ⟨v, hv, h1, h2, hf, h3⟩
  · unfold gSz at h
    simp only at h
    rw [hf] at h
    simp at h
  · unfold gSz at h
    simp only at h
    rw [hf] at h
    simp only at h
    split at h
    · rename_i hle
      simp only [Prod.mk.injEq] at h
      obtain ⟨hn, hr, rfl⟩ := h
      rw [show (0 + (vCnt v : Int)).toNat = vCnt v by omega] at hr
      rw [Int.toNat_natCast] at hn
      subst hn
      refine ⟨hv, ?_, rfl, ?_⟩
      · rw [← hr, List.length_drop]; omega
      · rw [← hr, ← h3]
        exact (List.take_append_drop _ _).symm
    · simp at h
theorem gSz_len (s : In) : (gSz s).2.1.length ≤ s.1.length := by
  rcases vGet_form s.1 0 with hf | ⟨v, hv, h1, h2, hf, h3⟩ <;> unfold gSz <;> rw [hf]
  · exact Nat.zero_le _
  · simp only
    split <;> simp
theorem gSz_le (s : In) : (gSz s).1 ≤ (gSz s).2.1.length := by
  rcases vGet_form s.1 0 with hf | ⟨v, hv, h1, h2, hf, h3⟩ <;> unfold gSz <;> rw [hf]
  · exact Nat.zero_le _
  · simp only
    split
    · simp only [List.length_drop]; omega
    · exact Nat.zero_le _
/-- A byte read. -/
def gBy (s : In) : UInt8 × In := if 0 ≤ (gNu s).1 ∧ (gNu s).1 ≤ 255 then (UInt8.ofNat (gNu s).1.toNat, (gNu s).2) else (UInt8.ofNat ((gNu s).1 % 256).toNat, ((gNu s).2.1, true))
theorem gBy_val (s : In) : IntKind.u8.wrap (gNu s).1 = ((gBy s).1.toNat : Nat) := by
  have hw : IntKind.u8.wrap (gNu s).1 = (gNu s).1 % 256 := rfl
  rw [hw]
  unfold gBy
  split
  · simp only [UInt8.toNat_ofNat']; omega
  · simp only [UInt8.toNat_ofNat']; omega
abbrev cIByte : Ctr := cI gBy (fun n => isI .u8 n.toNat)
theorem ibyte_does : Does gI1 tab Tryz.f115 cIByte := by
  rintro ⟨l, b⟩ (h : l.length ≤ 1099511627776)
  have hv := gBy_val (l, b)
  conv => whnf
  refine ⟨(l, b), ?_⟩
  conv => whnf
  refine And.intro (by simp only [allP, List.nil_append, List.cons_append, true_and]; and_intros <;> first | rfl | exact h) ?_
  conv => whnf
  by_cases h0 : (gNu (l, b)).1 < 0
  · have hg : (gBy (l, b)).2 = ((gNu (l, b)).2.1, true) := by unfold gBy; rw [if_neg (by omega)]
    rw [decide_eq_true h0]
    conv => whnf
    refine dI (k := ?_)
    conv => whnf
    rw [hv, hg]
    and_intros <;> first | rfl | exact trivial | simp [pvle]
  rw [decide_eq_false h0]
  conv => whnf
  by_cases h1 : (gNu (l, b)).1 > 255
  · have hg : (gBy (l, b)).2 = ((gNu (l, b)).2.1, true) := by unfold gBy; rw [if_neg (by omega)]
    rw [decide_eq_true h1]
    conv => whnf
    refine dI (k := ?_)
    conv => whnf
    rw [hv, hg]
    and_intros <;> first | rfl | exact trivial | simp [pvle]
  have hg : (gBy (l, b)).2 = (gNu (l, b)).2 := by unfold gBy; rw [if_pos (by omega)]
  rw [decide_eq_false h1]
  conv => whnf
  rw [hv, hg]
  and_intros <;> first | rfl | exact trivial | simp [pvle]
theorem ibyte_sound : Sound Tryz.prog 115 cIByte := does_sound mixed tabOk_prog gI1_ok Tryz.func115 ibyte_does
theorem gBy_put (c : UInt8) (r : List UInt8) (b : Bool) : gBy (nuB (c.toNat : Nat) ++ r, b) = (c, r, b) := by
  have hc := u8_lt c
  have h := gNu_put (c.toNat : Nat) (by unfold i64R; omega) r b
  unfold gBy
  rw [h]
  simp only
  rw [if_pos (by omega), Int.toNat_natCast]
  simp
theorem gBy_back {l r : List UInt8} {b : Bool} {c : UInt8} (h : gBy (l, b) = (c, r, false)) : b = false ∧ l = nuB (c.toNat : Nat) ++ r := by
  unfold gBy at h
  split at h
  · rename_i hc
    simp only [Prod.mk.injEq] at h
    obtain ⟨h1, h2⟩ := h
    obtain ⟨_, hb, hl⟩ := gNu_back (n := (gNu (l, b)).1) (r := r) (l := l) (b := b) (by rw [← h2])
    refine ⟨hb, ?_⟩
    rw [show ((c.toNat : Nat) : Int) = (gNu (l, b)).1 by rw [← h1, UInt8.toNat_ofNat']; omega]
    exact hl
  · simp at h
theorem gBy_len (s : In) : (gBy s).2.1.length ≤ s.1.length := by
  have := gNu_len s
  unfold gBy
  split <;> exact this
/-- A row of bytes read: an own row. -/
def gRc (s : In) : List UInt8 × In := ((gSz s).2.1.take (gSz s).1, (gSz s).2.1.drop (gSz s).1, (gSz s).2.2)
abbrev cIBytes : Ctr := ⟨In, 1, fun _ => [.ptr 0 0], fun s => [(0, .box [.p false (.sl 1 (bl s.1)), isB s.2])],
  fun s => s.1.length ≤ 1099511627776, fun s => .rowf 1, fun s => [(0, .box [.p false (.sl 1 (bl (gRc s).2.1)), isB (gRc s).2.2]), (1, .row 5 1 true false (bl (gRc s).1))]⟩
def gI2 : List (FuncId × Ctr) := (167, cClone) :: (144, cISize) :: gI1
theorem gI2_ok : GamOk Tryz.prog gI2 := GamOk.cons (GamOk.cons gI1_ok Tryz.func144 (by kernel_rfl) (by kernel_rfl) isize_sound) Tryz.func167 (by kernel_rfl) (by kernel_rfl) clone_sound
theorem ibytes_does : Does gI2 tab Tryz.f127 cIBytes := by
  rintro ⟨l, b⟩ (h : l.length ≤ 1099511627776)
  have hle := gSz_le (l, b)
  have hln := gSz_len (l, b)
  have hln' : (gSz (l, b)).2.1.length ≤ 1099511627776 := Nat.le_trans hln h
  conv => whnf
  refine ⟨(l, b), ?_⟩
  conv => whnf
  refine And.intro (by simp only [allP, List.nil_append, List.cons_append, true_and]; and_intros <;> first | rfl | exact h) ?_
  conv => whnf
  refine And.intro (by simp only [allP, List.nil_append, List.cons_append, true_and]; rw [bl_length]; omega) ?_
  conv => whnf
  rw [Int.toNat_natCast, show Int.toNat 0 = 0 from rfl, List.drop_zero, bl_take]
  refine ⟨(gSz (l, b)).2.1.take (gSz (l, b)).1, ?_⟩
  conv => whnf
  refine And.intro (by simp only [allP, List.nil_append, List.cons_append, true_and]; and_intros <;> first | rfl | (rw [List.length_take]; omega)) ?_
  conv => whnf
  refine And.intro (by simp only [allP, List.nil_append, List.cons_append, true_and]; rw [bl_length]; omega) ?_
  conv => whnf
  rw [Int.toNat_natCast, Int.toNat_natCast, List.take_length, bl_drop]
  refine dI (k := ?_)
  conv => whnf
  and_intros <;> first | rfl | exact trivial | simp [pvle] | exact bl_isFlat _
theorem ibytes_sound : Sound Tryz.prog 127 cIBytes := does_sound mixed tabOk_prog gI2_ok Tryz.func127 ibytes_does
theorem gRc_put (x r : List UInt8) (b : Bool) (h : x.length < 18446744073709551616) : gRc (recB x ++ r, b) = (x, r, b) := by
  have e := gSz_put x.length h (x ++ r) b (by rw [List.length_append]; omega)
  unfold gRc recB
  rw [List.append_assoc, e]
  simp
theorem gRc_back {l r x : List UInt8} {b : Bool} (h : gRc (l, b) = (x, r, false)) : x.length < 18446744073709551616 ∧ b = false ∧ l = recB x ++ r := by
  unfold gRc at h
  simp only [Prod.mk.injEq] at h
  obtain ⟨h1, h2, h3⟩ := h
  obtain ⟨k1, k2, k3, k4⟩ := gSz_back (n := (gSz (l, b)).1) (r := (gSz (l, b)).2.1) (l := l) (b := b) (by rw [← h3])
  have hl : x.length = (gSz (l, b)).1 := by rw [← h1, List.length_take]; omega
  refine ⟨by omega, k3, ?_⟩
  rw [recB, hl, List.append_assoc, ← h1, ← h2, List.take_append_drop]
  exact k4
theorem gRc_len (s : In) : (gRc s).2.1.length ≤ s.1.length := by
  have := gSz_len s
  unfold gRc
  simp only [List.length_drop]
  omega
/-- A text read. -/
def gTx (s : In) : ByteArray × In := (strOf (gRc s).1, (gRc s).2)
abbrev cIText : Ctr := cI gTx (fun s => .p true (.str s))
def gI3 : List (FuncId × Ctr) := (127, cIBytes) :: gI2
theorem gI3_ok : GamOk Tryz.prog gI3 := GamOk.cons gI2_ok Tryz.func127 (by kernel_rfl) (by kernel_rfl) ibytes_sound
theorem itext_does : Does gI3 tab Tryz.f96 cIText := by
  rintro ⟨l, b⟩ (h : l.length ≤ 1099511627776)
  conv => whnf
  refine ⟨(l, b), ?_⟩
  conv => whnf
  refine And.intro (by simp only [allP, List.nil_append, List.cons_append, true_and]; and_intros <;> first | rfl | exact h) ?_
  conv => whnf
  refine And.intro (by simp only [allP, List.nil_append, List.cons_append, true_and]; exact bl_isByte _) ?_
  conv => whnf
  rw [elsStr_bl]
  and_intros <;> first | rfl | exact trivial | simp [pvle]
theorem itext_sound : Sound Tryz.prog 96 cIText := does_sound mixed tabOk_prog gI3_ok Tryz.func96 itext_does
theorem gTx_put (s : ByteArray) (r : List UInt8) (b : Bool) (h : s.size < 18446744073709551616) : gTx (txB s ++ r, b) = (s, r, b) := by
  unfold gTx
  rw [txB_rec, gRc_put _ _ _ (by exact h)]
  rfl
theorem gTx_back {l r : List UInt8} {s : ByteArray} {b : Bool} (h : gTx (l, b) = (s, r, false)) : s.size < 18446744073709551616 ∧ b = false ∧ l = txB s ++ r := by
  unfold gTx at h
  simp only [Prod.mk.injEq] at h
  obtain ⟨h1, h2⟩ := h
  obtain ⟨k1, k2, k3⟩ := gRc_back (x := (gRc (l, b)).1) (r := r) (l := l) (b := b) (by rw [← h2])
  subst h1
  exact ⟨by rw [strOf_size]; exact k1, k2, by rw [txB_rec]; exact k3⟩
/-- Elements read, one behind the other, till one goes wrong. -/
def gLp {X : Type} (get : In → X × In) : Nat → In → List X × In
  | 0, s => ([], s)
  | n + 1, s => match s.2 with
    | true => ([], s)
    | false => ((get s).1 :: (gLp get n (get s).2).1, (gLp get n (get s).2).2)
/-- A list read: its length, its elements. -/
def gLs {X : Type} (get : In → X × In) (s : In) : List X × In := gLp get (gSz s).1 (gSz s).2
theorem gLp_put {X : Type} {get : In → X × In} {enc : X → List UInt8} {ok : X → Prop} (h : ∀ x r, ok x → get (enc x ++ r, false) = (x, r, false)) : ∀ (l : List X) (r : List UInt8), (∀ x ∈ l, ok x) → gLp get l.length ((l.map enc).flatten ++ r, false) = (l, r, false)
  | [], r, _ => rfl
  | x :: l, r, hl => by
    have e := h x ((l.map enc).flatten ++ r) (hl x List.mem_cons_self)
    have e2 := gLp_put h l r (fun y hy => hl y (List.mem_cons_of_mem _ hy))
    rw [List.map_cons, List.flatten_cons, List.append_assoc, List.length_cons]
    unfold gLp
    simp only
    rw [e, e2]
theorem gLp_back {X : Type} {get : In → X × In} {enc : X → List UInt8} {ok : X → Prop} (h : ∀ l r x b, get (l, b) = (x, r, false) → ok x ∧ b = false ∧ l = enc x ++ r) : ∀ (n : Nat) (l r : List UInt8) (b : Bool) (xs : List X), gLp get n (l, b) = (xs, r, false) → xs.length = n ∧ (∀ x ∈ xs, ok x) ∧ b = false ∧ l = (xs.map enc).flatten ++ r
  | 0, l, r, b, xs, hg => by
    unfold gLp at hg
    cases hg
    exact ⟨rfl, fun _ h => (List.not_mem_nil h).elim, rfl, rfl⟩
  | n + 1, l, r, b, xs, hg => by
    unfold gLp at hg
    cases b
    · simp only [Prod.mk.injEq] at hg
      obtain ⟨h1, h2⟩ := hg
      obtain ⟨k1, k2, k3, k4⟩ := gLp_back h n (get (l, false)).2.1 r (get (l, false)).2.2 (gLp get n (get (l, false)).2).1 (by rw [← h2])
      obtain ⟨q1, q2, q3⟩ := h l (get (l, false)).2.1 (get (l, false)).1 false (Prod.ext rfl (Prod.ext rfl k3))
      subst h1
      refine ⟨by rw [List.length_cons, k1], ?_, rfl, ?_⟩
      · intro x hx
        rcases List.mem_cons.1 hx with rfl | hx
        · exact q1
        · exact k2 x hx
      · rw [List.map_cons, List.flatten_cons, List.append_assoc, ← k4]
        exact q3
    · simp at hg
end Go.Proofs.YtingmlhhabaplaaGreat.Ev
