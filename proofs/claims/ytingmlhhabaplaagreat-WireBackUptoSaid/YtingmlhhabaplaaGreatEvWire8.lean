/- Wire: what the program reads: things begun, things whole. No conditions. -/
import Derived.Test.YtingmlhhabaplaaGreatEvWire7a
namespace Go.Proofs.YtingmlhhabaplaaGreat.Ev
open Go
set_option linter.unusedVariables false
set_option linter.unusedSimpArgs false
set_option maxRecDepth 100000
set_option maxHeartbeats 4000000
/-- Bytes of a kind, begun. -/
def gBg (kd : UInt8) (most : Nat) (l : List UInt8) : In := match l with
  | [] => ([], true)
  | x :: r => if x = kd then (if r.length + 1 ≤ most then (r, false) else ([], true)) else ([], true)
abbrev cBegun : Ctr := ⟨List UInt8 × UInt8 × Nat, 0, fun (l, kd, m) => [.p false (.sl 1 (bl l)), isI .u8 kd.toNat, isI .i64 m], fun _ => [], fun _ => True, fun _ => .ptr 0 0, fun (l, kd, m) => [(0, .box [.p false (.sl 1 (bl (gBg kd m l).1)), isB (gBg kd m l).2])]⟩
theorem begun_does : Does [] tab Tryz.f39 cBegun := by
  rintro ⟨_ | ⟨x, r⟩, kd, m⟩ -
  · conv => whnf
    and_intros <;> first | rfl | exact trivial | (simp [pvle, bl, gBg]; done)
  · conv => whnf
    refine And.intro (by simp only [allP, List.nil_append, List.cons_append, true_and]; rw [bl_length]; simp only [List.length_cons]; omega) ?_
    conv => whnf
    by_cases hk : x = kd
    · subst hk
      rw [show ((x.toNat : Int) != (x.toNat : Int)) = false from by simp]
      conv => whnf
      split <;> rename_i hb <;> rw [hb] <;> conv => whnf
      · have hb' : decide (((bl (x :: r)).length : Int) > (m : Int)) = true := hb
        have h2 := of_decide_eq_true hb'
        rw [bl_length, List.length_cons] at h2
        have hg : gBg x m (x :: r) = ([], true) := by unfold gBg; simp only; rw [if_pos trivial, if_neg (by omega)]
        rw [hg]
        and_intros <;> first | rfl | exact trivial | (simp [pvle, bl]; done)
      · have hb' : decide (((bl (x :: r)).length : Int) > (m : Int)) = false := hb
        have h2 := of_decide_eq_false hb'
        rw [bl_length, List.length_cons] at h2
        have hg : gBg x m (x :: r) = (r, false) := by unfold gBg; simp only; rw [if_pos trivial, if_pos (by omega)]
        refine And.intro (by simp only [allP, List.nil_append, List.cons_append, true_and]; rw [bl_length]; simp only [List.length_cons]; omega) ?_
        conv => whnf
        rw [hg, Int.toNat_natCast, List.take_length]
        and_intros <;> first | rfl | exact trivial | (simp [pvle, bl]; done)
    · have hx : ((x.toNat : Int) != (kd.toNat : Int)) = true := by
        rw [bne_iff_ne]
        intro h
        exact hk (UInt8.toNat_inj.1 (by omega))
      have hg : gBg kd m (x :: r) = ([], true) := by unfold gBg; simp only; rw [if_neg hk]
      rw [hx]
      conv => whnf
      rw [hg]
      and_intros <;> first | rfl | exact trivial | (simp [pvle, bl]; done)
theorem begun_sound : Sound Tryz.prog 39 cBegun := does_sound mixed tabOk_prog GamOk.nil Tryz.func39 begun_does
theorem gBg_len (kd : UInt8) (most : Nat) (l : List UInt8) : (gBg kd most l).1.length ≤ most := by
  unfold gBg
  split
  · exact Nat.zero_le _
  · split
    · split
      · simp only; omega
      · exact Nat.zero_le _
    · exact Nat.zero_le _
/-- Were they read whole? -/
abbrev cWhole : Ctr := ⟨In, 1, fun _ => [.ptr 0 0], fun s => [(0, .box [.p false (.sl 1 (bl s.1)), isB s.2])], fun _ => True, fun s => isB (!s.2 && s.1.isEmpty), fun s => [(0, .box [.p false (.sl 1 (bl s.1)), isB s.2])]⟩
theorem whole_does : Does [] tab Tryz.f41 cWhole := by
  rintro ⟨_ | ⟨x, r⟩, _ | _⟩ - <;> conv => whnf
  all_goals (and_intros <;> first | rfl | exact trivial | (simp [pvle]; done))
theorem whole_sound : Sound Tryz.prog 41 cWhole := does_sound mixed tabOk_prog GamOk.nil Tryz.func41 whole_does
/-- A thing got: all of it, or none and an error. -/
def gEnd {X : Type} (z : X) (q : X × In) : X × Int := match !q.2.2 && q.2.1.isEmpty with
  | true => (q.1, 0)
  | false => (z, 60)
def gGet {X : Type} (get : In → X × In) (kd : UInt8) (most : Nat) (z : X) (l : List UInt8) : X × Int := gEnd z (get (gBg kd most l))
abbrev cGet2 {X : Type} (get : In → X × In) (kd : UInt8) (most : Nat) (z : X) (av : X → AV) : Ctr := ⟨List UInt8, 0, fun l => [.p false (.sl 1 (bl l))], fun _ => [], fun _ => True, fun l => .tuple [av (gGet get kd most z l).1, isI .i64 (gGet get kd most z l).2], fun _ => []⟩
/-- What is got was put; what was put is got. -/
theorem gGet_put {X : Type} {get : In → X × In} {enc : X → List UInt8} {ok : X → Prop} (a : RL get enc ok) (kd : UInt8) (most : Nat) (z : X) (x : X) (hx : ok x) (hl : (enc x).length + 1 ≤ most) : gGet get kd most z (kd :: enc x) = (x, 0) := by
  have e := a.put x [] hx
  rw [List.append_nil] at e
  have hb : gBg kd most (kd :: enc x) = (enc x, false) := by unfold gBg; simp only; rw [if_pos trivial, if_pos hl]
  unfold gGet
  rw [hb, e]
  rfl
theorem gGet_form {X : Type} {get : In → X × In} {enc : X → List UInt8} {ok : X → Prop} (a : RL get enc ok) (kd : UInt8) (most : Nat) (hm : most ≤ 1000000) (z : X) (l : List UInt8) :
    gGet get kd most z l = (z, 60) ∨ ∃ x, ok x ∧ l = kd :: enc x ∧ (enc x).length + 1 ≤ most ∧ gGet get kd most z l = (x, 0) := by
  have hbl := gBg_len kd most l
  cases hc : !(get (gBg kd most l)).2.2 && (get (gBg kd most l)).2.1.isEmpty
  · exact .inl (by unfold gGet gEnd; rw [hc])
  · refine .inr ⟨(get (gBg kd most l)).1, ?_⟩
    simp only [Bool.and_eq_true, Bool.not_eq_true', List.isEmpty_iff] at hc
    obtain ⟨h1, h2⟩ := hc
    obtain ⟨k1, k2, k3⟩ := a.back (gBg kd most l).1 [] (get (gBg kd most l)).1 (gBg kd most l).2 (by omega) (Prod.ext rfl (Prod.ext h2 h1))
    rw [List.append_nil] at k3
    have hl : l = kd :: (gBg kd most l).1 ∧ (gBg kd most l).1.length + 1 ≤ most := by
      revert k2
      unfold gBg
      split
      · intro h; cases h
      · split
        · rename_i hk
          split
          · intro _; exact ⟨by rw [hk], by assumption⟩
          · intro h; cases h
        · intro h; cases h
    refine ⟨k1, by rw [← k3]; exact hl.1, by rw [← k3]; exact hl.2, ?_⟩
    unfold gGet gEnd
    rw [h1, h2]
    rfl
def gBW : List (FuncId × Ctr) := (39, cBegun) :: (41, cWhole) :: gX11
theorem gBW_ok : GamOk Tryz.prog gBW := GamOk.cons (GamOk.cons gX11_ok Tryz.func41 (by kernel_rfl) (by kernel_rfl) whole_sound) Tryz.func39 (by kernel_rfl) (by kernel_rfl) begun_sound
end Go.Proofs.YtingmlhhabaplaaGreat.Ev
