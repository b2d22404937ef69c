/- Wire: what the document reads: things begun, things that are. No conditions. -/
import Derived.Test.YtingmlhhabaplaaGreatEvWire9a
namespace Go.Proofs.YtingmlhhabaplaaGreat.Ev
open Go
set_option linter.unusedVariables false
set_option linter.unusedSimpArgs false
set_option maxRecDepth 100000
set_option maxHeartbeats 4000000
/-- Bytes begun by the document. -/
def dBg (l : List UInt8) : In := match l with
  | [] => ([], true)
  | x :: r => if r.length + 1 ≤ 65545 then (r, false) else ([], true)
theorem dBg_len (l : List UInt8) : (dBg l).1.length ≤ 65545 := by
  unfold dBg
  split
  · exact Nat.zero_le _
  · split
    · simp only; omega
    · exact Nat.zero_le _
abbrev cTBegin : Ctr := ⟨List UInt8, 0, fun l => [.p false (.sl 1 (bl l))], fun _ => [], fun _ => True, fun _ => .ptr 0 0, fun l => [(0, .box [.p false (.sl 1 (bl (dBg l).1)), isB (dBg l).2])]⟩
theorem tbegin_does : Does [] tab Tryz.f42 cTBegin := by
  rintro (_ | ⟨x, r⟩) -
  · conv => whnf
    and_intros <;> first | rfl | exact trivial | (simp [pvle, bl, dBg]; done)
  · conv => whnf
    split <;> rename_i hb <;> rw [hb] <;> conv => whnf
    · have hb' : decide (((bl (x :: r)).length : Int) > 65545) = true := hb
      have h2 := of_decide_eq_true hb'
      rw [bl_length, List.length_cons] at h2
      have hg : dBg (x :: r) = ([], true) := by unfold dBg; simp only; rw [if_neg (by omega)]
      rw [hg]
      and_intros <;> first | rfl | exact trivial | (simp [pvle, bl]; done)
    · have hb' : decide (((bl (x :: r)).length : Int) > 65545) = false := hb
      have h2 := of_decide_eq_false hb'
      rw [bl_length, List.length_cons] at h2
      have hg : dBg (x :: r) = (r, false) := by unfold dBg; simp only; rw [if_pos (by omega)]
      refine And.intro (by simp only [allP, List.nil_append, List.cons_append, true_and]; rw [bl_length]; simp only [List.length_cons]; omega) ?_
      conv => whnf
      rw [hg, Int.toNat_natCast, List.take_length]
      and_intros <;> first | rfl | exact trivial | (simp [pvle, bl]; done)
theorem tbegin_sound : Sound Tryz.prog 42 cTBegin := does_sound mixed tabOk_prog GamOk.nil Tryz.func42 tbegin_does
/-- Were they read, and are they a thing's own? -/
abbrev cTIs : Ctr := ⟨In × List UInt8 × List UInt8 × Nat, 1, fun (s, own, b, m) => [.ptr 0 0, .p false (.sl 1 (bl own)), .p false (.sl 1 (bl b)), isI .i64 m], fun (s, own, b, m) => [(0, .box [.p false (.sl 1 (bl s.1)), isB s.2])],
  fun _ => True, fun (s, own, b, m) => isB (!s.2 && decide (b.length ≤ m) && decide (own = b)), fun (s, own, b, m) => [(0, .box [.p false (.sl 1 (bl s.1)), isB s.2])]⟩
theorem tis_does : Does gL1 tab Tryz.f46 cTIs := by
  rintro ⟨⟨l, bad⟩, own, b, m⟩ -
  have hbl := bl_length b
  cases bad with
  | true =>
    conv => whnf
    and_intros <;> first | rfl | exact trivial | (simp [pvle]; done)
  | false =>
    conv => whnf
    rw [hbl]
    by_cases hm : b.length ≤ m
    · rw [show decide ((b.length : Int) ≤ (m : Int)) = true from decide_eq_true (by omega)]
      conv => whnf
      refine ⟨(own, b), ?_⟩
      conv => whnf
      refine And.intro (by simp only [allP, List.nil_append, List.cons_append, true_and]; and_intros <;> first | exact trivial | rfl) ?_
      conv => whnf
      and_intros <;> first | rfl | exact trivial | (simp [pvle]; done) | (simp [pvle, hm]; done)
    · rw [show decide ((b.length : Int) ≤ (m : Int)) = false from decide_eq_false (by omega)]
      conv => whnf
      and_intros <;> first | rfl | exact trivial | (simp [pvle]; done) | (simp [pvle, hm]; done)
theorem tis_sound : Sound Tryz.prog 46 cTIs := does_sound mixed tabOk_prog gL1_ok Tryz.func46 tis_does
theorem stopL {n : Nat} {s : In} (h : ¬ (0 < n ∧ s.2 = false)) : decide ((n : Int) > 0) = false ∨ (decide ((n : Int) > 0) = true ∧ s.2 = true) := by
  by_cases h0 : 0 < n
  · exact .inr ⟨decide_eq_true (by omega), (Bool.eq_false_or_eq_true s.2).resolve_right fun hb => h ⟨h0, hb⟩⟩
  · exact .inl (decide_eq_false (by omega))
theorem exitL {X : Type} {g : In → X × In} {n : Nat} {s : In} {out A : List X} {B : In} (e1 : out ++ (gLp g n s).1 = A) (e2 : (gLp g n s).2 = B) (h : ¬ (0 < n ∧ s.2 = false)) : out = A ∧ s = B := by
  cases n with
  | zero => exact ⟨by rw [← e1]; simp [gLp], by rw [← e2]; rfl⟩
  | succ n =>
    obtain ⟨t, bad⟩ := s
    cases bad with
    | false => exact (h ⟨Nat.succ_pos n, rfl⟩).elim
    | true => rw [gLp_bad] at e1 e2; exact ⟨by rw [← e1]; simp, e2⟩
theorem goL {n : Nat} : decide (((n + 1 : Nat) : Int) > 0) = true := decide_eq_true (by omega)
theorem wrL {n : Nat} (h : n ≤ 1000000) : pvle (.int .i64 (n : Int)) (.int .i64 (IntKind.i64.wrap (((n + 1 : Nat) : Int) - 1))) := by
  rw [wrap_i64 (by omega) (by omega), show (((n + 1 : Nat) : Int) - 1) = (n : Int) by omega]; exact rfl
theorem nextL {X : Type} {g : In → X × In} {n : Nat} {out A : List X} {x : X} {s : In} (e : out ++ x :: (gLp g n s).1 = A) : (out ++ [x]) ++ (gLp g n s).1 = A := by rw [← e, List.append_assoc]; rfl
theorem cntL {X : Type} {n : Nat} {out : List X} {x : X} (h : out.length + (n + 1) ≤ 1000000) : (out ++ [x]).length + n ≤ 1000000 := by simp only [List.length_append, List.length_cons, List.length_nil]; omega
def gSel {X : Type} (z x : X) : Bool → X × Int
  | true => (x, 0)
  | false => (z, 60)
/-- The document gets what the program gets. -/
theorem dGet_eq {X : Type} {get dget : In → X × In} {enc : X → List UInt8} {ok : X → Prop} {K : Nat} (a : RL get enc ok) (q : DL dget enc ok K) (kd : UInt8) (most : Nat) (hm : most ≤ 65545) (z : X) (l : List UInt8) :
    gGet get kd most z l = gSel z (dget (dBg l)).1 (!(dget (dBg l)).2.2 && decide (l.length ≤ most) && decide (kd :: enc (dget (dBg l)).1 = l)) := by
  have hlen := dBg_len l
  obtain ⟨hok, _, _⟩ := q.bnd (dBg l) (by omega)
  rcases gGet_form a kd most (by omega) z l with hg | ⟨x, hx, rfl, hl, hg⟩
  · rw [hg]
    cases hc : (!(dget (dBg l)).2.2 && decide (l.length ≤ most) && decide (kd :: enc (dget (dBg l)).1 = l))
    · rfl
    · simp only [Bool.and_eq_true, decide_eq_true_eq] at hc
      obtain ⟨⟨h1, h2⟩, h3⟩ := hc
      have h4 := gGet_put a kd most z (dget (dBg l)).1 hok (by rw [← h3] at h2; rw [List.length_cons] at h2; exact h2)
      rw [h3, hg] at h4
      have := congrArg Prod.snd h4
      simp at this
  · have hb : dBg (kd :: enc x) = (enc x, false) := by unfold dBg; simp only; rw [if_pos (by omega)]
    have hp := q.put x [] hx
    rw [List.append_nil] at hp
    rw [hg, hb, hp]
    simp only [Bool.not_false, Bool.true_and, decide_true, Bool.and_true]
    rw [decide_eq_true (show (kd :: enc x).length ≤ most from by rw [List.length_cons]; exact hl)]
    rfl
end Go.Proofs.YtingmlhhabaplaaGreat.Ev
