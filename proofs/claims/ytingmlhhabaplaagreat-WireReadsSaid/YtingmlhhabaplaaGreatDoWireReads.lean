/- Wire: the law WireReads. No conditions. -/
import Derived.Test.YtingmlhhabaplaaGreatEvWire10c
import Derived.Test.YtingmlhhabaplaaGreatEvSamec
import Derived.Test.YtingmlhhabaplaaGreatEvAwake06
namespace Go.Proofs.YtingmlhhabaplaaGreat.Ev
open Go
set_option linter.unusedVariables false
set_option linter.unusedSimpArgs false
set_option maxRecDepth 100000
set_option maxHeartbeats 4000000
theorem gGet_ok {X : Type} {get : In → X × In} {enc : X → List UInt8} {ok : X → Prop} (a : RL get enc ok) (kd : UInt8) (most : Nat) (hm : most ≤ 1000000) (z : X) (hz : ok z) (l : List UInt8) : ok (gGet get kd most z l).1 := by
  rcases gGet_form a kd most hm z l with hg | ⟨x, hx, _, _, hg⟩ <;> rw [hg]
  · exact hz
  · exact hx
theorem zok48 : ok48 z48 := ⟨trivial, ⟨(by decide), (by decide), (by decide), ⟨Nat.le_of_ble_eq_true rfl, Nat.le_of_ble_eq_true rfl, fun _ h => (List.not_mem_nil h).elim⟩⟩, (by decide)⟩
theorem zok57 : ok57 z57 := ⟨trivial, (Nat.le_of_ble_eq_true rfl), (Nat.le_of_ble_eq_true rfl), (by decide), ⟨Nat.le_of_ble_eq_true rfl, Nat.le_of_ble_eq_true rfl, fun _ h => (List.not_mem_nil h).elim⟩, ⟨(Nat.le_of_ble_eq_true rfl), (by decide)⟩, (by decide), (by decide), (by decide), (by decide)⟩
theorem zok63 : ok63 z63 := ⟨trivial, (by decide), (by decide), (Nat.le_of_ble_eq_true rfl), (by decide), ⟨(by decide), (by decide), (by decide), ⟨Nat.le_of_ble_eq_true rfl, Nat.le_of_ble_eq_true rfl, fun _ h => (List.not_mem_nil h).elim⟩⟩, (by decide), (by decide), (by decide), ⟨trivial, (Nat.le_of_ble_eq_true rfl), (Nat.le_of_ble_eq_true rfl), (by decide), ⟨Nat.le_of_ble_eq_true rfl, Nat.le_of_ble_eq_true rfl, fun _ h => (List.not_mem_nil h).elim⟩, ⟨(Nat.le_of_ble_eq_true rfl), (by decide)⟩, (by decide), (by decide), (by decide), (by decide)⟩⟩
theorem zok72 : ok72 z72 := ⟨trivial, (by decide), (by decide), (by decide), (by decide), (by decide), (by decide), (by decide), trivial, ⟨Nat.le_of_ble_eq_true rfl, Nat.le_of_ble_eq_true rfl, fun _ h => (List.not_mem_nil h).elim⟩, ⟨(by decide), (by decide), (by decide), (by decide), trivial, ⟨Nat.le_of_ble_eq_true rfl, Nat.le_of_ble_eq_true rfl, fun _ h => (List.not_mem_nil h).elim⟩⟩⟩
theorem zok79 : ok79 z79 := ⟨(Nat.le_of_ble_eq_true rfl), trivial, (by decide), (by decide), (by decide), (by decide), (by decide), (by decide), (by decide), trivial, ⟨Nat.le_of_ble_eq_true rfl, Nat.le_of_ble_eq_true rfl, fun _ h => (List.not_mem_nil h).elim⟩, ⟨Nat.le_of_ble_eq_true rfl, Nat.le_of_ble_eq_true rfl, fun _ h => (List.not_mem_nil h).elim⟩⟩
def gZ : List (FuncId × Ctr) := gLaw6 ++ (gLow ++ (gSame5 ++ gE5))
theorem gZ_ok : GamOk Tryz.prog gZ := GamOk.app gLaw6_ok (GamOk.app gLow_ok (GamOk.app gSame5_ok gE5_ok))
theorem WireReads_does : Does gZ tab Tryz.f4 lawWireReads := by
  rintro (l : List UInt8) ⟨h1, h2, -⟩
  have hbl := bl_length l
  conv => whnf
  rw [hbl]
  by_cases h7 : l.length > 70000
  · rw [decide_eq_true (show ((l.length : Int) > 70000) by omega)]
    (set_option smartUnfolding false in conv => whnf)
    refine ⟨(), ?_⟩
    conv => whnf
    refine And.intro (by simp only [allP, List.nil_append, List.cons_append, true_and]; skip) ?_
    (set_option smartUnfolding false in conv => whnf)
    first | done | (and_intros <;> rfl)
  rw [decide_eq_false (show ¬ ((l.length : Int) > 70000) by omega)]
  (set_option smartUnfolding false in conv => whnf)
  have hc : cutEls 0 l.length (bl (l ++ [77, 78, 79])) = bl l := by simp [cutEls, bl_take]
  have hv : pvle (.sl 1 (bl l)) (.sl 1 (cutEls 0 l.length (bl (l ++ [77, 78, 79])))) := by rw [hc]; exact rfl
  have okPart : ok48 (gGet gt48 1 60000 z48 l).1 := gGet_ok rt48 1 60000 (by decide) z48 zok48 l
  have okMeta : ok57 (gGet gt57 2 60000 z57 l).1 := gGet_ok rt57 2 60000 (by decide) z57 zok57 l
  have okRequest : ok63 (gGet gt63 5 60000 z63 l).1 := gGet_ok rt63 5 60000 (by decide) z63 zok63 l
  have okResponse : ok72 (gGet gt72 6 60000 z72 l).1 := gGet_ok rt72 6 60000 (by decide) z72 zok72 l
  have okRaft : ok79 (gGet gt79 7 65545 z79 l).1 := gGet_ok rt79 7 65545 (by decide) z79 zok79 l
  refine ⟨l, ?_⟩
  conv => whnf
  refine And.intro (by simp only [allP, List.nil_append, List.cons_append, true_and]; repeat' (first | (show l.length ≤ 140737488355000; omega) | rfl | exact trivial | refine And.intro ?_ ?_)) ?_
  (set_option smartUnfolding false in conv => whnf)
  refine ⟨l, ?_⟩
  conv => whnf
  refine And.intro (by simp only [allP, List.nil_append, List.cons_append, true_and]; repeat' (first | exact hv | exact trivial | rfl | refine And.intro ?_ ?_)) ?_
  (set_option smartUnfolding false in conv => whnf)
  refine And.intro (by first | exact Nat.le_of_ble_eq_true rfl | exact ⟨Nat.le_of_ble_eq_true rfl, rfl⟩ | exact rfl | decide | (simp [allP]; done)) ?_
  (set_option smartUnfolding false in conv => whnf)
  refine ⟨l, ?_⟩
  conv => whnf
  refine And.intro (by simp only [allP, List.nil_append, List.cons_append, true_and]; repeat' (first | exact hv | exact trivial | rfl | refine And.intro ?_ ?_)) ?_
  (set_option smartUnfolding false in conv => whnf)
  generalize gGet gt48 1 60000 z48 l = gPart at okPart ⊢
  refine And.intro (by first | exact Nat.le_of_ble_eq_true rfl | exact ⟨Nat.le_of_ble_eq_true rfl, rfl⟩ | exact rfl | decide | (simp [allP]; done)) ?_
  (set_option smartUnfolding false in conv => whnf)
  rw [show (gPart.2 != gPart.2) = false from bne_self_eq_false _]
  (set_option smartUnfolding false in conv => whnf)
  refine And.intro (by first | exact Nat.le_of_ble_eq_true rfl | exact ⟨Nat.le_of_ble_eq_true rfl, rfl⟩ | exact rfl | decide | (simp [allP]; done)) ?_
  (set_option smartUnfolding false in conv => whnf)
  refine And.intro (by first | exact Nat.le_of_ble_eq_true rfl | exact ⟨Nat.le_of_ble_eq_true rfl, rfl⟩ | exact rfl | decide | (simp [allP]; done)) ?_
  (set_option smartUnfolding false in conv => whnf)
  refine ⟨(true, gPart.1, gPart.1), ?_⟩
  conv => whnf
  refine And.intro (by simp only [allP, List.nil_append, List.cons_append, true_and]; repeat' (first | exact iff_of_true rfl rfl | exact iff_of_true trivial rfl | exact okPart | exact trivial | rfl | refine And.intro ?_ ?_)) ?_
  (set_option smartUnfolding false in conv => whnf)
  refine ⟨l, ?_⟩
  conv => whnf
  refine And.intro (by simp only [allP, List.nil_append, List.cons_append, true_and]; repeat' (first | exact hv | exact trivial | rfl | refine And.intro ?_ ?_)) ?_
  (set_option smartUnfolding false in conv => whnf)
  refine And.intro (by first | exact Nat.le_of_ble_eq_true rfl | exact ⟨Nat.le_of_ble_eq_true rfl, rfl⟩ | exact rfl | decide | (simp [allP]; done)) ?_
  (set_option smartUnfolding false in conv => whnf)
  refine ⟨l, ?_⟩
  conv => whnf
  refine And.intro (by simp only [allP, List.nil_append, List.cons_append, true_and]; repeat' (first | exact hv | exact trivial | rfl | refine And.intro ?_ ?_)) ?_
  (set_option smartUnfolding false in conv => whnf)
  generalize gGet gt57 2 60000 z57 l = gMeta at okMeta ⊢
  refine And.intro (by first | exact Nat.le_of_ble_eq_true rfl | exact ⟨Nat.le_of_ble_eq_true rfl, rfl⟩ | exact rfl | decide | (simp [allP]; done)) ?_
  (set_option smartUnfolding false in conv => whnf)
  rw [show (gMeta.2 != gMeta.2) = false from bne_self_eq_false _]
  (set_option smartUnfolding false in conv => whnf)
  refine And.intro (by first | exact Nat.le_of_ble_eq_true rfl | exact ⟨Nat.le_of_ble_eq_true rfl, rfl⟩ | exact rfl | decide | (simp [allP]; done)) ?_
  (set_option smartUnfolding false in conv => whnf)
  refine And.intro (by first | exact Nat.le_of_ble_eq_true rfl | exact ⟨Nat.le_of_ble_eq_true rfl, rfl⟩ | exact rfl | decide | (simp [allP]; done)) ?_
  (set_option smartUnfolding false in conv => whnf)
  refine ⟨(true, gMeta.1, gMeta.1), ?_⟩
  conv => whnf
  refine And.intro (by simp only [allP, List.nil_append, List.cons_append, true_and]; repeat' (first | exact iff_of_true rfl rfl | exact iff_of_true trivial rfl | exact okMeta | exact trivial | rfl | refine And.intro ?_ ?_)) ?_
  (set_option smartUnfolding false in conv => whnf)
  refine ⟨l, ?_⟩
  conv => whnf
  refine And.intro (by simp only [allP, List.nil_append, List.cons_append, true_and]; repeat' (first | exact hv | exact trivial | rfl | refine And.intro ?_ ?_)) ?_
  (set_option smartUnfolding false in conv => whnf)
  refine And.intro (by first | exact Nat.le_of_ble_eq_true rfl | exact ⟨Nat.le_of_ble_eq_true rfl, rfl⟩ | exact rfl | decide | (simp [allP]; done)) ?_
  (set_option smartUnfolding false in conv => whnf)
  refine ⟨l, ?_⟩
  conv => whnf
  refine And.intro (by simp only [allP, List.nil_append, List.cons_append, true_and]; repeat' (first | exact hv | exact trivial | rfl | refine And.intro ?_ ?_)) ?_
  (set_option smartUnfolding false in conv => whnf)
  generalize gGet gt63 5 60000 z63 l = gRequest at okRequest ⊢
  refine And.intro (by first | exact Nat.le_of_ble_eq_true rfl | exact ⟨Nat.le_of_ble_eq_true rfl, rfl⟩ | exact rfl | decide | (simp [allP]; done)) ?_
  (set_option smartUnfolding false in conv => whnf)
  rw [show (gRequest.2 != gRequest.2) = false from bne_self_eq_false _]
  (set_option smartUnfolding false in conv => whnf)
  refine And.intro (by first | exact Nat.le_of_ble_eq_true rfl | exact ⟨Nat.le_of_ble_eq_true rfl, rfl⟩ | exact rfl | decide | (simp [allP]; done)) ?_
  (set_option smartUnfolding false in conv => whnf)
  refine And.intro (by first | exact Nat.le_of_ble_eq_true rfl | exact ⟨Nat.le_of_ble_eq_true rfl, rfl⟩ | exact rfl | decide | (simp [allP]; done)) ?_
  (set_option smartUnfolding false in conv => whnf)
  refine ⟨(true, gRequest.1, gRequest.1), ?_⟩
  conv => whnf
  refine And.intro (by simp only [allP, List.nil_append, List.cons_append, true_and]; repeat' (first | exact iff_of_true rfl rfl | exact iff_of_true trivial rfl | exact okRequest | exact trivial | rfl | refine And.intro ?_ ?_)) ?_
  (set_option smartUnfolding false in conv => whnf)
  refine ⟨l, ?_⟩
  conv => whnf
  refine And.intro (by simp only [allP, List.nil_append, List.cons_append, true_and]; repeat' (first | exact hv | exact trivial | rfl | refine And.intro ?_ ?_)) ?_
  (set_option smartUnfolding false in conv => whnf)
  refine And.intro (by first | exact Nat.le_of_ble_eq_true rfl | exact ⟨Nat.le_of_ble_eq_true rfl, rfl⟩ | exact rfl | decide | (simp [allP]; done)) ?_
  (set_option smartUnfolding false in conv => whnf)
  refine ⟨l, ?_⟩
  conv => whnf
  refine And.intro (by simp only [allP, List.nil_append, List.cons_append, true_and]; repeat' (first | exact hv | exact trivial | rfl | refine And.intro ?_ ?_)) ?_
  (set_option smartUnfolding false in conv => whnf)
  generalize gGet gt72 6 60000 z72 l = gResponse at okResponse ⊢
  refine And.intro (by first | exact Nat.le_of_ble_eq_true rfl | exact ⟨Nat.le_of_ble_eq_true rfl, rfl⟩ | exact rfl | decide | (simp [allP]; done)) ?_
  (set_option smartUnfolding false in conv => whnf)
  rw [show (gResponse.2 != gResponse.2) = false from bne_self_eq_false _]
  (set_option smartUnfolding false in conv => whnf)
  refine And.intro (by first | exact Nat.le_of_ble_eq_true rfl | exact ⟨Nat.le_of_ble_eq_true rfl, rfl⟩ | exact rfl | decide | (simp [allP]; done)) ?_
  (set_option smartUnfolding false in conv => whnf)
  refine And.intro (by first | exact Nat.le_of_ble_eq_true rfl | exact ⟨Nat.le_of_ble_eq_true rfl, rfl⟩ | exact rfl | decide | (simp [allP]; done)) ?_
  (set_option smartUnfolding false in conv => whnf)
  refine ⟨(true, gResponse.1, gResponse.1), ?_⟩
  conv => whnf
  refine And.intro (by simp only [allP, List.nil_append, List.cons_append, true_and]; repeat' (first | exact iff_of_true rfl rfl | exact iff_of_true trivial rfl | exact okResponse | exact trivial | rfl | refine And.intro ?_ ?_)) ?_
  (set_option smartUnfolding false in conv => whnf)
  refine ⟨l, ?_⟩
  conv => whnf
  refine And.intro (by simp only [allP, List.nil_append, List.cons_append, true_and]; repeat' (first | exact hv | exact trivial | rfl | refine And.intro ?_ ?_)) ?_
  (set_option smartUnfolding false in conv => whnf)
  refine And.intro (by first | exact Nat.le_of_ble_eq_true rfl | exact ⟨Nat.le_of_ble_eq_true rfl, rfl⟩ | exact rfl | decide | (simp [allP]; done)) ?_
  (set_option smartUnfolding false in conv => whnf)
  refine ⟨l, ?_⟩
  conv => whnf
  refine And.intro (by simp only [allP, List.nil_append, List.cons_append, true_and]; repeat' (first | exact hv | exact trivial | rfl | refine And.intro ?_ ?_)) ?_
  (set_option smartUnfolding false in conv => whnf)
  generalize gGet gt79 7 65545 z79 l = gRaft at okRaft ⊢
  refine And.intro (by first | exact Nat.le_of_ble_eq_true rfl | exact ⟨Nat.le_of_ble_eq_true rfl, rfl⟩ | exact rfl | decide | (simp [allP]; done)) ?_
  (set_option smartUnfolding false in conv => whnf)
  rw [show (gRaft.2 == gRaft.2) = true from beq_self_eq_true _]
  (set_option smartUnfolding false in conv => whnf)
  refine And.intro (by first | exact Nat.le_of_ble_eq_true rfl | exact ⟨Nat.le_of_ble_eq_true rfl, rfl⟩ | exact rfl | decide | (simp [allP]; done)) ?_
  (set_option smartUnfolding false in conv => whnf)
  refine And.intro (by first | exact Nat.le_of_ble_eq_true rfl | exact ⟨Nat.le_of_ble_eq_true rfl, rfl⟩ | exact rfl | decide | (simp [allP]; done)) ?_
  (set_option smartUnfolding false in conv => whnf)
  refine ⟨(true, gRaft.1, gRaft.1), ?_⟩
  conv => whnf
  refine And.intro (by simp only [allP, List.nil_append, List.cons_append, true_and]; repeat' (first | exact iff_of_true rfl rfl | exact iff_of_true trivial rfl | exact okRaft | exact trivial | rfl | refine And.intro ?_ ?_)) ?_
  (set_option smartUnfolding false in conv => whnf)
  refine ⟨l, ?_⟩
  conv => whnf
  refine And.intro (by simp only [allP, List.nil_append, List.cons_append, true_and]; repeat' (first | (show l.length ≤ 140737488355000; omega) | rfl | exact trivial | refine And.intro ?_ ?_)) ?_
  (set_option smartUnfolding false in conv => whnf)
  refine ⟨(), ?_⟩
  conv => whnf
  refine And.intro (by simp only [allP, List.nil_append, List.cons_append, true_and]; skip) ?_
  (set_option smartUnfolding false in conv => whnf)
  first | done | (and_intros <;> rfl)
theorem WireReads_sound : Sound Tryz.prog 4 lawWireReads := does_sound mixed tabOk_prog gZ_ok Tryz.func4 WireReads_does
end Go.Proofs.YtingmlhhabaplaaGreat.Ev
