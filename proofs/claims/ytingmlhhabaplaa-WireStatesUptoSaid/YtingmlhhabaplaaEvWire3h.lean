/- Wire: what the document puts together: what fits. No conditions. -/
import Derived.Test.YtingmlhhabaplaaEvWire3g
namespace Go.Proofs.Ytingmlhhabaplaa.Ev
open Go
set_option linter.unusedVariables false
set_option linter.unusedSimpArgs false
set_option maxRecDepth 100000
set_option maxHeartbeats 4000000
abbrev cDPut : Ctr := ⟨Bool × List UInt8 × Nat, 1, fun (g, b, m) => [.rowf 0, isI .i64 m], fun (g, b, m) => [(0, .row 5 1 true false (bl b))],
  fun (g, b, m) => g = decide (b.length ≤ m), fun (g, b, m) => match g with | true => .tuple [.rowf 0, isI .i64 0] | false => .tuple [.p true .nilsl, isI .i64 3],
  fun (g, b, m) => [(0, .row 5 1 true false (bl b))]⟩
theorem DPut_does : Does [] tab Try.f9 cDPut := by
  rintro ⟨g, b, m⟩ (h : g = decide (b.length ≤ m))
  have hbl := bl_length b
  conv => whnf
  rw [hbl]
  cases g
  · have h2 := of_decide_eq_false h.symm
    rw [decide_eq_true (show ((b.length : Nat) : Int) > (m : Int) by omega)]
    conv => whnf
    and_intros <;> rfl
  · have h2 := of_decide_eq_true h.symm
    rw [decide_eq_false (show ¬ ((b.length : Nat) : Int) > (m : Int) by omega)]
    conv => whnf
    and_intros <;> rfl
theorem DPut_sound : Sound Try.prog 9 cDPut := does_sound mixed tabOk_prog GamOk.nil Try.func9 DPut_does
def gQ16 : List (FuncId × Ctr) := (9, cDPut) :: gQ15
theorem gQ16_ok : GamOk Try.prog gQ16 := GamOk.cons gQ15_ok Try.func9 (by kernel_rfl) (by kernel_rfl) DPut_sound
def gDocs : List (FuncId × Ctr) := gQ16
theorem gDocs_ok : GamOk Try.prog gDocs := gQ16_ok
end Go.Proofs.Ytingmlhhabaplaa.Ev
