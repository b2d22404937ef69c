/- A law by its contract. No conditions. -/
import Derived.Test.YtonbbaimkpjcfaaEvOpens
import Derived.Below
namespace Go.Proofs.Ytonbbaimkpjcfaa.Ev
open Go Go.ChangeShapes Go.WideShapes Go.RowKit
set_option linter.unusedVariables false
theorem opens_u8 {P : Program} {t : TypeId} (ht : P.underlying t = some (.int .u8)) (hc : P.cellsOf t = 1) : Opens P t 1 (fun y : UInt8 => [bv y]) (fun _ => True) (fun _ => 1) :=
  ⟨hc, fun {H enc w base spare held fuel cs x} h _ => by
    obtain ⟨n, rfl, _, hw⟩ := DataW.trod_int ht h
    have hn : 0 ≤ n ∧ n < 256 := by
      simp [Lit.wf] at hw
      have h1 : IntKind.u8.min = 0 := by decide
      have h2 : IntKind.u8.max = 255 := by decide
      omega
    have hb : bv (UInt8.ofNat n.toNat) = .int .u8 n := by
      unfold bv
      congr 1
      simp
      omega
    exact ⟨UInt8.ofNat n.toNat, rfl, by rw [hb]; exact cellsOne (.int .u8 n), trivial, bulk_one _⟩⟩
/-- An argument of a law: a slice may be anyone's. -/
def avOf : PV → AV
  | .sl sz els => .p false (.sl sz els)
  | v => .p true v
theorem avOf_ok {w : World} {v : PV} {c : Value} {F2 : Nat → Prop} {ρ : Pl} {H : Hp} (h : PVR w (LtB w) v c) : AVR w (LtB w) F2 ρ H (avOf v) c := by
  cases h with
  | int k n => exact .p true _ _ (.int k n)
  | bool b => exact .p true _ _ (.bool b)
  | str s => exact .p true _ _ (.str s)
  | nilptr => exact .p true _ _ .nilptr
  | nilsl A => exact .p true _ _ (.nilsl A)
  | slnil sz A cap => exact .p false _ _ (.slnil sz A cap)
  | sl sz els ad cap cs h1 h2 h3 h4 h5 h6 => exact .p false _ _ (.sl sz els ad cap cs h1 h2 h3 h4 h5 h6)
/-- Nothing lies anywhere. -/
def noPl : Pl := ⟨fun _ => none, fun _ _ _ => none⟩
def LawArg (W : World) (a : AV) (v : Value) : Prop := AVR W (LtB W) (fun _ => False) noPl (look []) a v
def LawArgs (W : World) (us : List AV) (vs : List Value) : Prop := us.length = vs.length ∧ ∀ (i : Nat) (a : AV), us[i]? = some a → ∃ v, vs[i]? = some v ∧ LawArg W a v
theorem law_nil {W : World} : LawArgs W [] [] := ⟨rfl, fun i a h => by simp at h⟩
theorem law_cons {W : World} {a : AV} {v : Value} {us : List AV} {vs : List Value} (h : LawArg W a v) (k : LawArgs W us vs) : LawArgs W (a :: us) (v :: vs) :=
  ⟨by simp [k.1], fun i b hb => by
    cases i with
    | zero => obtain rfl : a = b := by simpa using hb
              exact ⟨v, rfl, h⟩
    | succ i => exact k.2 i b (by simpa using hb)⟩
theorem law_one {W : World} {u : PV} {v : Value} (h : Cells W [u] v.cells.toList) (h1 : v.cells = #[v] := by rfl) : LawArg W (avOf u) v := by
  rw [h1] at h
  obtain ⟨c, h2, h3⟩ := h.2 0 u rfl
  obtain rfl : v = c := by simpa using h2
  exact avOf_ok h3
theorem law_agg {W : World} {us : List PV} {cs : Array Value} (h : Cells W us (Value.agg cs).cells.toList) : LawArg W (.agg (us.map avOf)) (.agg cs) := by
  have h : Cells W us cs.toList := h
  refine .agg _ cs (by simp; exact h.1.symm) fun i v hv => ?_
  rw [List.getElem?_map] at hv
  cases hu : us[i]? with
  | none => rw [hu] at hv; cases hv
  | some u =>
    rw [hu] at hv
    obtain rfl := Option.some.inj hv
    obtain ⟨c, h2, h3⟩ := h.2 i u hu
    have : cs.getD i undef = c := by
      rw [Array.getD_eq_getD_getElem?, ← Array.getElem?_toList, h2]
      rfl
    rw [this]
    exact avOf_ok h3
theorem law_calls {P : Program} {f : FuncId} {c : Ctr} (hS : Sound P f c) {x : c.Ix} (hh : c.heap x = []) (hh' : c.heap' x = []) (hr : c.res x = isB true) (hp : c.pre x) {W : World} {vs : List Value} (ha : LawArgs W (c.args x) vs) :
    Calls P f vs.toArray W fun e w' => e = .returned (.bool true) ∧ Below W.heap.size W w' := by
  refine Calls.mono (hS x hp W (LtB W) (fun _ => False) noPl vs.toArray ?_ ?_ ?_) ?_
  · rw [hh]
    exact ⟨fun h o ho => (by cases ho), fun h h' o o' b ho => (by cases ho), fun h o b ho => (by cases ho), fun b hb => hb.elim, fun b hb => hb⟩
  · rw [hh]
    refine ⟨by simp [ha.1], fun i v hv => ?_⟩
    obtain ⟨u, h1, h2⟩ := ha.2 i v hv
    have : vs.toArray.getD i undef = u := by
      rw [Array.getD_eq_getD_getElem?, List.getElem?_toArray, h1]
      rfl
    rw [this]
    exact h2
  · rw [hh]
    exact fun h o ho => (by cases ho)
  · rintro e w' ⟨cv, F1', F2', ρ', rfl, F⟩
    have hres := F.res
    rw [hr] at hres
    refine ⟨?_, F.os, F.tape, F.output, F.size, fun b hb => ?_⟩
    · cases hres with | p _ _ _ h => cases h; rfl
    · exact F.blk b hb
end Go.Proofs.Ytonbbaimkpjcfaa.Ev
