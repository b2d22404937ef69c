/- What each operation of the program comes to is what the reckoner says: values. No conditions. -/
import Derived.Test.YtjgmlkogppibfaaEvOps
namespace Go.Proofs.Ytjgmlkogppibfaa.Ev
open Go
set_option linter.unusedVariables false
set_option linter.unusedSimpArgs false
section
variable {P : Program} {T : Tab} {k0 : Nat} {w : World} {F1 F2 : Nat → Prop} {ρ : Nat → Option (Nat × Nat)} {H : Hp}

/-- What a step of the reckoner's is good for. -/
def StepOk (P : Program) (k0 : Nat) (w : World) (F1 F2 : Nat → Prop) (ρ : Nat → Option (Nat × Nat)) (H : Hp) (s : Sem Value) : Step → Prop
  | .ok cs (some v) _ ups => allP cs → VRuns P k0 w F1 F2 ρ H s v ups
  | .ok _ none _ _ => False
  | .dem c _ => ∃ b, c b ∧ VRuns P k0 w F1 F2 ρ H s (isB b) []
  | .bad => True
  | .call _ _ => False
theorem StepOk.ok1 (hh : HeapR k0 w F1 F2 ρ H) {s : Sem Value} {c : Value} {v : AV} (hs : s.run P w = .ok c w) (h : AVR w F1 F2 ρ H v c) : StepOk P k0 w F1 F2 ρ H s (ok1 v) := fun _ => VRuns.pure hh hs h

theorem avI {k : IntKind} {n : Int} : AVR w F1 F2 ρ H (isI k n) (.int k n) := .p true _ _ (.int _ _)
theorem avB {b : Bool} : AVR w F1 F2 ρ H (isB b) (.bool b) := .p true _ _ (.bool _)

theorem shiftInt_ok (hh : HeapR k0 w F1 F2 ρ H) (op : BinOp) (t : TypeId) (k k' : IntKind) (x y : Int) (X Y : Operand) :
    StepOk P k0 w F1 F2 ρ H (do eqGuard op t X Y (.int k x) (.int k' y); binOp op t (.int k x) (.int k' y)) (shiftInt op k x y) := by
  cases op <;> first
    | exact trivial
    | (intro hc
       have hy : ¬ y < 0 := by have : 0 ≤ y := hc; omega
       exact VRuns.pure hh (by simp [eqGuard, binOp, Op.shift, hy]) avI)
theorem binInt_step (hh : HeapR k0 w F1 F2 ρ H) (op : BinOp) (t : TypeId) (k : IntKind) (x y : Int) (X Y : Operand) (hs : isShift op = false) :
    StepOk P k0 w F1 F2 ρ H (do eqGuard op t X Y (.int k x) (.int k y); binOp op t (.int k x) (.int k y)) (binInt op k x y) := by
  cases hb : binInt op k x y with
  | bad => trivial
  | ok cs v rd ups =>
    cases v with
    | none =>
      cases op <;> simp [binInt, Ev.ok1, isShift] at hb hs
    | some v =>
      intro hc
      obtain ⟨rfl, c, v', hv, h1, h2⟩ := binInt_ok (t := t) (X := X) (Y := Y) (P := P) (F1 := F1) (F2 := F2) (ρ := ρ) (H := H) (w := w) hs hb hc
      obtain rfl := Option.some.inj hv
      exact VRuns.pure hh h1 h2
  | dem c rd => cases op <;> simp [binInt, Ev.ok1] at hb
  | call Ix r => cases op <;> simp [binInt, Ev.ok1] at hb
theorem binStr_ok (hh : HeapR k0 w F1 F2 ρ H) (op : BinOp) (t : TypeId) (x y : ByteArray) (X Y : Operand) :
    StepOk P k0 w F1 F2 ρ H (do eqGuard op t X Y (.string x) (.string y); binOp op t (.string x) (.string y)) (binStr op x y) := by
  cases op <;> first
    | exact trivial
    | (intro hc
       simp only [allP] at hc
       have hn : ¬ 9223372036854775807 < ((x.size : Int) + (y.size : Int)) := by omega
       exact VRuns.pure hh (by simp [eqGuard, binOp, Op.stringOp, hn]) (.p true _ _ (.str _)))
    | exact StepOk.ok1 hh (by simp [eqGuard, binOp, Op.stringOp, ByteArray.toList_eq]) avB

theorem run_eqB (t : TypeId) (a b : Bool) (hu : P.underlying t = some .bool) : (Op.equal t (.bool a) (.bool b)).run P w = .ok (a == b) w := by
  have h : ∀ d : Nat, (Op.equalIn (d + 1) t (.bool a) (.bool b)).run P w = .ok (a == b) w := fun d => by simp [Op.equalIn, run_underlying hu]
  exact h 9999
theorem run_eqPnn (t e : TypeId) (hu : P.underlying t = some (.pointer e)) : (Op.equal t (.pointer none) (.pointer none)).run P w = .ok true w := by
  have h : ∀ d : Nat, (Op.equalIn (d + 1) t (.pointer none) (.pointer none)).run P w = .ok true w := fun d => by simp [Op.equalIn, run_underlying hu]
  exact h 9999
theorem run_eqPsn (t e : TypeId) (a : Addr) (hu : P.underlying t = some (.pointer e)) : (Op.equal t (.pointer (some a)) (.pointer none)).run P w = .ok false w := by
  have h : ∀ d : Nat, (Op.equalIn (d + 1) t (.pointer (some a)) (.pointer none)).run P w = .ok false w := fun d => by simp [Op.equalIn, run_underlying hu]
  exact h 9999
theorem run_eqSn (t e : TypeId) (A : Option Addr) (n c : Nat) (hu : P.underlying t = some (.slice e)) : (Op.equal t (.slice A n c) (.slice none 0 0)).run P w = .ok A.isNone w := by
  have h : ∀ d : Nat, (Op.equalIn (d + 1) t (.slice A n c) (.slice none 0 0)).run P w = .ok A.isNone w := fun d => by cases A <;> simp [Op.equalIn, run_underlying hu]
  exact h 9999
theorem evalEq_ok (hh : HeapR k0 w F1 F2 ρ H) {t : TypeId} {d : TD} (ht : TyOk P t d) (op : BinOp) {a b : AV} {x y : Value} (X Y : Operand) (ha : AVR w F1 F2 ρ H a x) (hb : AVR w F1 F2 ρ H b y) :
    StepOk P k0 w F1 F2 ρ H (do eqGuard op t X Y x y; binOp op t x y) (evalEq d.k op a b) := by
  unfold evalEq
  split
  · rename_i f1 p f2 q hk
    cases ha with | p _ _ _ ha => cases ha with | bool => cases hb with | p _ _ _ hb => cases hb with | bool =>
    have hu := ht.bool hk
    cases op <;> first
      | exact trivial
      | exact StepOk.ok1 hh (by simp [eqGuard, binOp, run_eqB _ _ _ hu]) avB
  · rename_i e f1 f2 hk
    cases ha with | p _ _ _ ha => cases ha with | nilptr => cases hb with | p _ _ _ hb => cases hb with | nilptr =>
    have hu := ht.ptr hk
    cases op <;> first
      | exact trivial
      | exact StepOk.ok1 hh (by simp [eqGuard, binOp, run_eqPnn _ _ hu]) avB
  · rename_i e h off f2 hk
    cases hb with | p _ _ _ hb => cases hb with | nilptr => cases ha with | ptr h off b cp o h1 h2 =>
    have hu := ht.ptr hk
    cases op <;> first
      | exact trivial
      | exact StepOk.ok1 hh (by simp [eqGuard, binOp, run_eqPsn _ _ _ hu]) avB
  · trivial
theorem nilAsk_ok {a : AV} {x : Value} (ha : AVR w F1 F2 ρ H a x) {c : Bool → Prop} {rd : List Nat} (hn : nilAsk H a = some (c, rd)) : ∃ A n cp, x = .slice A n cp ∧ ∀ q : Bool, (q = true → A = none) → c q := by
  unfold nilAsk at hn
  split at hn
  · obtain ⟨rfl, _⟩ := Prod.mk.inj (Option.some.inj hn)
    cases ha with | p _ _ _ ha => cases ha with | nilsl A => exact ⟨A, 0, 0, rfl, fun _ _ => trivial⟩
  · obtain ⟨rfl, _⟩ := Prod.mk.inj (Option.some.inj hn)
    cases ha with | p _ _ _ ha =>
    cases ha with
    | slnil sz A cap => exact ⟨A, 0, cap, rfl, fun q _ _ => rfl⟩
    | sl sz els ad cap cs => exact ⟨some ad, _, cap, rfl, fun q hq hq' => by cases hq hq'⟩
  · rename_i h
    cases hH : H h with
    | none => simp [hH] at hn
    | some o =>
      cases o with
      | box => simp [hH] at hn
      | gone => simp [hH] at hn
      | row e' sz fr fz els =>
        simp only [hH, Option.some.injEq, Prod.mk.injEq] at hn
        obtain ⟨rfl, _⟩ := hn
        cases ha with | rowf _ _ o ho _ hr =>
        rw [hH] at ho
        obtain rfl := Option.some.inj ho
        have hs := hr _ _ _ _ _ rfl
        unfold SlV at hs
        cases hρ : ρ h with
        | none =>
          rw [hρ] at hs
          obtain ⟨_, hl, A, rfl⟩ := hs
          exact ⟨A, 0, 0, rfl, fun q _ _ => List.eq_nil_of_length_eq_zero hl⟩
        | some gc =>
          obtain ⟨g, cap⟩ := gc
          rw [hρ] at hs
          obtain ⟨_, A, rfl, hA⟩ := hs
          refine ⟨A, _, _, rfl, fun q hq hq' => ?_⟩
          rcases Nat.eq_zero_or_pos cap with h0 | h0
          · exact List.eq_nil_of_length_eq_zero (by omega)
          · rw [hA h0] at hq
            cases hq hq'
  · simp at hn
theorem evalNil_ok (hT : tabOk P T = true) (hh : HeapR k0 w F1 F2 ρ H) (op : BinOp) (t : TypeId) {a : AV} {x : Value} (X : Operand) (ha : AVR w F1 F2 ρ H a x) {Y : Operand} (hY : isNilConst Y = true) (ac : Act) :
    StepOk P k0 w F1 F2 ρ H (do eqGuard op t X Y x (ac.eval Y); binOp op t x (ac.eval Y)) (evalNil T H op t a) := by
  have hy : ac.eval Y = .slice none 0 0 := by
    unfold isNilConst at hY
    split at hY
    · rfl
    · cases hY
  rw [hy]
  unfold evalNil
  split
  · rename_i d ht
    split
    · rename_i e c rd hk hn
      obtain ⟨A, n, cp, rfl, hq⟩ := nilAsk_ok ha hn
      have hu := (tyOk hT ht).slice hk
      refine ⟨A.isNone, hq _ (fun h => by simpa using h), ?_⟩
      exact VRuns.pure hh (by simp [eqGuard, binOp, run_eqSn _ _ _ _ _ hu]) avB
    · trivial
  · trivial
theorem evalBin_ok (hT : tabOk P T = true) (hh : HeapR k0 w F1 F2 ρ H) (op : BinOp) (t : TypeId) {a b : AV} {x y : Value} (X Y : Operand) (ha : AVR w F1 F2 ρ H a x) (hb : AVR w F1 F2 ρ H b y) :
    StepOk P k0 w F1 F2 ρ H (do eqGuard op t X Y x y; binOp op t x y) (evalBin T op t a b) := by
  unfold evalBin
  split
  · rename_i f1 k m f2 k' n
    cases ha with | p _ _ _ ha => cases ha with | int => cases hb with | p _ _ _ hb => cases hb with | int =>
    cases hs : isShift op with
    | true => exact shiftInt_ok hh op t k k' m n X Y
    | false =>
      cases hk : sameKind k k' with
      | false => trivial
      | true =>
        obtain rfl := sameKind_eq hk
        exact binInt_step hh op t k m n X Y hs
  · cases ha with | p _ _ _ ha => cases ha with | str => cases hb with | p _ _ _ hb => cases hb with | str =>
    exact binStr_ok hh op t _ _ X Y
  · split
    · rename_i d ht
      exact evalEq_ok hh (tyOk hT ht) op X Y ha hb
    · trivial
theorem evalUn_ok (hh : HeapR k0 w F1 F2 ρ H) (op : UnOp) {a : AV} {x : Value} (ha : AVR w F1 F2 ρ H a x) : StepOk P k0 w F1 F2 ρ H (Op.unary op x) (evalUn op a) := by
  unfold evalUn
  split
  · cases ha with | p _ _ _ ha => cases ha with | bool =>
    cases op <;> first
      | exact trivial
      | exact StepOk.ok1 hh (by simp [Op.unary]) avB
  · cases ha with | p _ _ _ ha => cases ha with | int =>
    cases op <;> first
      | exact trivial
      | exact StepOk.ok1 hh rfl avI
      | exact StepOk.ok1 hh (by simp [Op.unary, Op.intArith]) avI
  · trivial
theorem evalPick_ok (hh : HeapR k0 w F1 F2 ρ H) {a b c : AV} {x y z : Value} (ha : AVR w F1 F2 ρ H a x) (hb : AVR w F1 F2 ρ H b y) (hc : AVR w F1 F2 ρ H c z) :
    StepOk P k0 w F1 F2 ρ H (do Pure.pure (if ← asBool x then y else z)) (evalPick a b c) := by
  unfold evalPick
  split
  · rename_i f1 p f2 q f3 r
    cases ha with | p _ _ _ ha => cases ha with | bool => cases hb with | p _ _ _ hb => cases hb with | bool => cases hc with | p _ _ _ hc => cases hc with | bool =>
    exact StepOk.ok1 hh (c := .bool (cond p q r)) (by cases p <;> simp [asBool]) avB
  · cases ha with | p _ _ _ ha => cases ha with | bool =>
    split
    · intro _
      exact VRuns.pure hh (c := y) (by simp [asBool]) hb
    · intro _
      exact VRuns.pure hh (c := z) (by simp [asBool]) hc
  · trivial
end
end Go.Proofs.Ytjgmlkogppibfaa.Ev
