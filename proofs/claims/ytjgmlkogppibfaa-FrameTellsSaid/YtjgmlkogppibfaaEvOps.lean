/- What each operation of the program comes to is what the reckoner says. No conditions. -/
import Derived.Test.YtjgmlkogppibfaaEvRel
namespace Go.Proofs.Ytjgmlkogppibfaa.Ev
open Go
set_option linter.unusedVariables false
set_option linter.unusedSimpArgs false

/-! ### What is known of the types -/
def zeroCell : Value → PV → Bool
  | .int k n, .int k' m => sameKind k k' && decide (n = m)
  | .bool b, .bool c => b == c
  | .string s, .str t => Nat.beq s.data.toList.length 0 && Nat.beq t.data.toList.length 0
  | .pointer none, .nilptr => true
  | .slice none 0 0, .nilsl => true
  | _, _ => false
def zeroCells : List Value → List PV → Bool
  | [], [] => true
  | v :: r, p :: s => zeroCell v p && zeroCells r s
  | _, _ => false
def fieldsOk (P : Program) : List Field → List (Nat × Nat × Bool) → Bool
  | [], [] => true
  | f :: r, (o, n, g) :: s => Nat.beq f.offset o && (match P.info? f.type with | some i => Nat.beq i.size n | none => false) &&
      (match P.underlying f.type with
        | some (.struct _) => g
        | some (.array _ _) => g
        | some _ => !g
        | none => false) && fieldsOk P r s
  | _, _ => false
def kindOk (P : Program) : TypeDesc → TK → Bool
  | .int k, .int k' => sameKind k k'
  | .bool, .bool => true
  | .string, .str => true
  | .slice e, .slice e' => Nat.beq e e'
  | .pointer e, .ptr e' => Nat.beq e e'
  | .struct fs, .struct gs => fieldsOk P fs.toList gs
  | .array n e, .arr n' e' => Nat.beq n n' && Nat.beq e e'
  | .func _ _ _, .func => true
  | _, _ => false
def tdOk (P : Program) (t : TypeId) (d : TD) : Bool :=
  match P.info? t, P.underlying t with
  | some i, some u => Nat.beq i.size d.size && Nat.beq i.bytes d.bytes && kindOk P u d.k && (match i.zero, d.zero with
    | _, [] => true
    | some z, zs => zeroCells z.cells.toList zs
    | none, _ => false)
  | _, _ => false
def tabOk (P : Program) : Tab → Bool
  | [] => true
  | (t, d) :: r => tdOk P t d && tabOk P r

theorem look_mem {α : Type _} : ∀ {l : List (Nat × α)} {k : Nat} {v : α}, look l k = some v → (k, v) ∈ l
  | [], _, _, h => by simp [look] at h
  | (i, x) :: r, k, v, h => by
    unfold look at h
    cases hb : Nat.beq i k with
    | true =>
      rw [hb] at h
      obtain rfl := Nat.eq_of_beq_eq_true hb
      obtain rfl : x = v := by simpa using h
      simp
    | false =>
      rw [hb] at h
      exact List.mem_cons_of_mem _ (look_mem h)
theorem tabOk_mem {P : Program} : ∀ {T : Tab}, tabOk P T = true → ∀ {t d}, (t, d) ∈ T → tdOk P t d = true
  | [], _, _, _, h => by simp at h
  | (t', d') :: r, h, t, d, hm => by
    simp only [tabOk, Bool.and_eq_true] at h
    rcases List.mem_cons.1 hm with he | he
    · obtain ⟨rfl, rfl⟩ := Prod.mk.inj he
      exact h.1
    · exact tabOk_mem h.2 he
theorem sameKind_eq {k k' : IntKind} (h : sameKind k k' = true) : k = k' := by cases k <;> cases k' <;> first | rfl | simp [sameKind] at h

structure TyOk (P : Program) (t : TypeId) (d : TD) : Prop where
  ex : ∃ i u, P.info? t = some i ∧ P.underlying t = some u ∧ i.size = d.size ∧ i.bytes = d.bytes ∧ kindOk P u d.k = true ∧ (d.zero ≠ [] → ∃ z, i.zero = some z ∧ zeroCells z.cells.toList d.zero = true)
theorem tyOk {P : Program} {T : Tab} (hT : tabOk P T = true) {t : TypeId} {d : TD} (h : look T t = some d) : TyOk P t d := by
  have h1 := tabOk_mem hT (look_mem h)
  unfold tdOk at h1
  cases hi : P.info? t with
  | none => simp [hi] at h1
  | some i =>
    cases hu : P.underlying t with
    | none => simp [hi, hu] at h1
    | some u =>
      simp only [hi, hu, Bool.and_eq_true] at h1
      refine ⟨i, u, by first | rfl | assumption, by first | rfl | assumption, Nat.eq_of_beq_eq_true h1.1.1.1, Nat.eq_of_beq_eq_true h1.1.1.2, h1.1.2, fun hz => ?_⟩
      have h2 := h1.2
      cases hz' : i.zero with
      | none => cases hd : d.zero with
        | nil => exact absurd hd hz
        | cons a b => rw [hz', hd] at h2; simp at h2
      | some z =>
        refine ⟨z, rfl, ?_⟩
        cases hd : d.zero with
        | nil => exact absurd hd hz
        | cons a b => rw [hz', hd] at h2; exact h2
theorem TyOk.slice {P : Program} {t : TypeId} {d : TD} (h : TyOk P t d) {e : TypeId} (hk : d.k = .slice e) : P.underlying t = some (.slice e) := by
  obtain ⟨i, u, _, h2, _, _, h5, _⟩ := h.ex
  rw [hk] at h5
  cases u <;> simp [kindOk] at h5
  rw [h2, h5]
theorem TyOk.ptr {P : Program} {t : TypeId} {d : TD} (h : TyOk P t d) {e : TypeId} (hk : d.k = .ptr e) : P.underlying t = some (.pointer e) := by
  obtain ⟨i, u, _, h2, _, _, h5, _⟩ := h.ex
  rw [hk] at h5
  cases u <;> simp [kindOk] at h5
  rw [h2, h5]
theorem TyOk.int {P : Program} {t : TypeId} {d : TD} (h : TyOk P t d) {k : IntKind} (hk : d.k = .int k) : P.underlying t = some (.int k) := by
  obtain ⟨i, u, _, h2, _, _, h5, _⟩ := h.ex
  rw [hk] at h5
  cases u <;> simp [kindOk] at h5
  rw [h2, sameKind_eq h5]
theorem TyOk.bool {P : Program} {t : TypeId} {d : TD} (h : TyOk P t d) (hk : d.k = .bool) : P.underlying t = some .bool := by
  obtain ⟨i, u, _, h2, _, _, h5, _⟩ := h.ex
  rw [hk] at h5
  cases u <;> simp [kindOk] at h5
  rw [h2]
theorem TyOk.str {P : Program} {t : TypeId} {d : TD} (h : TyOk P t d) (hk : d.k = .str) : P.underlying t = some .string := by
  obtain ⟨i, u, _, h2, _, _, h5, _⟩ := h.ex
  rw [hk] at h5
  cases u <;> simp [kindOk] at h5
  rw [h2]
theorem TyOk.struct {P : Program} {t : TypeId} {d : TD} (h : TyOk P t d) {gs : List (Nat × Nat × Bool)} (hk : d.k = .struct gs) : ∃ fs, P.underlying t = some (.struct fs) ∧ fieldsOk P fs.toList gs = true := by
  obtain ⟨i, u, _, h2, _, _, h5, _⟩ := h.ex
  rw [hk] at h5
  cases u <;> simp [kindOk] at h5
  exact ⟨_, h2, h5⟩
theorem TyOk.sizeOf {P : Program} {t : TypeId} {d : TD} (h : TyOk P t d) (w : World) : (sizeOf t).run P w = .ok d.size w := by
  obtain ⟨i, u, h1, _, h3, _⟩ := h.ex
  simp [Go.sizeOf, typeInfo, h1, h3]
theorem TyOk.info {P : Program} {t : TypeId} {d : TD} (h : TyOk P t d) : ∃ i, P.info? t = some i ∧ i.size = d.size ∧ i.bytes = d.bytes := by
  obtain ⟨i, u, h1, _, h3, h4, _⟩ := h.ex
  exact ⟨i, h1, h3, h4⟩
theorem TyOk.isAgg {P : Program} {t : TypeId} {d : TD} (h : TyOk P t d) (w : World) : (Go.isAgg t).run P w = .ok d.isAgg w := by
  obtain ⟨i, u, _, h2, _, _, h5, _⟩ := h.ex
  unfold Go.isAgg TD.isAgg
  rw [Sem.run_bind, run_underlying h2 w]
  cases hk : d.k <;> cases u <;> simp_all [kindOk]

/-! ### What an operation leaves -/
def upd (H : Hp) (ups : List (Nat × Ob)) : Hp := fun h => match look ups h with
  | some o => some o
  | none => H h
theorem upd_nil (H : Hp) : upd H [] = H := rfl
def LiveB (ρ : Nat → Option (Nat × Nat)) (H : Hp) (b : Nat) : Prop := ∃ h o c, H h = some o ∧ o.live ∧ ρ h = some (b, c)

structure Chg (k0 : Nat) (w : World) (F1 F2 : Nat → Prop) (ρ : Nat → Option (Nat × Nat)) (H : Hp) (w' : World) (H' : Hp) (F1' F2' : Nat → Prop) (ρ' : Nat → Option (Nat × Nat)) : Prop where
  trans : Trans w F1 F2 ρ H w' F1' F2' ρ' H'
  heap : HeapR k0 w' F1' F2' ρ' H'
  os : w'.os = w.os
  tape : w'.tape = w.tape
  output : w'.output = w.output
  wr : ∀ b, b < w.heap.size → ¬ LiveB ρ H b → w'.heap[b]? = w.heap[b]?
  g1 : ∀ b, F1' b → F1 b ∨ LiveB ρ H b ∨ w.heap.size ≤ b
  g2 : ∀ b, F2' b → F2 b ∨ LiveB ρ H b ∨ w.heap.size ≤ b
  nw : ∀ h o b c, H' h = some o → ρ' h = some (b, c) → (∃ o0, H h = some o0) ∨ LiveB ρ H b ∨ w.heap.size ≤ b
structure OpR (k0 : Nat) (w : World) (F1 F2 : Nat → Prop) (ρ : Nat → Option (Nat × Nat)) (H : Hp) (c : Value) (w' : World) (v : AV) (H' : Hp) (F1' F2' : Nat → Prop) (ρ' : Nat → Option (Nat × Nat)) : Prop where
  chg : Chg k0 w F1 F2 ρ H w' H' F1' F2' ρ'
  avr : AVR w' F1' F2' ρ' H' v c

section
variable {P : Program} {k0 : Nat} {w : World} {F1 F2 : Nat → Prop} {ρ : Nat → Option (Nat × Nat)} {H : Hp}

theorem Trans.refl : Trans w F1 F2 ρ H w F1 F2 ρ H := ⟨Nat.le_refl _, fun _ _ => rfl, fun _ h => h, fun _ h => h, fun _ _ _ => rfl, fun h o ho => ⟨o, ho, Ob.after_refl o⟩⟩
theorem Chg.refl (hh : HeapR k0 w F1 F2 ρ H) : Chg k0 w F1 F2 ρ H w H F1 F2 ρ :=
  ⟨.refl, hh, rfl, rfl, rfl, fun _ _ _ => rfl, fun _ h => .inl h, fun _ h => .inl h, fun h o b c ho _ => .inl ⟨o, ho⟩⟩
theorem OpR.pure (hh : HeapR k0 w F1 F2 ρ H) {c : Value} {v : AV} (h : AVR w F1 F2 ρ H v c) : OpR k0 w F1 F2 ρ H c w v (upd H []) F1 F2 ρ := ⟨.refl hh, h⟩

/-- What the machine does at an operation: a value, or none, in a world that the reckoner's things describe. -/
def VRuns (P : Program) (k0 : Nat) (w : World) (F1 F2 : Nat → Prop) (ρ : Nat → Option (Nat × Nat)) (H : Hp) (s : Sem Value) (v : AV) (ups : List (Nat × Ob)) : Prop :=
  ∃ c w' F1' F2' ρ', s.run P w = .ok c w' ∧ OpR k0 w F1 F2 ρ H c w' v (upd H ups) F1' F2' ρ'
def Runs (P : Program) (k0 : Nat) (w : World) (F1 F2 : Nat → Prop) (ρ : Nat → Option (Nat × Nat)) (H : Hp) (s : Sem Next) (v : AV) (ups : List (Nat × Ob)) : Prop :=
  ∃ n c w' F1' F2' ρ', s.run P w = .ok n w' ∧ (n = .value c ∨ (n = .skip ∧ c = undef)) ∧ OpR k0 w F1 F2 ρ H c w' v (upd H ups) F1' F2' ρ'
theorem Runs.pure (hh : HeapR k0 w F1 F2 ρ H) {s : Sem Next} {c : Value} {v : AV} (hs : s.run P w = .ok (.value c) w) (h : AVR w F1 F2 ρ H v c) : Runs P k0 w F1 F2 ρ H s v [] :=
  ⟨_, c, w, F1, F2, ρ, hs, .inl rfl, OpR.pure hh h⟩

theorem VRuns.pure (hh : HeapR k0 w F1 F2 ρ H) {s : Sem Value} {c : Value} {v : AV} (hs : s.run P w = .ok c w) (h : AVR w F1 F2 ρ H v c) : VRuns P k0 w F1 F2 ρ H s v [] :=
  ⟨c, w, F1, F2, ρ, hs, OpR.pure hh h⟩
theorem VRuns.runs {s : Sem Value} {v : AV} {ups : List (Nat × Ob)} (h : VRuns P k0 w F1 F2 ρ H s v ups) : Runs P k0 w F1 F2 ρ H (do Pure.pure (Next.value (← s)) : Sem Next) v ups := by
  obtain ⟨c, w', F1', F2', ρ', hs, ho⟩ := h
  exact ⟨_, c, w', F1', F2', ρ', by simp [hs], .inl rfl, ho⟩

/-! ### Operands -/
theorem constPV_ok {v : Value} {x : PV} (h : constPV v = some x) (F : Nat → Prop) : PVR w F x v := by
  unfold constPV at h
  split at h <;> first | (obtain rfl := Option.some.inj h; constructor) | simp at h
theorem constPVs_ok : ∀ {vs : List Value} {xs : List PV}, constPVs vs = some xs → ∀ (F : Nat → Prop), xs.length = vs.length ∧ ∀ (i : Nat) (x : PV), xs[i]? = some x → ∃ v : Value, vs[i]? = some v ∧ PVR w F x v
  | [], xs, h, F => by
    obtain rfl : [] = xs := by simpa [constPVs] using h
    exact ⟨rfl, fun i x hx => by simp at hx⟩
  | v :: r, xs, h, F => by
    unfold constPVs at h
    cases hv : constPV v with
    | none => simp [hv] at h
    | some x =>
      cases hr : constPVs r with
      | none => simp [hv, hr] at h
      | some y =>
        simp only [hv, hr, Option.some.injEq] at h
        subst h
        obtain ⟨h1, h2⟩ := constPVs_ok hr F
        refine ⟨by simp [h1], fun i z hz => ?_⟩
        cases i with
        | zero =>
          obtain rfl : x = z := by simpa using hz
          exact ⟨v, by simp, constPV_ok hv F⟩
        | succ i => simpa using h2 i z (by simpa using hz)
theorem getD_of_get {vs : Array Value} {i : Nat} {v : Value} (h : vs.toList[i]? = some v) : vs.getD i undef = v := by
  rw [Array.getElem?_toList] at h
  simp [Array.getD_eq_getD_getElem?, h]
theorem constAV_ok {v : Value} {x : AV} (h : constAV v = some x) : AVR w F1 F2 ρ H x v := by
  unfold constAV at h
  split at h
  · rename_i cs
    cases hc : constPVs cs.toList with
    | none => simp [hc] at h
    | some l =>
      simp only [hc, Option.some.injEq] at h
      subst h
      obtain ⟨h1, h2⟩ := constPVs_ok (w := w) hc F2
      refine .agg _ _ (by simpa using h1.symm) fun i z hz => ?_
      rw [List.getElem?_map] at hz
      cases hl : l[i]? with
      | none => simp [hl] at hz
      | some y =>
        simp only [hl, Option.map_some, Option.some.injEq] at hz
        subst hz
        obtain ⟨u, hu, hp⟩ := h2 i y hl
        rw [getD_of_get hu]
        exact .p true _ _ hp
  · rename_i f a b
    cases ha : a.toList with
    | cons => simp [ha] at h
    | nil => cases hb : b.toList with
      | cons => simp [ha, hb] at h
      | nil =>
        simp only [ha, hb, Option.some.injEq] at h
        subst h
        exact .func _ _ _ _ _ (by simpa using congrArg List.length ha) (fun i z hz => by simp at hz) (by simpa using congrArg List.length hb) (fun i z hz => by simp at hz)
  · cases hc : constPV v with
    | none => simp [hc] at h
    | some y =>
      simp only [hc, Option.some.injEq] at h
      subst h
      exact .p true _ _ (constPV_ok hc F2)

def EnvR (w : World) (F1 F2 : Nat → Prop) (ρ : Nat → Option (Nat × Nat)) (H : Hp) (e : Env) (a : Act) : Prop := ∀ t v, e t = some v → AVR w F1 F2 ρ H v (a.tmps.getD t undef)
theorem evalR_ok {e : Env} {a : Act} (he : EnvR w F1 F2 ρ H e a) {x : Operand} {v : AV} (h : evalR e x = some v) : AVR w F1 F2 ρ H v (a.eval x) := by
  cases x with
  | tmp t => exact he t v h
  | const c => exact constAV_ok h
  | global g => simp [evalR] at h
  | func f =>
    obtain rfl := Option.some.inj h
    exact .func _ _ _ _ _ rfl (fun i z hz => by simp at hz) rfl (fun i z hz => by simp at hz)
theorem evalRs_ok {e : Env} {a : Act} (he : EnvR w F1 F2 ρ H e a) : ∀ {xs : List Operand} {vs : List AV}, evalRs e xs = some vs → vs.length = xs.length ∧ ∀ (i : Nat) (v : AV), vs[i]? = some v → ∃ x : Operand, xs[i]? = some x ∧ AVR w F1 F2 ρ H v (a.eval x)
  | [], vs, h => by
    obtain rfl : [] = vs := by simpa [evalRs] using h
    exact ⟨rfl, fun i v hv => by simp at hv⟩
  | x :: r, vs, h => by
    unfold evalRs at h
    cases h1 : evalR e x with
    | none => simp [h1] at h
    | some b =>
      cases h2 : evalRs e r with
      | none => simp [h1, h2] at h
      | some c =>
        simp only [h1, h2, Option.some.injEq] at h
        subst h
        obtain ⟨h3, h4⟩ := evalRs_ok he h2
        refine ⟨by simp [h3], fun i v hv => ?_⟩
        cases i with
        | zero =>
          obtain rfl : b = v := by simpa using hv
          exact ⟨x, by simp, evalR_ok he h1⟩
        | succ i => simpa using h4 i v (by simpa using hv)

/-! ### Numbers, bools, strings -/
theorem run_vok {s : Sem Value} {c : Value} {w' : World} (h : s.run P w = .ok c w') : (do pure (Next.value (← s)) : Sem Next).run P w = .ok (.value c) w' := by simp [h]

theorem binInt_ok {op : BinOp} {t : TypeId} {k : IntKind} {x y : Int} {X Y : Operand} {cs : List Prop} {v : Option AV} {rd : List Nat} {ups : List (Nat × Ob)}
    (hs : isShift op = false) (h : binInt op k x y = .ok cs v rd ups) (hc : allP cs) :
    ups = [] ∧ ∃ c v', v = some v' ∧ (do eqGuard op t X Y (.int k x) (.int k y); binOp op t (.int k x) (.int k y) : Sem Value).run P w = .ok c w ∧ AVR w F1 F2 ρ H v' c := by
  cases op with
  | quo =>
    simp only [binInt, isI, Step.ok.injEq] at h
    obtain ⟨rfl, rfl, rfl, rfl⟩ := h
    have hy : y ≠ 0 := hc
    exact ⟨rfl, _, _, rfl, by simp [eqGuard, binOp, Op.intDiv, hy], .p true _ _ (.int _ _)⟩
  | rem =>
    simp only [binInt, isI, Step.ok.injEq] at h
    obtain ⟨rfl, rfl, rfl, rfl⟩ := h
    have hy : y ≠ 0 := hc
    exact ⟨rfl, _, _, rfl, by simp [eqGuard, binOp, Op.intDiv, hy], .p true _ _ (.int _ _)⟩
  | shl => simp [isShift] at hs
  | shr => simp [isShift] at hs
  | add => simp only [binInt, ok1, isI, Step.ok.injEq] at h; obtain ⟨rfl, rfl, rfl, rfl⟩ := h; exact ⟨rfl, _, _, rfl, by simp [eqGuard, binOp, Op.intArith], .p true _ _ (.int _ _)⟩
  | sub => simp only [binInt, ok1, isI, Step.ok.injEq] at h; obtain ⟨rfl, rfl, rfl, rfl⟩ := h; exact ⟨rfl, _, _, rfl, by simp [eqGuard, binOp, Op.intArith], .p true _ _ (.int _ _)⟩
  | mul => simp only [binInt, ok1, isI, Step.ok.injEq] at h; obtain ⟨rfl, rfl, rfl, rfl⟩ := h; exact ⟨rfl, _, _, rfl, by simp [eqGuard, binOp, Op.intArith], .p true _ _ (.int _ _)⟩
  | and => simp only [binInt, ok1, isI, Step.ok.injEq] at h; obtain ⟨rfl, rfl, rfl, rfl⟩ := h; exact ⟨rfl, _, _, rfl, by simp [eqGuard, binOp, Op.intBits], .p true _ _ (.int _ _)⟩
  | or => simp only [binInt, ok1, isI, Step.ok.injEq] at h; obtain ⟨rfl, rfl, rfl, rfl⟩ := h; exact ⟨rfl, _, _, rfl, by simp [eqGuard, binOp, Op.intBits], .p true _ _ (.int _ _)⟩
  | xor => simp only [binInt, ok1, isI, Step.ok.injEq] at h; obtain ⟨rfl, rfl, rfl, rfl⟩ := h; exact ⟨rfl, _, _, rfl, by simp [eqGuard, binOp, Op.intBits], .p true _ _ (.int _ _)⟩
  | andNot => simp only [binInt, ok1, isI, Step.ok.injEq] at h; obtain ⟨rfl, rfl, rfl, rfl⟩ := h; exact ⟨rfl, _, _, rfl, by simp [eqGuard, binOp, Op.intBits], .p true _ _ (.int _ _)⟩
  | eql => simp only [binInt, ok1, isB, Step.ok.injEq] at h; obtain ⟨rfl, rfl, rfl, rfl⟩ := h; exact ⟨rfl, _, _, rfl, by simp [eqGuard, binOp, Op.intCmp], .p true _ _ (.bool _)⟩
  | neq => simp only [binInt, ok1, isB, Step.ok.injEq] at h; obtain ⟨rfl, rfl, rfl, rfl⟩ := h; exact ⟨rfl, _, _, rfl, by simp [eqGuard, binOp, Op.intCmp], .p true _ _ (.bool _)⟩
  | lss => simp only [binInt, ok1, isB, Step.ok.injEq] at h; obtain ⟨rfl, rfl, rfl, rfl⟩ := h; exact ⟨rfl, _, _, rfl, by simp [eqGuard, binOp, Op.intCmp], .p true _ _ (.bool _)⟩
  | leq => simp only [binInt, ok1, isB, Step.ok.injEq] at h; obtain ⟨rfl, rfl, rfl, rfl⟩ := h; exact ⟨rfl, _, _, rfl, by simp [eqGuard, binOp, Op.intCmp], .p true _ _ (.bool _)⟩
  | gtr => simp only [binInt, ok1, isB, Step.ok.injEq] at h; obtain ⟨rfl, rfl, rfl, rfl⟩ := h; exact ⟨rfl, _, _, rfl, by simp [eqGuard, binOp, Op.intCmp], .p true _ _ (.bool _)⟩
  | geq => simp only [binInt, ok1, isB, Step.ok.injEq] at h; obtain ⟨rfl, rfl, rfl, rfl⟩ := h; exact ⟨rfl, _, _, rfl, by simp [eqGuard, binOp, Op.intCmp], .p true _ _ (.bool _)⟩
end
end Go.Proofs.Ytjgmlkogppibfaa.Ev
