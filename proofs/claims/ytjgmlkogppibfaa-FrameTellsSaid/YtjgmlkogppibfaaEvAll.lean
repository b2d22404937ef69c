/- What each operation of the program comes to is what the reckoner says. No conditions. -/
import Derived.Test.YtjgmlkogppibfaaEvBuiltin
namespace Go.Proofs.Ytjgmlkogppibfaa.Ev
open Go
set_option linter.unusedVariables false
set_option linter.unusedSimpArgs false
section
variable {P : Program} {T : Tab} {k0 : Nat} {w : World} {F1 F2 : Nat → Prop} {ρ : Nat → Option (Nat × Nat)} {H : Hp}

def ArgsR (w : World) (F1 F2 : Nat → Prop) (ρ : Nat → Option (Nat × Nat)) (H : Hp) (vs : List AV) (cs : Array Value) : Prop := CellsR w F1 F2 ρ H vs cs

theorem minI_ok : ∀ {r : List AV} {k : IntKind} {x : Int} {v : AV} {cs : List Value}, minI k x r = some v → cs.length = r.length → (∀ (i : Nat) (a : AV), r[i]? = some a → ∃ c : Value, cs[i]? = some c ∧ AVR w F1 F2 ρ H a c) →
    ∃ c, (cs.foldlM Builtin.min2 (.int k x)).run P w = .ok c w ∧ AVR w F1 F2 ρ H v c
  | [], k, x, v, cs, h, hl, _ => by
    obtain rfl : isI k x = v := by simpa [minI] using h
    obtain rfl := List.eq_nil_of_length_eq_zero hl
    exact ⟨.int k x, rfl, avI⟩
  | a :: r, k, x, v, [], _, hl, _ => by simp at hl
  | a :: r, k, x, v, c :: cs, h, hl, hc => by
    obtain ⟨c', h1, h2⟩ := hc 0 a (by simp)
    obtain rfl : c = c' := by simpa using h1
    unfold minI at h
    split at h
    · rename_i f k' y
      cases h2 with | p _ _ _ h2 => cases h2 with | int =>
      obtain ⟨c2, h3, h4⟩ := minI_ok (cs := cs) h (by simpa using hl) (fun i a ha => by simpa using hc (i + 1) a (by simpa using ha))
      exact ⟨c2, by simp [List.foldlM_cons, Builtin.min2, h3], h4⟩
    · cases h
theorem maxI_ok : ∀ {r : List AV} {k : IntKind} {x : Int} {v : AV} {cs : List Value}, maxI k x r = some v → cs.length = r.length → (∀ (i : Nat) (a : AV), r[i]? = some a → ∃ c : Value, cs[i]? = some c ∧ AVR w F1 F2 ρ H a c) →
    ∃ c, (cs.foldlM Builtin.max2 (.int k x)).run P w = .ok c w ∧ AVR w F1 F2 ρ H v c
  | [], k, x, v, cs, h, hl, _ => by
    obtain rfl : isI k x = v := by simpa [maxI] using h
    obtain rfl := List.eq_nil_of_length_eq_zero hl
    exact ⟨.int k x, rfl, avI⟩
  | a :: r, k, x, v, [], _, hl, _ => by simp at hl
  | a :: r, k, x, v, c :: cs, h, hl, hc => by
    obtain ⟨c', h1, h2⟩ := hc 0 a (by simp)
    obtain rfl : c = c' := by simpa using h1
    unfold maxI at h
    split at h
    · rename_i f k' y
      cases h2 with | p _ _ _ h2 => cases h2 with | int =>
      obtain ⟨c2, h3, h4⟩ := maxI_ok (cs := cs) h (by simpa using hl) (fun i a ha => by simpa using hc (i + 1) a (by simpa using ha))
      exact ⟨c2, by simp [List.foldlM_cons, Builtin.max2, h3], h4⟩
    · cases h
theorem two {α : Type _} {cs : Array α} {x y : α} (h : cs.size = 2) (h0 : cs[0]? = some x) (h1 : cs[1]? = some y) : cs = #[x, y] := by
  apply Array.ext_getElem?
  intro i
  match i with
  | 0 => simpa using h0
  | 1 => simpa using h1
  | i + 2 => simp [Array.getElem?_eq_none (show cs.size ≤ i + 2 by omega)]
theorem getD_some {cs : Array Value} {i : Nat} (h : i < cs.size) : cs[i]? = some (cs.getD i undef) := by simp [Array.getD_eq_getD_getElem?, h]
theorem evalBuiltin_ok (hT : tabOk P T = true) (hh : HeapR k0 w F1 F2 ρ H) {nx : Nat} (hn : H nx = none) (b : Builtin) (ts : Array TypeId) (ty : TypeId) (consts : Array Bool) {as : List AV} {cs : Array Value} (ha : ArgsR w F1 F2 ρ H as cs) :
    evalBuiltin T H k0 nx b ts.toList as = .bad ∨ ∃ s : Sem Value, builtin b ts ty consts cs = (do Pure.pure (Next.value (← s)) : Sem Next) ∧ StepOk P k0 w F1 F2 ρ H s (evalBuiltin T H k0 nx b ts.toList as) := by
  obtain ⟨hsz, hav⟩ := ha
  have hget : ∀ (i : Nat) (a : AV), as[i]? = some a → cs[i]? = some (cs.getD i undef) := fun i a h => getD_some (by rw [hsz]; exact (List.getElem?_eq_some_iff.1 h).1)
  unfold evalBuiltin
  split
  · rename_i x
    refine .inr ⟨Builtin.len_ ts ty cs, rfl, ?_⟩
    have hx := hav 0 x (by simp)
    have hg := hget 0 x (by simp)
    split
    · rename_i t tr hts
      have ht0 : ts[0]? = some t := by rw [← Array.getElem?_toList, hts]; rfl
      split
      · rename_i d n rd ht hl
        have hty := tyOk hT ht
        split
        · rename_i f s hk
          cases hx' : cs.getD 0 undef with
          | string q =>
            rw [hx'] at hx hg
            cases hx with | p _ _ _ hx => cases hx with | str =>
            simp only [Ev.lenOf, Option.some.injEq, Prod.mk.injEq] at hl
            obtain ⟨rfl, _⟩ := hl
            intro _
            exact VRuns.pure hh (by simp [Builtin.len_, ht0, hg, run_underlying (hty.str hk), goInt]) avI
          | _ => rw [hx'] at hx; cases hx with | p _ _ _ hx => cases hx
        · trivial
        · rename_i e hk hne
          intro _
          rcases lenOf_ok hh hx hl with ⟨A, c, he⟩ | ⟨s, he, _⟩
          · rw [he] at hg
            exact VRuns.pure hh (by simp [Builtin.len_, ht0, hg, run_underlying (hty.slice hk), goInt]) avI
          · rw [he] at hx
            cases hx with
            | p _ _ _ hx => cases hx with | str => exact absurd rfl (hne _ _)
            | rowf _ _ _ _ hsl => obtain ⟨_, _, _, h⟩ := hsl; cases h
            | row _ _ _ _ _ _ hsl => obtain ⟨_, _, _, h⟩ := hsl; cases h
            | rptr _ _ _ _ _ _ hsl => obtain ⟨_, h⟩ := hsl; cases h
        · trivial
      · trivial
    · trivial
  · rename_i f
    refine .inr ⟨Builtin.cap_ ts ty cs, rfl, ?_⟩
    have hx := hav 0 _ rfl
    have hg := hget 0 _ rfl
    split
    · rename_i t tr hts
      have ht0 : ts[0]? = some t := by rw [← Array.getElem?_toList, hts]; rfl
      split
      · rename_i d ht
        split
        · rename_i e hk
          intro _
          cases hx' : cs.getD 0 undef with
          | slice A n c =>
            rw [hx'] at hx hg
            cases hx with | p _ _ _ hx => cases hx with | nilsl =>
            exact VRuns.pure hh (by simp [Builtin.cap_, ht0, hg, run_underlying ((tyOk hT ht).slice hk), goInt]) avI
          | _ => rw [hx'] at hx; cases hx with | p _ _ _ hx => cases hx
        · trivial
      · trivial
    · trivial
  · rename_i x y
    refine .inr ⟨Builtin.append_ ts ty cs, rfl, ?_⟩
    have hx := hav 0 x (by simp)
    have hy := hav 1 y (by simp)
    have hcs := two (by simpa using hsz) (hget 0 x (by simp)) (hget 1 y (by simp))
    split
    · rename_i t t2 hts
      have hts' : ts = #[t, t2] := Array.ext' hts
      rw [hts', hcs]
      exact evalAppend_ok hT hh hn t t2 ty hx hy
    · trivial
  · rename_i x y
    refine .inr ⟨Builtin.copy_ ts ty cs, rfl, ?_⟩
    have hx := hav 0 x (by simp)
    have hy := hav 1 y (by simp)
    have hcs := two (by simpa using hsz) (hget 0 x (by simp)) (hget 1 y (by simp))
    split
    · rename_i t t2 hts
      have hts' : ts = #[t, t2] := Array.ext' hts
      rw [hts', hcs]
      exact evalCopy_ok hT hh t t2 ty hx hy
    · trivial
  · rename_i f k x r
    refine .inr ⟨Builtin.min_ ts ty cs, rfl, ?_⟩
    split
    · rename_i v hv
      have hx := hav 0 _ rfl
      have hg := hget 0 _ rfl
      cases hcl : cs.toList with
      | nil => rw [← Array.getElem?_toList, hcl] at hg; cases hg
      | cons c0 cr =>
        rw [← Array.getElem?_toList, hcl] at hg
        have h0 : c0 = cs.getD 0 undef := by simpa using hg
        rw [← h0] at hx
        cases hx with | p _ _ _ hx => cases hx with | int =>
        have hlen : cr.length = r.length := by
          have := congrArg List.length hcl
          simp at this
          simp at hsz
          omega
        obtain ⟨c, h1, h2⟩ := minI_ok (P := P) (w := w) (F1 := F1) (F2 := F2) (ρ := ρ) (H := H) hv hlen (fun i a ha => by
          have h3 := hget (i + 1) a (by simpa using ha)
          have h4 := hav (i + 1) a (by simpa using ha)
          refine ⟨cs.getD (i + 1) undef, ?_, h4⟩
          rw [← Array.getElem?_toList, hcl] at h3
          simpa using h3)
        exact StepOk.ok1 hh (by simp only [Builtin.min_, hcl]; exact h1) h2
    · trivial
  · rename_i f k x r
    refine .inr ⟨Builtin.max_ ts ty cs, rfl, ?_⟩
    split
    · rename_i v hv
      have hx := hav 0 _ rfl
      have hg := hget 0 _ rfl
      cases hcl : cs.toList with
      | nil => rw [← Array.getElem?_toList, hcl] at hg; cases hg
      | cons c0 cr =>
        rw [← Array.getElem?_toList, hcl] at hg
        have h0 : c0 = cs.getD 0 undef := by simpa using hg
        rw [← h0] at hx
        cases hx with | p _ _ _ hx => cases hx with | int =>
        have hlen : cr.length = r.length := by
          have := congrArg List.length hcl
          simp at this
          simp at hsz
          omega
        obtain ⟨c, h1, h2⟩ := maxI_ok (P := P) (w := w) (F1 := F1) (F2 := F2) (ρ := ρ) (H := H) hv hlen (fun i a ha => by
          have h3 := hget (i + 1) a (by simpa using ha)
          have h4 := hav (i + 1) a (by simpa using ha)
          refine ⟨cs.getD (i + 1) undef, ?_, h4⟩
          rw [← Array.getElem?_toList, hcl] at h3
          simpa using h3)
        exact StepOk.ok1 hh (by simp only [Builtin.max_, hcl]; exact h1) h2
    · trivial
  · exact .inl rfl

/-- What a step of the reckoner's is good for, at the machine's operation. -/
def OpOk (P : Program) (Γ : List (FuncId × Ctr)) (k0 : Nat) (w : World) (F1 F2 : Nat → Prop) (ρ : Nat → Option (Nat × Nat)) (H : Hp) (nx : Nat) (s : Sem Next) : Step → Prop
  | .ok cs (some v) _ ups => allP cs → Runs P k0 w F1 F2 ρ H s v ups
  | .ok cs none _ ups => allP cs → Runs P k0 w F1 F2 ρ H s (.tuple []) ups
  | .dem c _ => ∃ b, c b ∧ Runs P k0 w F1 F2 ρ H s (isB b) []
  | .bad => True
  | .call Ix r => ∃ f c as cs, look Γ f = some c ∧ Step.call Ix r = .call c.Ix (callAll c H k0 nx as) ∧ ArgsR w F1 F2 ρ H as cs ∧ s = callFunc f cs
theorem OpOk.of {Γ : List (FuncId × Ctr)} {nx : Nat} {s : Sem Value} {st : Step} (h : StepOk P k0 w F1 F2 ρ H s st) : OpOk P Γ k0 w F1 F2 ρ H nx (do Pure.pure (Next.value (← s)) : Sem Next) st := by
  cases st with
  | bad => trivial
  | ok cs v rd ups => cases v with
    | none => exact h.elim
    | some v => exact fun hc => (h hc).runs
  | dem c rd => obtain ⟨b, h1, h2⟩ := h; exact ⟨b, h1, h2.runs⟩
  | call Ix r => exact h.elim
theorem OpOk.ofSt {Γ : List (FuncId × Ctr)} {nx : Nat} {s : Sem Unit} {st : Step} (h : StOk P k0 w F1 F2 ρ H s st) : OpOk P Γ k0 w F1 F2 ρ H nx (do s; Pure.pure Next.skip : Sem Next) st := by
  cases st with
  | bad => trivial
  | ok cs v rd ups => cases v with
    | none =>
      intro hc
      obtain ⟨w', F1', F2', ρ', h1, h2⟩ := h hc
      exact ⟨.skip, undef, w', F1', F2', ρ', by simp [h1], .inr ⟨rfl, rfl⟩, h2, .tuple _ _ rfl (fun i v hv => by simp at hv)⟩
    | some v => exact h.elim
  | dem c rd => exact h.elim
  | call Ix r => exact h.elim
theorem args_append {as bs : List AV} {xs ys : Array Value} (ha : ArgsR w F1 F2 ρ H as xs) (hb : ArgsR w F1 F2 ρ H bs ys) : ArgsR w F1 F2 ρ H (as ++ bs) (xs ++ ys) := by
  refine ⟨by simp [ha.1, hb.1], fun i v hv => ?_⟩
  rcases Nat.lt_or_ge i as.length with h | h
  · rw [List.getElem?_append_left h] at hv
    have h2 : i < xs.size := by rw [ha.1]; exact h
    rw [Array.getD_eq_getD_getElem?, Array.getElem?_append_left h2, ← Array.getD_eq_getD_getElem?]
    exact ha.2 i v hv
  · rw [List.getElem?_append_right h] at hv
    rw [Array.getD_eq_getD_getElem?, Array.getElem?_append_right (by rw [ha.1]; exact h), ha.1, ← Array.getD_eq_getD_getElem?]
    exact hb.2 _ v hv
theorem evalRs_args {e : Env} {a : Act} (he : EnvR w F1 F2 ρ H e a) {xs : Array Operand} {vs : List AV} (h : evalRs e xs.toList = some vs) : ArgsR w F1 F2 ρ H vs (xs.map a.eval) := by
  obtain ⟨h1, h2⟩ := evalRs_ok he h
  refine ⟨by simpa using h1.symm, fun i v hv => ?_⟩
  obtain ⟨x, h3, h4⟩ := h2 i v hv
  rw [Array.getElem?_toList] at h3
  rw [Array.getD_eq_getD_getElem?, Array.getElem?_map, h3]
  exact h4
theorem evalOp_ok (hT : tabOk P T = true) {Γ : List (FuncId × Ctr)} (hh : HeapR k0 w F1 F2 ρ H) {e : Env} {a : Act} (he : EnvR w F1 F2 ρ H e a) {nx : Nat} (hn : H nx = none) (o : Oper) :
    OpOk P Γ k0 w F1 F2 ρ H nx (execOp a.eval o) (evalOp Γ T k0 o e H nx) := by
  unfold evalOp execOp
  cases hop : o.op with
  | move x =>
    simp only
    cases hx : evalR e x with
    | none => trivial
    | some v => exact fun _ => Runs.pure hh rfl (evalR_ok he hx)
  | assign x =>
    simp only
    cases hx : evalR e x with
    | none => trivial
    | some v => exact fun _ => Runs.pure hh rfl (evalR_ok he hx)
  | pick c x y =>
    simp only
    cases hc : evalR e c with
    | none => trivial
    | some c' => cases hx : evalR e x with
      | none => trivial
      | some x' => cases hy : evalR e y with
        | none => trivial
        | some y' =>
          have := OpOk.of (Γ := Γ) (nx := nx) (evalPick_ok (P := P) hh (evalR_ok he hc) (evalR_ok he hx) (evalR_ok he hy))
          simpa using this
  | alloc t =>
    simp only
    cases ht : look T t with
    | none => trivial
    | some d =>
      simp only
      split
      · rename_i z zs hz
        exact OpOk.of (s := Instr.alloc t true (.tuple #[])) (st := .ok [] (some (.ptr nx 0)) [] [(nx, .box (d.zero.map (AV.p true)))]) (fun _ => alloc_ok hT hh hn ht (by rw [hz]; simp))
      · trivial
  | box t x =>
    simp only
    cases ht : look T t with
    | none => cases hx : evalR e x <;> trivial
    | some d => cases hx : evalR e x with
      | none => trivial
      | some v =>
        obtain ⟨h1, h2⟩ := avr_cells (evalR_ok he hx)
        exact OpOk.of (s := Instr.box t (a.eval x)) (st := .ok [] (some (.ptr nx 0)) [] [(nx, .box v.cells)]) (fun _ => box_ok hh hn t h1 h2 (by simp [Instr.box, newVar, newRow, newObj, Sem.run]))
  | build t parts =>
    simp only
    cases hp : evalParts e parts.toList with
    | none => trivial
    | some ps => exact OpOk.of (build_ok hT hh he t parts hp)
  | buildSlice t len parts =>
    simp only
    cases hp : evalParts e parts.toList with
    | none => trivial
    | some ps => exact OpOk.of (buildSlice_ok hT hh he hn t len parts hp)
  | load t x =>
    simp only
    cases hx : evalR e x with
    | none => trivial
    | some v => exact OpOk.of (evalLoad_ok hT hh t (evalR_ok he hx))
  | store t x y =>
    simp only
    cases hx : evalR e x with
    | none => trivial
    | some v => cases hy : evalR e y with
      | none => trivial
      | some u => exact OpOk.ofSt (evalStore_ok hT hh t (evalR_ok he hx) (evalR_ok he hy))
  | nilCheck x =>
    simp only
    cases hx : evalR e x with
    | none => trivial
    | some v =>
      have ha := evalR_ok he hx
      cases v with
      | ptr h off =>
        cases hc : a.eval x with
        | pointer A =>
          rw [hc] at ha
          cases ha with | ptr _ _ b cp ob h1 h2 => exact fun _ => Runs.pure hh rfl (.ptr _ _ b cp ob h1 h2)
        | _ => rw [hc] at ha; cases ha
      | func f p q =>
        cases hc : a.eval x with
        | func fn p' q' =>
          rw [hc] at ha
          cases ha with | func _ _ _ _ _ h1 h2 h3 h4 => exact fun _ => Runs.pure hh rfl (.func _ _ _ _ _ h1 h2 h3 h4)
        | _ => rw [hc] at ha; cases ha
      | p => trivial
      | rowf => trivial
      | row => trivial
      | eptr => trivial
      | rptr => trivial
      | agg => trivial
      | tuple => trivial
  | binOp op t x y ty =>
    simp only
    cases hY : isNilConst y with
    | true =>
      simp only
      cases hx : evalR e x with
      | none => trivial
      | some v => exact OpOk.of (evalNil_ok hT hh op t x (evalR_ok he hx) hY a)
    | false =>
      simp only
      cases hx : evalR e x with
      | none => trivial
      | some v => cases hy : evalR e y with
        | none => trivial
        | some u => exact OpOk.of (evalBin_ok hT hh op t x y (evalR_ok he hx) (evalR_ok he hy))
  | unOp op t x =>
    simp only
    cases hx : evalR e x with
    | none => trivial
    | some v => exact OpOk.of (evalUn_ok hh op (evalR_ok he hx))
  | convert s d x =>
    simp only
    cases hx : evalR e x with
    | none => trivial
    | some v => exact OpOk.of (evalConv_ok hT hh d s (evalR_ok he hx))
  | makeFunc fn first caps =>
    cases fn with
    | func f =>
      simp only
      cases h1 : evalRs e first.toList with
      | none => trivial
      | some u => cases h2 : evalRs e caps.toList with
        | none => trivial
        | some v =>
          obtain ⟨q1, q2⟩ := evalRs_args he h1
          obtain ⟨q3, q4⟩ := evalRs_args he h2
          exact OpOk.of (s := Instr.makeFunc (.func f) (first.map a.eval) (caps.map a.eval)) (StepOk.ok1 hh (by rfl) (.func f _ _ _ _ q1 q2 q3 q4))
    | method => trivial
    | methodOf => trivial
    | via => trivial
    | yield => trivial
  | makeSlice t l c =>
    simp only
    cases hx : evalR e l with
    | none => trivial
    | some v => cases hy : evalR e c with
      | none => trivial
      | some u => exact OpOk.of (evalMake_ok hT hh hn t (evalR_ok he hx) (evalR_ok he hy))
  | slice t x lo hi mx =>
    cases mx with
    | some m => trivial
    | none =>
      simp only
      cases hx : evalR e x with
      | none => trivial
      | some v =>
        simp only
        cases lo with
        | none => cases hi with
          | none => exact OpOk.of (evalSlice_ok hT hh t (evalR_ok he hx) (LO := none) (HI := none) trivial trivial)
          | some h =>
            simp only
            cases hh' : evalR e h with
            | none => trivial
            | some h' => exact OpOk.of (evalSlice_ok hT hh t (evalR_ok he hx) (LO := none) (HI := some h') trivial (evalR_ok he hh'))
        | some l => cases hi with
          | none =>
            simp only
            cases hl : evalR e l with
            | none => trivial
            | some l' => exact OpOk.of (evalSlice_ok hT hh t (evalR_ok he hx) (LO := some l') (HI := none) (evalR_ok he hl) trivial)
          | some h =>
            simp only
            cases hl : evalR e l with
            | none => trivial
            | some l' => cases hh' : evalR e h with
              | none => trivial
              | some h' => exact OpOk.of (evalSlice_ok hT hh t (evalR_ok he hx) (LO := some l') (HI := some h') (evalR_ok he hl) (evalR_ok he hh'))
  | fieldAddr s x f =>
    simp only
    cases hx : evalR e x with
    | none => trivial
    | some v => exact OpOk.of (evalFieldAddr_ok hT hh s f (evalR_ok he hx))
  | field s x f =>
    simp only
    cases hx : evalR e x with
    | none => trivial
    | some v => exact OpOk.of (evalField_ok hT hh s f (evalR_ok he hx))
  | indexAddr t x i =>
    simp only
    cases hx : evalR e x with
    | none => trivial
    | some v => cases hy : evalR e i with
      | none => trivial
      | some u => exact OpOk.of (evalIndexAddr_ok hT hh t (evalR_ok he hx) (evalR_ok he hy))
  | index t x i =>
    simp only
    cases hx : evalR e x with
    | none => trivial
    | some v => cases hy : evalR e i with
      | none => trivial
      | some u => exact OpOk.of (evalIndex_ok hT hh t (evalR_ok he hx) (evalR_ok he hy))
  | extract t i =>
    simp only
    cases hx : evalR e t with
    | none => trivial
    | some v =>
      have ha := evalR_ok he hx
      cases v with
      | tuple vs =>
        cases hc : a.eval t with
        | tuple cs =>
          rw [hc] at ha
          cases ha with | tuple _ _ h1 h2 =>
          simp only
          cases hv : vs[i]? with
          | none => trivial
          | some u =>
            have hlt : i < cs.size := by rw [h1]; exact (List.getElem?_eq_some_iff.1 hv).1
            exact OpOk.of (s := Instr.extract (.tuple cs) i) (StepOk.ok1 hh (c := cs.getD i undef) (by simp only [Instr.extract, getD_some hlt]; rfl) (h2 i u hv))
        | _ => rw [hc] at ha; cases ha
      | _ => trivial
  | call c =>
    simp only
    cases hcal : c.callee with
    | builtin b =>
      simp only
      cases hargs : evalRs e c.args.toList with
      | none => trivial
      | some as =>
        rcases evalBuiltin_ok (P := P) hT hh hn b c.argTypes o.type (c.args.map fun | .const _ => true | _ => false) (evalRs_args he hargs) with h | ⟨s, h1, h2⟩
        · simp only [h]
          trivial
        · have : (do let d ← resolve a.eval c o.type; invoke d.target d.args : Sem Next) = (do Pure.pure (Next.value (← s)) : Sem Next) := by
            rw [← h1]
            simp [resolve, hcal, invoke]
            rfl
          rw [this]
          exact OpOk.of h2
    | value f =>
      simp only
      cases hf : evalR e f with
      | none => trivial
      | some fv => cases hargs : evalRs e c.args.toList with
        | none => cases fv <;> trivial
        | some as =>
          have ha := evalR_ok he hf
          cases fv with
          | func fn first caps =>
            simp only [evalCall]
            cases hl : look Γ fn with
            | none => trivial
            | some ct =>
              cases hc : a.eval f with
              | func fn' p q =>
                rw [hc] at ha
                cases ha with | func _ _ _ _ _ h1 h2 h3 h4 =>
                refine ⟨fn, ct, _, _, hl, rfl, args_append (args_append ⟨h1, h2⟩ (evalRs_args he hargs)) ⟨h3, h4⟩, ?_⟩
                simp [resolve, hcal, Deferred.ofValue, hc, invoke]
              | _ => rw [hc] at ha; cases ha
          | _ => trivial
    | invoke r m => trivial
  | _ => trivial
end
end Go.Proofs.Ytjgmlkogppibfaa.Ev
