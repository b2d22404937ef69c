/- What each operation of the program comes to is what the reckoner says: things made. No conditions. -/
import Derived.Test.YtjgmlkogppibfaaEvMem
namespace Go.Proofs.Ytjgmlkogppibfaa.Ev
open Go
set_option linter.unusedVariables false
set_option linter.unusedSimpArgs false
section
variable {P : Program} {T : Tab} {k0 : Nat} {w : World} {F1 F2 : Nat → Prop} {ρ : Nat → Option (Nat × Nat)} {H : Hp}

theorem avr_cells {a : AV} {c : Value} (ha : AVR w F1 F2 ρ H a c) : c.cells.size = a.cells.length ∧ ∀ i v, a.cells[i]? = some v → AVR w F1 F2 ρ H v (c.cells.getD i undef) := by
  cases hv : a.one with
  | true =>
    obtain ⟨h1, h2, h3⟩ := cells_one ha hv
    rw [h2, h3]
    refine ⟨rfl, fun i v hi => ?_⟩
    cases i with
    | zero =>
      obtain rfl : a = v := by simpa using hi
      exact ha
    | succ i => simp at hi
  | false =>
    cases ha with
    | agg cs vs h1 h2 => exact ⟨h1, h2⟩
    | tuple cs vs h1 h2 =>
      refine ⟨rfl, fun i v hi => ?_⟩
      cases i with
      | zero =>
        obtain rfl : AV.tuple cs = v := by simpa [AV.cells] using hi
        exact .tuple cs vs h1 h2
      | succ i => simp [AV.cells] at hi
    | p => cases hv
    | rowf => cases hv
    | row => cases hv
    | ptr => cases hv
    | eptr => cases hv
    | rptr => cases hv
    | func => cases hv
theorem box_ok (hh : HeapR k0 w F1 F2 ρ H) {nx : Nat} (hn : H nx = none) (t : TypeId) {cs : List AV} {cv : Array Value} (hsz : cv.size = cs.length) (hc : ∀ i v, cs[i]? = some v → AVR w F1 F2 ρ H v (cv.getD i undef)) {s : Sem Value}
    (hs : s.run P w = .ok (.pointer (some ⟨w.heap.size, 0, none⟩)) (w.alloc (.cells cv t))) : VRuns P k0 w F1 F2 ρ H s (.ptr nx 0) [(nx, .box cs)] := by
  have hch := Chg.alloc (w' := w.alloc (.cells cv t)) (o := .box cs) hh hn rfl rfl rfl rfl 0 (fun tr => ⟨w.heap.size, 0, cv, t, updR_same _ _, heap_alloc_new w _, hsz, fun i v hi => (hc i v hi).mono tr hh.sub⟩)
  exact ⟨_, _, _, _, _, hs, hch, .ptr nx 0 w.heap.size 0 (.box cs) (by simp [upd, look_cons_same]) (updR_same _ _)⟩
theorem zeroCell_ok {v : Value} {x : PV} (h : zeroCell v x = true) (F : Nat → Prop) : PVR w F x v := by
  unfold zeroCell at h
  split at h
  · simp only [Bool.and_eq_true, decide_eq_true_eq] at h
    obtain ⟨h1, rfl⟩ := h
    rw [sameKind_eq h1]
    constructor
  · obtain rfl := eq_of_beq h
    constructor
  · rename_i s t
    simp only [Bool.and_eq_true] at h
    have h1 : s.data.toList = [] := List.eq_nil_of_length_eq_zero (Nat.eq_of_beq_eq_true h.1)
    have h2 : t.data.toList = [] := List.eq_nil_of_length_eq_zero (Nat.eq_of_beq_eq_true h.2)
    have : s = t := by
      cases s; cases t
      congr 1
      apply Array.ext'
      exact h1.trans h2.symm
    rw [this]
    constructor
  · constructor
  · constructor
  · cases h
theorem zeroCells_ok : ∀ {vs : List Value} {xs : List PV}, zeroCells vs xs = true → ∀ (F : Nat → Prop), vs.length = xs.length ∧ ∀ (i : Nat) (x : PV), xs[i]? = some x → ∃ v : Value, vs[i]? = some v ∧ PVR w F x v
  | [], [], _, F => ⟨rfl, fun i x hx => by simp at hx⟩
  | [], _ :: _, h, _ => by simp [Ev.zeroCells] at h
  | _ :: _, [], h, _ => by simp [Ev.zeroCells] at h
  | v :: r, x :: s, h, F => by
    simp only [Ev.zeroCells, Bool.and_eq_true] at h
    obtain ⟨h1, h2⟩ := zeroCells_ok h.2 F
    refine ⟨by simp [h1], fun i z hz => ?_⟩
    cases i with
    | zero =>
      obtain rfl : x = z := by simpa using hz
      exact ⟨v, by simp, zeroCell_ok h.1 F⟩
    | succ i => simpa using h2 i z (by simpa using hz)
theorem TyOk.zeroRun {t : TypeId} {d : TD} (h : TyOk P t d) (hz : d.zero ≠ []) (F : Nat → Prop) : ∃ z, (∀ w, (zeroValue t).run P w = .ok z w) ∧ (∃ i, P.info? t = some i ∧ i.zero = some z) ∧ z.cells.size = d.zero.length ∧ ∀ (i : Nat) (x : PV), d.zero[i]? = some x → PVR w F x (z.cells.getD i undef) := by
  obtain ⟨i, u, h1, _, _, _, _, h6⟩ := h.ex
  obtain ⟨z, h7, h8⟩ := h6 hz
  obtain ⟨h9, h10⟩ := zeroCells_ok (w := w) h8 F
  refine ⟨z, fun w => by simp [zeroValue, typeInfo, h1, h7], ⟨i, h1, h7⟩, by simpa using h9, fun j x hx => ?_⟩
  obtain ⟨v, h11, h12⟩ := h10 j x hx
  rw [getD_of_get h11]
  exact h12
theorem alloc_ok (hT : tabOk P T = true) (hh : HeapR k0 w F1 F2 ρ H) {nx : Nat} (hn : H nx = none) {t : TypeId} {d : TD} (ht : look T t = some d) (hz : d.zero ≠ []) :
    VRuns P k0 w F1 F2 ρ H (Instr.alloc t true (.tuple #[])) (.ptr nx 0) [(nx, .box (d.zero.map (AV.p true)))] := by
  obtain ⟨z, hz1, _, hz2, hz3⟩ := (tyOk hT ht).zeroRun (w := w) hz F2
  refine box_ok hh hn t (cv := z.cells) (by simpa using hz2) (fun i v hi => ?_) (by simp [Instr.alloc, hz1, newVar, newRow, newObj, Sem.run])
  rw [List.getElem?_map] at hi
  cases hx : d.zero[i]? with
  | none => simp [hx] at hi
  | some x =>
    simp only [hx, Option.map_some, Option.some.injEq] at hi
    subst hi
    exact .p true _ _ (hz3 i x hx)

/-! ### Structs -/
theorem setAt_length {α : Type _} : ∀ (l : List α) (n : Nat) (v : α), (setAt l n v).length = l.length
  | [], _, _ => rfl
  | _ :: _, 0, _ => rfl
  | _ :: r, n + 1, v => by simp [setAt, setAt_length r n v]
theorem setAt_get {α : Type _} : ∀ (l : List α) (n : Nat) (v : α) (i : Nat), (setAt l n v)[i]? = if i = n ∧ n < l.length then some v else l[i]?
  | [], n, v, i => by simp [setAt]
  | x :: r, 0, v, 0 => by simp [setAt]
  | x :: r, 0, v, i + 1 => by simp [setAt]
  | x :: r, n + 1, v, 0 => by simp [setAt]
  | x :: r, n + 1, v, i + 1 => by simp [setAt, setAt_get r n v i]
theorem setMany_length {α : Type _} : ∀ (vs : List α) (l : List α) (o : Nat), (setMany l o vs).length = l.length
  | [], l, o => rfl
  | v :: r, l, o => by rw [setMany, setMany_length r, setAt_length]
theorem setMany_get {α : Type _} : ∀ (vs : List α) (l : List α) (o i : Nat), o + vs.length ≤ l.length → (setMany l o vs)[i]? = if o ≤ i ∧ i < o + vs.length then vs[i - o]? else l[i]?
  | [], l, o, i, _ => by simp [setMany]; intro h1 h2; omega
  | v :: r, l, o, i, h => by
    simp only [List.length_cons] at h
    rw [setMany, setMany_get r _ _ _ (by rw [setAt_length]; omega), setAt_get]
    by_cases h1 : o + 1 ≤ i ∧ i < o + 1 + r.length
    · rw [if_pos h1, if_pos (by simp; omega), show i - o = (i - (o + 1)) + 1 by omega, List.getElem?_cons_succ]
    · rw [if_neg h1]
      by_cases h2 : i = o
      · subst h2
        simp
        intro h3; omega
      · rw [if_neg (by omega), if_neg (by simp; omega)]
def CellsR (w : World) (F1 F2 : Nat → Prop) (ρ : Nat → Option (Nat × Nat)) (H : Hp) (cs : List AV) (cv : Array Value) : Prop := cv.size = cs.length ∧ ∀ (i : Nat) (v : AV), cs[i]? = some v → AVR w F1 F2 ρ H v (cv.getD i undef)
/-- The model's own filling of a part's cells. -/
theorem fold_cells (vs : Array Value) (off : Nat) : ∀ (l : List Value) (s : Nat) (cs : Array Value), (∀ i, i < l.length → l[i]? = vs[s + i]?) → off + s + l.length ≤ cs.size →
    ((l.toArray.zipIdx s).foldl (fun cs (c, j) => cs.setIfInBounds (off + j) c) cs).size = cs.size ∧
    ∀ i, ((l.toArray.zipIdx s).foldl (fun cs (c, j) => cs.setIfInBounds (off + j) c) cs)[i]? = if off + s ≤ i ∧ i < off + s + l.length then vs[i - off]? else cs[i]?
  | [], s, cs, _, _ => by
    rw [← Array.foldl_toList]
    refine ⟨by simp, fun i => ?_⟩
    simp
    intro h1 h2
    omega
  | c :: r, s, cs, hv, hb => by
    simp only [List.length_cons] at hb
    obtain ⟨h1, h2⟩ := fold_cells vs off r (s + 1) (cs.setIfInBounds (off + s) c) (fun i hi => by have := hv (i + 1) (by simp; omega); simpa [show s + (i + 1) = s + 1 + i by omega] using this) (by simp; omega)
    have hstep : ((c :: r).toArray.zipIdx s).foldl (fun cs (c, j) => cs.setIfInBounds (off + j) c) cs = (r.toArray.zipIdx (s + 1)).foldl (fun cs (c, j) => cs.setIfInBounds (off + j) c) (cs.setIfInBounds (off + s) c) := by
      rw [← Array.foldl_toList, ← Array.foldl_toList]
      simp
    rw [hstep]
    refine ⟨by rw [h1]; simp, fun i => ?_⟩
    rw [h2 i]
    have h0 : some c = vs[s]? := by simpa using hv 0 (by simp)
    by_cases h3 : off + (s + 1) ≤ i ∧ i < off + (s + 1) + r.length
    · rw [if_pos h3, if_pos (by simp; omega)]
    · rw [if_neg h3]
      by_cases h4 : i = off + s
      · subst h4
        rw [if_pos (by simp), show off + s - off = s by omega, ← h0]
        simp [show off + s < cs.size by omega]
      · rw [if_neg (by simp; omega)]
        rw [Array.getElem?_setIfInBounds, if_neg (fun e => h4 e.symm)]

theorem fill_one {cs : List AV} {cv : Array Value} (hc : CellsR w F1 F2 ρ H cs cv) {v : AV} {c : Value} (hv : AVR w F1 F2 ρ H v c) {o : Nat} (hb : o + v.cells.length ≤ cs.length) :
    CellsR w F1 F2 ρ H (setMany cs o v.cells) (c.cells.zipIdx.foldl (fun cs (c, j) => cs.setIfInBounds (o + j) c) cv) := by
  obtain ⟨h1, h2⟩ := avr_cells hv
  obtain ⟨h3, h4⟩ := fold_cells c.cells o c.cells.toList 0 cv (fun i _ => by simp) (by have := hc.1; simp; omega)
  simp only [Nat.add_zero, Array.toArray_toList, Array.length_toList] at h3 h4
  refine ⟨by rw [setMany_length]; exact h3.trans hc.1, fun i x hx => ?_⟩
  rw [setMany_get _ _ _ _ hb] at hx
  rw [Array.getD_eq_getD_getElem?, h4 i]
  by_cases h5 : o ≤ i ∧ i < o + v.cells.length
  · rw [if_pos h5] at hx
    rw [if_pos (by omega), ← Array.getD_eq_getD_getElem?]
    exact h2 _ x hx
  · rw [if_neg h5] at hx
    rw [if_neg (by omega), ← Array.getD_eq_getD_getElem?]
    exact hc.2 i x hx
theorem evalParts_ok {e : Env} {a : Act} (he : EnvR w F1 F2 ρ H e a) : ∀ {ps : List (Nat × Operand)} {vs : List (Nat × AV)}, evalParts e ps = some vs → vs.length = ps.length ∧ ∀ (i j : Nat) (v : AV), vs[i]? = some (j, v) → ∃ x : Operand, ps[i]? = some (j, x) ∧ AVR w F1 F2 ρ H v (a.eval x)
  | [], vs, h => by
    obtain rfl : [] = vs := by simpa [evalParts] using h
    exact ⟨rfl, fun i j v hv => by simp at hv⟩
  | (k, x) :: r, vs, h => by
    unfold evalParts at h
    cases h1 : evalR e x with
    | none => simp [h1] at h
    | some b =>
      cases h2 : evalParts e r with
      | none => simp [h1, h2] at h
      | some c =>
        simp only [h1, h2, Option.some.injEq] at h
        subst h
        obtain ⟨h3, h4⟩ := evalParts_ok he h2
        refine ⟨by simp [h3], fun i j v hv => ?_⟩
        cases i with
        | zero =>
          obtain ⟨rfl, rfl⟩ : k = j ∧ b = v := by simpa using hv
          exact ⟨x, by simp, evalR_ok he h1⟩
        | succ i => simpa using h4 i j v (by simpa using hv)
theorem fillParts_ok {gs : List (Nat × Nat × Bool)} {place : Nat → Option (Nat × Nat)} (hp : ∀ (j o n : Nat) (g : Bool), gs[j]? = some (o, n, g) → place j = some (o, n)) :
    ∀ {ps : List (Nat × AV)} {vs : List (Nat × Value)} {cs cs' : List AV} {cv : Array Value}, vs.length = ps.length → (∀ (i j : Nat) (v : AV), ps[i]? = some (j, v) → ∃ c : Value, vs[i]? = some (j, c) ∧ AVR w F1 F2 ρ H v c) →
      CellsR w F1 F2 ρ H cs cv → fillParts gs cs ps = some cs' → ∃ cv', Instr.fill place cv vs = some cv' ∧ CellsR w F1 F2 ρ H cs' cv'
  | [], [], cs, cs', cv, _, _, hc, h => by
    obtain rfl : cs = cs' := by simpa [fillParts] using h
    exact ⟨cv, rfl, hc⟩
  | [], _ :: _, _, _, _, hl, _, _, _ => by simp at hl
  | _ :: _, [], _, _, _, hl, _, _, _ => by simp at hl
  | (i, v) :: r, (i', c) :: s, cs, cs', cv, hl, hv, hc, h => by
    obtain ⟨c', h1, h2⟩ := hv 0 i v (by simp)
    obtain ⟨rfl, rfl⟩ : i' = i ∧ c = c' := by simpa using h1
    unfold fillParts at h
    cases hg : gs[i']? with
    | none => simp [hg] at h
    | some x =>
      obtain ⟨o, n, g⟩ := x
      simp only [hg] at h
      split at h
      · rename_i hb
        simp only [Bool.and_eq_true] at hb
        have hn := Nat.eq_of_beq_eq_true hb.1
        have hle := Nat.le_of_ble_eq_true hb.2
        subst hn
        obtain ⟨hs1, _⟩ := avr_cells h2
        have hf := fill_one hc h2 (o := o) hle
        obtain ⟨cv', h3, h4⟩ := fillParts_ok hp (ps := r) (vs := s) (by simpa using hl) (fun i j v h => by simpa using hv (i + 1) j v (by simpa using h)) hf h
        refine ⟨cv', ?_, h4⟩
        have hsz := hc.1
        unfold Instr.fill
        rw [hp i' o _ g hg]
        simp only [hs1]
        rw [if_neg (by simp; omega)]
        exact h3
      · cases h
theorem places_ok : ∀ {fs : List Field} {gs : List (Nat × Nat × Bool)}, fieldsOk P fs gs = true → ∃ places : List (Nat × Nat), fs.mapM (fun f => (P.info? f.type).map fun i => (f.offset, i.size)) = some places ∧
      ∀ (j o n : Nat) (g : Bool), gs[j]? = some (o, n, g) → places[j]? = some (o, n)
  | [], [], _ => ⟨[], rfl, fun j o n g h => by simp at h⟩
  | [], _ :: _, h => by simp [fieldsOk] at h
  | _ :: _, [], h => by simp [fieldsOk] at h
  | f :: r, (o', n', g') :: s, h => by
    obtain ⟨f', hf', h1, _, _, i, h2, h3⟩ := fieldsOk_get h (j := 0) (o := o') (n := n') (g := g') (by simp)
    obtain rfl : f = f' := by simpa using hf'
    have h4 : fieldsOk P r s = true := by
      simp only [fieldsOk, Bool.and_eq_true] at h
      exact h.2
    obtain ⟨places, h5, h6⟩ := places_ok h4
    refine ⟨(o', n') :: places, by simp [List.mapM_cons, h2, h5, h1, h3], fun j o n g hj => ?_⟩
    cases j with
    | zero =>
      obtain ⟨rfl, rfl, rfl⟩ : o' = o ∧ n' = n ∧ g' = g := by simpa using hj
      simp
    | succ j => simpa using h6 j o n g (by simpa using hj)
theorem build_ok (hT : tabOk P T = true) (hh : HeapR k0 w F1 F2 ρ H) {e : Env} {a : Act} (he : EnvR w F1 F2 ρ H e a) (t : TypeId) (parts : Array (Nat × Operand)) {ps : List (Nat × AV)} (hps : evalParts e parts.toList = some ps) :
    StepOk P k0 w F1 F2 ρ H (Instr.build t (parts.map fun (i, x) => (i, a.eval x))) (evalBuild T t ps) := by
  unfold evalBuild
  split
  · rename_i d ht
    have hty := tyOk hT ht
    split
    · rename_i fs hk
      obtain ⟨fields, hu, hf⟩ := hty.struct hk
      split
      · rename_i cs z0 zr hcs hzz
        intro _
        obtain ⟨hl, hv⟩ := evalParts_ok he hps
        have hvl : ((parts.map fun (i, x) => (i, a.eval x)).toList).length = ps.length := by simpa using hl.symm
        have hvv : ∀ (i j : Nat) (v : AV), ps[i]? = some (j, v) → ∃ c : Value, ((parts.map fun (i, x) => (i, a.eval x)).toList)[i]? = some (j, c) ∧ AVR w F1 F2 ρ H v c := fun i j v h => by
          obtain ⟨x, h1, h2⟩ := hv i j v h
          refine ⟨a.eval x, ?_, h2⟩
          rw [Array.toList_map, List.getElem?_map, h1]
          rfl
        have hz : d.zero ≠ [] := by rw [hzz]; simp
        obtain ⟨z, hz1, ⟨it, hit, hiz⟩, hz2, hz3⟩ := hty.zeroRun (w := w) hz F2
        have hc0 : CellsR w F1 F2 ρ H (d.zero.map (AV.p true)) z.cells := ⟨by simpa using hz2, fun i v hi => by
          rw [List.getElem?_map] at hi
          cases hx : d.zero[i]? with
          | none => simp [hx] at hi
          | some x =>
            simp only [hx, Option.map_some, Option.some.injEq] at hi
            subst hi
            exact .p true _ _ (hz3 i x hx)⟩
        obtain ⟨places, hp1, hp2⟩ := places_ok hf
        obtain ⟨cv', h3, h4⟩ := fillParts_ok (place := fun i => places.toArray[i]?) (fun j o n g h => by simpa using hp2 j o n g h) hvl hvv hc0 hcs
        have hb : P.built t (parts.map fun (i, x) => (i, a.eval x)).toList = some cv' := by
          unfold Program.built
          rw [hit, hu]
          simp only [hiz, hp1]
          exact h3
        exact VRuns.pure hh (run_build w t _ cv' hb) (.agg _ _ h4.1 h4.2)
      · trivial
    · trivial
  · trivial

/-! ### Slices of parts -/
def flatV (cvs : List Value) : List Value := cvs.flatMap fun c => c.cells.toList
theorem flatV_length {sz : Nat} : ∀ {cvs : List Value}, (∀ c ∈ cvs, c.cells.size = sz) → (flatV cvs).length = cvs.length * sz
  | [], _ => by simp [flatV]
  | c :: r, h => by
    have h1 := flatV_length (cvs := r) (fun x hx => h x (by simp [hx]))
    have h2 := h c (by simp)
    simp only [flatV, List.flatMap_cons, List.length_append, List.length_cons, Nat.add_mul, Array.length_toList] at h1 ⊢
    omega
theorem fill_seq (sz : Nat) : ∀ (cvs : List Value) (n : Nat) (cells : Array Value), (∀ c ∈ cvs, c.cells.size = sz) → (n + cvs.length) * sz ≤ cells.size →
    ∃ cells', Instr.fill (fun i => some (i * sz, sz)) cells ((cvs.zipIdx n).map fun x => (x.2, x.1)) = some cells' ∧ cells'.size = cells.size ∧
      ∀ k, cells'[k]? = if n * sz ≤ k ∧ k < (n + cvs.length) * sz then (flatV cvs)[k - n * sz]? else cells[k]?
  | [], n, cells, _, _ => ⟨cells, rfl, rfl, fun k => by simp; intro h1 h2; omega⟩
  | c :: r, n, cells, h, hb => by
    have hc := h c (by simp)
    simp only [List.length_cons] at hb
    have e1 : (n + (r.length + 1)) * sz = n * sz + sz + r.length * sz := by rw [Nat.add_mul, Nat.add_mul]; omega
    have e2 : (n + 1 + r.length) * sz = n * sz + sz + r.length * sz := by rw [Nat.add_mul, Nat.add_mul]; omega
    have e3 : (n + 1) * sz = n * sz + sz := by rw [Nat.add_mul]; omega
    obtain ⟨f1, f2⟩ := fold_cells c.cells (n * sz) c.cells.toList 0 cells (fun i _ => by simp) (by simp; omega)
    simp only [Nat.add_zero, Array.toArray_toList, Array.length_toList] at f1 f2
    obtain ⟨cells', h1, h2, h3⟩ := fill_seq sz r (n + 1) _ (fun x hx => h x (by simp [hx])) (by rw [f1]; omega)
    refine ⟨cells', ?_, h2.trans f1, fun k => ?_⟩
    · simp only [List.zipIdx_cons, List.map_cons]
      unfold Instr.fill
      simp only [hc]
      rw [if_neg (by simp; omega)]
      exact h1
    · rw [h3 k]
      simp only [List.length_cons]
      have hfv : flatV (c :: r) = c.cells.toList ++ flatV r := by simp [flatV]
      by_cases hk : (n + 1) * sz ≤ k ∧ k < (n + 1 + r.length) * sz
      · rw [if_pos hk, if_pos (by omega), hfv, List.getElem?_append_right (by simp; omega)]
        congr 1
        simp
        omega
      · rw [if_neg hk, f2 k]
        by_cases hk2 : n * sz ≤ k ∧ k < n * sz + c.cells.size
        · rw [if_pos hk2, if_pos (by omega), hfv, List.getElem?_append_left (by simp; omega)]
          simp
        · rw [if_neg hk2, if_neg (by omega)]
theorem inOrder_ok : ∀ {ps : List (Nat × AV)} {n : Nat} {vs : List AV}, inOrder n ps = some vs → vs.length = ps.length ∧ ∀ (i j : Nat) (v : AV), ps[i]? = some (j, v) → j = n + i ∧ vs[i]? = some v
  | [], n, vs, h => by
    obtain rfl : [] = vs := by simpa [inOrder] using h
    exact ⟨rfl, fun i j v hv => by simp at hv⟩
  | (k, v) :: r, n, vs, h => by
    unfold inOrder at h
    cases hb : Nat.beq k n with
    | false => simp [hb] at h
    | true =>
      cases hr : inOrder (n + 1) r with
      | none => simp [hb, hr] at h
      | some l =>
        simp only [hb, hr, Option.some.injEq] at h
        subst h
        obtain rfl := Nat.eq_of_beq_eq_true hb
        obtain ⟨h1, h2⟩ := inOrder_ok hr
        refine ⟨by simp [h1], fun i j x hx => ?_⟩
        cases i with
        | zero =>
          obtain ⟨rfl, rfl⟩ : k = j ∧ v = x := by simpa using hx
          simp
        | succ i =>
          obtain ⟨h3, h4⟩ := h2 i j x (by simpa using hx)
          exact ⟨by omega, by simpa using h4⟩
theorem viewPV_rows {a : AV} {fr : Bool} {v : PV} {l : List Nat} (h : viewPV H k0 a = some (fr, v, l)) : ∀ i ∈ l, ∃ e sz fr fz els, H i = some (.row e sz fr fz els) := by
  unfold viewPV at h
  split at h
  · obtain ⟨_, h3⟩ := Prod.mk.inj (Option.some.inj h)
    obtain ⟨_, rfl⟩ := Prod.mk.inj h3
    intro i hi
    cases hi
  · rename_i q
    cases hH : H q with
    | none => simp [hH] at h
    | some o => cases o with
      | box => simp [hH] at h
      | gone => simp [hH] at h
      | row e sz fr fz els =>
        simp only [hH, Option.some.injEq, Prod.mk.injEq] at h
        obtain ⟨_, _, rfl⟩ := h
        intro i hi
        obtain rfl : i = q := by simpa using hi
        exact ⟨e, sz, fr, fz, els, hH⟩
  · rename_i q off n
    cases hH : H q with
    | none => simp [hH] at h
    | some o => cases o with
      | box => simp [hH] at h
      | gone => simp [hH] at h
      | row e sz fr fz els =>
        simp only [hH, Option.some.injEq, Prod.mk.injEq] at h
        obtain ⟨_, _, rfl⟩ := h
        intro i hi
        obtain rfl : i = q := by simpa using hi
        exact ⟨e, sz, fr, fz, els, hH⟩
  · cases h
theorem viewPVs_rows : ∀ {as : List AV} {fr : Bool} {vs : List PV} {l : List Nat}, viewPVs H k0 as = some (fr, vs, l) → ∀ i ∈ l, ∃ e sz fr fz els, H i = some (.row e sz fr fz els)
  | [], fr, vs, l, h => by
    simp only [viewPVs, Option.some.injEq, Prod.mk.injEq] at h
    obtain ⟨_, _, rfl⟩ := h
    intro i hi
    cases hi
  | a :: r, fr, vs, l, h => by
    unfold viewPVs at h
    cases hv : viewPV H k0 a with
    | none => simp [hv] at h
    | some x =>
      cases hr : viewPVs H k0 r with
      | none => simp [hv, hr] at h
      | some y =>
        obtain ⟨f, v, l1⟩ := x
        obtain ⟨g, us, l2⟩ := y
        simp only [hv, hr, Option.some.injEq, Prod.mk.injEq] at h
        obtain ⟨_, _, rfl⟩ := h
        intro i hi
        rcases List.mem_append.1 hi with h1 | h1
        · exact viewPV_rows hv i h1
        · exact viewPVs_rows hr i h1
theorem viewEl_rows {a : AV} {fr : Bool} {v : PV} {l : List Nat} (h : viewEl H k0 a = some (fr, v, l)) : ∀ i ∈ l, ∃ e sz fr fz els, H i = some (.row e sz fr fz els) := by
  unfold viewEl at h
  split at h
  · rename_i cs
    cases hvs : viewPVs H k0 cs with
    | none => simp [hvs] at h
    | some y =>
      obtain ⟨g, us, l2⟩ := y
      simp only [hvs, Option.some.injEq, Prod.mk.injEq] at h
      obtain ⟨_, _, rfl⟩ := h
      exact viewPVs_rows hvs
  · exact viewPV_rows h
theorem viewEls_rows : ∀ {as : List AV} {fr : Bool} {vs : List PV} {l : List Nat}, viewEls H k0 as = some (fr, vs, l) → ∀ i ∈ l, ∃ e sz fr fz els, H i = some (.row e sz fr fz els)
  | [], fr, vs, l, h => by
    simp only [viewEls, Option.some.injEq, Prod.mk.injEq] at h
    obtain ⟨_, _, rfl⟩ := h
    intro i hi
    cases hi
  | a :: r, fr, vs, l, h => by
    unfold viewEls at h
    cases hv : viewEl H k0 a with
    | none => simp [hv] at h
    | some x =>
      cases hr : viewEls H k0 r with
      | none => simp [hv, hr] at h
      | some y =>
        obtain ⟨f, v, l1⟩ := x
        obtain ⟨g, us, l2⟩ := y
        simp only [hv, hr, Option.some.injEq, Prod.mk.injEq] at h
        obtain ⟨_, _, rfl⟩ := h
        intro i hi
        rcases List.mem_append.1 hi with h1 | h1
        · exact viewEl_rows hv i h1
        · exact viewEls_rows hr i h1
/-- What an element shows. -/
def ElR (w : World) (F : Nat → Prop) (x : PV) (c : Value) : Prop := c.cells.size = x.cells.length ∧ ∀ (i : Nat) (v : PV), x.cells[i]? = some v → PVR w F v (c.cells.getD i undef)
theorem ElR.one {F : Nat → Prop} {v : PV} {c : Value} (h : PVR w F v c) : ElR w F v c := by
  refine ⟨by rw [h.vcells, h.cells1]; rfl, fun i x hx => ?_⟩
  rw [h.vcells]
  rw [h.cells1] at hx
  cases i with
  | zero =>
    obtain rfl : v = x := by simpa using hx
    exact h
  | succ i => simp at hx
section views
variable (hh : HeapR k0 w F1 F2 ρ H) (G1 G2 : Nat → Prop) (h1 : ∀ b, F1 b → G1 b) (h2 : ∀ b, F2 b → G2 b) (hG : ∀ b, G2 b → G1 b)
include hh h1 h2 hG
theorem viewPVs_ok : ∀ {as : List AV} {fr : Bool} {vs : List PV} {l : List Nat}, viewPVs H k0 as = some (fr, vs, l) → ∀ (cs : Nat → Value), (∀ (i : Nat) (a : AV), as[i]? = some a → AVR w F1 F2 ρ H a (cs i)) →
    (∀ h ∈ l, ∀ b cp, ρ h = some (b, cp) → G1 b) → (∀ h ∈ l, k0 ≤ h → ∀ b cp, ρ h = some (b, cp) → G2 b) → vs.length = as.length ∧ ∀ (i : Nat) (v : PV), vs[i]? = some v → PVR w (flagF fr G1 G2) v (cs i)
  | [], fr, vs, l, h, cs, _, _, _ => by
    simp only [viewPVs, Option.some.injEq, Prod.mk.injEq] at h
    obtain ⟨rfl, rfl, rfl⟩ := h
    exact ⟨rfl, fun i v hv => by simp at hv⟩
  | a :: r, fr, vs, l, h, cs, hc, hl1, hl2 => by
    unfold viewPVs at h
    cases hv : viewPV H k0 a with
    | none => simp [hv] at h
    | some x =>
      obtain ⟨f, v, l1⟩ := x
      cases hr : viewPVs H k0 r with
      | none => simp [hv, hr] at h
      | some y =>
        obtain ⟨g, us, l2⟩ := y
        simp only [hv, hr, Option.some.injEq, Prod.mk.injEq] at h
        obtain ⟨rfl, rfl, rfl⟩ := h
        have e1 := viewPV_ok2 hh (hc 0 a (by simp)) hv G1 G2 h1 h2 (fun h hm => hl1 h (by simp [hm])) (fun h hm => hl2 h (by simp [hm]))
        obtain ⟨e2, e3⟩ := viewPVs_ok hr (fun i => cs (i + 1)) (fun i a' ha' => hc (i + 1) a' (by simpa using ha')) (fun h hm => hl1 h (by simp [hm])) (fun h hm => hl2 h (by simp [hm]))
        have hfl : ∀ (q' : Bool), ((f && g) = true → q' = true) → ∀ b, flagF q' G1 G2 b → flagF (f && g) G1 G2 b := by
          intro q' hq b hb
          cases hfg : (f && g) with
          | true => rw [hq hfg] at hb; exact hb
          | false => cases q' with
            | true => exact hG b hb
            | false => exact hb
        refine ⟨by simp [e2], fun i u hu => ?_⟩
        cases i with
        | zero =>
          obtain rfl : v = u := by simpa using hu
          exact e1.mono (fun _ _ => rfl) (hfl f (fun h => by simp at h; exact h.1))
        | succ i => exact (e3 i u (by simpa using hu)).mono (fun _ _ => rfl) (hfl g (fun h => by simp at h; exact h.2))
theorem viewEl_ok {a : AV} {fr : Bool} {x : PV} {l : List Nat} (h : viewEl H k0 a = some (fr, x, l)) {c : Value} (ha : AVR w F1 F2 ρ H a c)
    (hl1 : ∀ h ∈ l, ∀ b cp, ρ h = some (b, cp) → G1 b) (hl2 : ∀ h ∈ l, k0 ≤ h → ∀ b cp, ρ h = some (b, cp) → G2 b) : ElR w (flagF fr G1 G2) x c := by
  unfold viewEl at h
  split at h
  · rename_i cs
    cases ha with | agg _ vs hsz hv =>
    cases hvs : viewPVs H k0 cs with
    | none => simp [hvs] at h
    | some y =>
      obtain ⟨f, us, l'⟩ := y
      simp only [hvs, Option.some.injEq, Prod.mk.injEq] at h
      obtain ⟨rfl, rfl, rfl⟩ := h
      obtain ⟨e1, e2⟩ := viewPVs_ok hh G1 G2 h1 h2 hG hvs (fun i => vs.getD i undef) hv hl1 hl2
      exact ⟨by show vs.size = us.length; omega, e2⟩
  · exact ElR.one (viewPV_ok2 hh ha h G1 G2 h1 h2 hl1 hl2)
theorem viewEls_ok : ∀ {as : List AV} {fr : Bool} {vs : List PV} {l : List Nat}, viewEls H k0 as = some (fr, vs, l) → ∀ (cs : List Value), cs.length = as.length → (∀ (i : Nat) (a : AV), as[i]? = some a → ∃ c : Value, cs[i]? = some c ∧ AVR w F1 F2 ρ H a c) →
    (∀ h ∈ l, ∀ b cp, ρ h = some (b, cp) → G1 b) → (∀ h ∈ l, k0 ≤ h → ∀ b cp, ρ h = some (b, cp) → G2 b) → vs.length = as.length ∧ ∀ (i : Nat) (v : PV), vs[i]? = some v → ∃ c : Value, cs[i]? = some c ∧ ElR w (flagF fr G1 G2) v c
  | [], fr, vs, l, h, cs, _, _, _, _ => by
    simp only [viewEls, Option.some.injEq, Prod.mk.injEq] at h
    obtain ⟨rfl, rfl, rfl⟩ := h
    exact ⟨rfl, fun i v hv => by simp at hv⟩
  | a :: r, fr, vs, l, h, [], hlen, _, _, _ => by simp at hlen
  | a :: r, fr, vs, l, h, c :: cs, hlen, hc, hl1, hl2 => by
    unfold viewEls at h
    cases hv : viewEl H k0 a with
    | none => simp [hv] at h
    | some x =>
      obtain ⟨f, v, l1⟩ := x
      cases hr : viewEls H k0 r with
      | none => simp [hv, hr] at h
      | some y =>
        obtain ⟨g, us, l2⟩ := y
        simp only [hv, hr, Option.some.injEq, Prod.mk.injEq] at h
        obtain ⟨rfl, rfl, rfl⟩ := h
        obtain ⟨c', hc1, hc2⟩ := hc 0 a (by simp)
        obtain rfl : c = c' := by simpa using hc1
        have e1 := viewEl_ok hh G1 G2 h1 h2 hG hv hc2 (fun h hm => hl1 h (by simp [hm])) (fun h hm => hl2 h (by simp [hm]))
        obtain ⟨e2, e3⟩ := viewEls_ok hr cs (by simpa using hlen) (fun i a' ha' => by simpa using hc (i + 1) a' (by simpa using ha')) (fun h hm => hl1 h (by simp [hm])) (fun h hm => hl2 h (by simp [hm]))
        have hfl : ∀ (q' : Bool), ((f && g) = true → q' = true) → ∀ b, flagF q' G1 G2 b → flagF (f && g) G1 G2 b := by
          intro q' hq b hb
          cases hfg : (f && g) with
          | true => rw [hq hfg] at hb; exact hb
          | false => cases q' with
            | true => exact hG b hb
            | false => exact hb
        refine ⟨by simp [e2], fun i u hu => ?_⟩
        cases i with
        | zero =>
          obtain rfl : v = u := by simpa using hu
          exact ⟨c, by simp, e1.1, fun i x hx => (e1.2 i x hx).mono (fun _ _ => rfl) (hfl f (fun h => by simp at h; exact h.1))⟩
        | succ i =>
          obtain ⟨c2, h3, h4⟩ := e3 i u (by simpa using hu)
          exact ⟨c2, by simpa using h3, h4.1, fun i x hx => (h4.2 i x hx).mono (fun _ _ => rfl) (hfl g (fun h => by simp at h; exact h.2))⟩
end views
end
end Go.Proofs.Ytjgmlkogppibfaa.Ev
