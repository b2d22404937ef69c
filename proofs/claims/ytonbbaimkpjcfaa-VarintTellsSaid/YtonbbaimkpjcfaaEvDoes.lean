/- What a contract says of the machine's call; names changed. No conditions. -/
import Derived.Test.YtonbbaimkpjcfaaEvDraw
/-! ## What a contract says of the machine's call; names changed. No conditions. -/
namespace Go.Proofs.Ytonbbaimkpjcfaa.Ev
open Go
set_option linter.unusedVariables false
set_option linter.unusedSimpArgs false

/-- The blocks of what was lent. -/
def LentB (ρ : Pl) (H : Hp) (b : Nat) : Prop := ∃ h o, H h = some o ∧ Own ρ h o b
/-- What holds after a call. -/
structure Fin (k : Nat) (w : World) (F1 F2 : Nat → Prop) (ρ : Pl) (H : Hp) (cv : Value) (w' : World) (v : AV) (H' : Hp) (F1' F2' : Nat → Prop) (ρ' : Pl) : Prop where
  heap : HeapR k w' F1' F2' ρ' H'
  res : AVR w' F1' F2' ρ' H' v cv
  os : w'.os = w.os
  tape : w'.tape = w.tape
  output : w'.output = w.output
  size : w.heap.size ≤ w'.heap.size
  wr : ∀ b, b < w.heap.size → ¬ LentB ρ H b → w'.heap[b]? = w.heap[b]?
  blk : ∀ b, F1 b → w'.heap[b]? = w.heap[b]?
  f1 : ∀ b, F1 b → F1' b
  g1 : ∀ b, F1' b → F1 b ∨ w.heap.size ≤ b ∨ LentB ρ H b
  f2 : ∀ b, F2 b → F2' b
  g2 : ∀ b, F2' b → F2 b ∨ w.heap.size ≤ b ∨ LentB ρ H b
  rho : ∀ h o o', h < k → H h = some o → H' h = some o' → ρ' h = ρ h
  own : ∀ h o b, H' h = some o → Own ρ' h o b → w.heap.size ≤ b ∨ LentB ρ H b
  nor : ∀ h e sz ie els, H' h = some (.tree e sz ie els) → ∀ i j z, tcAt els i j ≠ some (.ref z)
/-- A contract holds of the machine's calls. -/
def Sound (P : Program) (f : FuncId) (c : Ctr) : Prop := ∀ x, c.pre x → ∀ (w : World) (F1 F2 : Nat → Prop) (ρ : Pl) (cs : Array Value), HeapR c.k w F1 F2 ρ (look (c.heap x)) → ArgsR w F1 F2 ρ (look (c.heap x)) (c.args x) cs →
  (∀ h o, look (c.heap x) h = some o → h < c.k) →
  Calls P f cs w fun e w' => ∃ cv F1' F2' ρ', e = .returned cv ∧ Fin c.k w F1 F2 ρ (look (c.heap x)) cv w' (c.res x) (look (c.heap' x)) F1' F2' ρ'

section
variable {w : World} {F1 F2 F1' F2' : Nat → Prop} {ρ ρ' : Pl} {H H' : Hp} {g : Nat → Nat}
theorem renO_row {o : Ob} {e : TypeId} {sz : Nat} {fr fz : Bool} {els : List PV} (h : renO g o = .row e sz fr fz els) : o = .row e sz fr fz els := by
  cases o with
  | row => exact h
  | box => cases h
  | tree => cases h
  | gone => cases h
theorem renO_tree {o : Ob} {e sz ie : Nat} {els : List (List TC)} (h : renO g o = .tree e sz ie els) : o = .tree e sz ie els := by
  cases o with
  | tree => exact h
  | row => cases h
  | box => cases h
  | gone => cases h
theorem AVR.ren (hdom : ∀ i o, H i = some o → H' (g i) = some (renO g o) ∧ ρ' (g i) = ρ i) (h2 : ∀ b, F2 b → F2' b) : ∀ (n : Nat) (v : AV) (c : Value), deepV n v = true → ((∀ b, F1 b → F1' b) ∨ trueV n v = true) → AVR w F1 F2 ρ H v c → AVR w F1' F2' ρ' H' (renV g n v) c := by
  intro n
  induction n with
  | zero => intro v c h; cases h
  | succ n ih =>
    intro v c hd hfl h
    have hflag : ∀ fr, ((∀ b, F1 b → F1' b) ∨ fr = true) → ∀ b, flagF fr F1 F2 b → flagF fr F1' F2' b := by
      intro fr hf b hb
      cases fr with
      | true => exact h2 b hb
      | false => exact hf.elim (fun h => h b hb) (fun h => by cases h)
    have hlist : ∀ (l : List AV) (vs : Array Value), l.all (deepV n) = true → ((∀ b, F1 b → F1' b) ∨ l.all (trueV n) = true) → vs.size = l.length → (∀ i v, l[i]? = some v → AVR w F1 F2 ρ H v (vs.getD i undef)) →
        vs.size = (l.map (renV g n)).length ∧ ∀ i v, (l.map (renV g n))[i]? = some v → AVR w F1' F2' ρ' H' v (vs.getD i undef) := by
      intro l vs hl hf hs hv
      refine ⟨by simpa using hs, fun i v hi => ?_⟩
      rw [List.getElem?_map] at hi
      cases hli : l[i]? with
      | none => rw [hli] at hi; cases hi
      | some u =>
        rw [hli] at hi
        obtain rfl := Option.some.inj hi
        have hmem := List.mem_of_getElem? hli
        exact ih u _ (List.all_eq_true.1 hl u hmem) (hf.imp id fun h => List.all_eq_true.1 h u hmem) (hv i u hli)
    cases h with
    | p fr v c h => exact .p fr v c (h.mono (fun _ _ => rfl) (hflag fr (hfl.imp id fun h => by simpa [trueV] using h)))
    | rowf h c o ho hsl hr hr2 =>
      obtain ⟨h3, h4⟩ := hdom h o ho
      refine .rowf (g h) c _ h3 hsl (fun e sz fr fz els he => ?_) fun e sz ie els he => ?_
      · rw [h4]
        exact hr e sz fr fz els (renO_row he)
      · rw [h4]
        exact hr2 e sz ie els (renO_tree he)
    | row h off m c o ho hsl hr =>
      obtain ⟨h3, h4⟩ := hdom h o ho
      refine .row (g h) off m c _ h3 hsl fun e sz fr fz els he => ?_
      rw [h4]
      exact hr e sz fr fz els (renO_row he)
    | ptr h off b cp o ho hr =>
      obtain ⟨h3, h4⟩ := hdom h o ho
      exact .ptr (g h) off b cp _ h3 (by rw [h4]; exact hr)
    | eptr fr cs ad hsp hf hc =>
      have hq := hflag fr (hfl.imp id fun h => by simpa [trueV] using h)
      refine .eptr fr cs ad hsp (hq _ hf) fun i v hv => ?_
      obtain ⟨c, h3, h4⟩ := hc i v hv
      exact ⟨c, h3, h4.mono (fun _ _ => rfl) hq⟩
    | rptr h i off c o ho hsl hr hr2 =>
      obtain ⟨h3, h4⟩ := hdom h o ho
      refine .rptr (g h) i off c _ h3 hsl (fun e sz fr fz els he => ?_) fun e sz ie els he => ?_
      · rw [h4]
        exact hr e sz fr fz els (renO_row he)
      · rw [h4]
        exact hr2 e sz ie els (renO_tree he)
    | func f first caps fv cv h3 h4 h5 h6 =>
      simp only [deepV, Bool.and_eq_true] at hd
      have hf1 : (∀ b, F1 b → F1' b) ∨ first.all (trueV n) = true := hfl.imp id fun h => by simp only [trueV, Bool.and_eq_true] at h; exact h.1
      have hf2 : (∀ b, F1 b → F1' b) ∨ caps.all (trueV n) = true := hfl.imp id fun h => by simp only [trueV, Bool.and_eq_true] at h; exact h.2
      obtain ⟨q1, q2⟩ := hlist first fv hd.1 hf1 h3 h4
      obtain ⟨q3, q4⟩ := hlist caps cv hd.2 hf2 h5 h6
      exact .func f _ _ fv cv q1 q2 q3 q4
    | agg cs vs h3 h4 =>
      obtain ⟨q1, q2⟩ := hlist cs vs (by simpa only [deepV] using hd) (hfl.imp id fun h => by simpa only [trueV] using h) h3 h4
      exact .agg _ vs q1 q2
    | tuple cs vs h3 h4 =>
      obtain ⟨q1, q2⟩ := hlist cs vs (by simpa only [deepV] using hd) (hfl.imp id fun h => by simpa only [trueV] using h) h3 h4
      exact .tuple _ vs q1 q2
theorem deepH_mem : ∀ {l : List (Nat × Ob)}, deepH l = true → ∀ i cs, (i, Ob.box cs) ∈ l → cs.all (deepV 5) = true
  | [], _, i, cs, h => by cases h
  | (j, o) :: r, hd, i, cs, h => by
    simp only [deepH, Bool.and_eq_true] at hd
    rcases List.mem_cons.1 h with he | he
    · obtain ⟨rfl, rfl⟩ := Prod.mk.inj he
      exact hd.1
    · exact deepH_mem hd.2 i cs he
theorem trueH_box : ∀ {l : List (Nat × Ob)}, trueH l = true → ∀ i cs, (i, Ob.box cs) ∈ l → cs.all (trueV 5) = true
  | [], _, i, cs, h => by cases h
  | (j, o) :: r, hd, i, cs, h => by
    simp only [trueH, Bool.and_eq_true] at hd
    rcases List.mem_cons.1 h with he | he
    · obtain ⟨rfl, rfl⟩ := Prod.mk.inj he
      exact hd.1
    · exact trueH_box hd.2 i cs he
theorem trueH_row : ∀ {l : List (Nat × Ob)}, trueH l = true → ∀ i e sz fr fz els, (i, Ob.row e sz fr fz els) ∈ l → fr = true
  | [], _, i, _, _, _, _, _, h => by cases h
  | (j, o) :: r, hd, i, e, sz, fr, fz, els, h => by
    simp only [trueH, Bool.and_eq_true] at hd
    rcases List.mem_cons.1 h with he | he
    · obtain ⟨rfl, rfl⟩ := Prod.mk.inj he
      exact hd.1
    · exact trueH_row hd.2 i e sz fr fz els he
theorem noGone_mem : ∀ {l : List (Nat × Ob)}, noGone l = true → ∀ i, (i, Ob.gone) ∉ l
  | [], _, i, h => by cases h
  | (j, o) :: r, hd, i, h => by
    simp only [noGone, Bool.and_eq_true] at hd
    rcases List.mem_cons.1 h with he | he
    · obtain ⟨rfl, rfl⟩ := Prod.mk.inj he
      have := hd.1
      cases this
    · exact noGone_mem hd.2 i he
theorem noTrunc_mem : ∀ {σ : Sg}, noTrunc σ = true → ∀ i t, (i, t) ∈ σ → ∃ h, t = .full h
  | [], _, i, t, h => by cases h
  | (j, u) :: r, hd, i, t, h => by
    simp only [noTrunc, Bool.and_eq_true] at hd
    rcases List.mem_cons.1 h with he | he
    · obtain ⟨rfl, rfl⟩ := Prod.mk.inj he
      have := hd.1
      cases t with
      | full q => exact ⟨q, rfl⟩
      | trunc q n => cases this
      | nil => cases this
    · exact noTrunc_mem hd.2 i t he
theorem lowestOk_mem {k0 : Nat} : ∀ {l : List Nat}, lowestOk k0 l = true → ∀ h ∈ l, k0 ≤ h
  | [], _, h, hm => by cases hm
  | i :: r, hd, h, hm => by
    simp only [lowestOk, Bool.and_eq_true] at hd
    rcases List.mem_cons.1 hm with rfl | he
    · exact Nat.le_of_ble_eq_true hd.1
    · exact lowestOk_mem hd.2 h he
/-- What one thing handed back is, beside the thing lent. -/
theorem sameLen_mem {k : Nat} {h : List (Nat × Ob)} : ∀ {l : List (Nat × Ob)} {ps : List Prop}, sameLen k h l = some ps → allP ps → ∀ i o, (i, o) ∈ l →
    (∀ e sz fr fz els, o = .row e sz fr fz els → fz = false) ∧ match look h i with
      | none => k ≤ i
      | some o0 => match o with
        | .row e sz fr fz els => ∃ fr' fz' els', o0 = .row e sz fr' fz' els' ∧ els.length = els'.length
        | .box _ => ∃ ds, o0 = .box ds
        | .tree _ _ _ _ => False
        | .gone => True
  | [], ps, _, _, i, o, hm => by cases hm
  | (j, q) :: r, ps, hs, hp, i, o, hm => by
    unfold sameLen at hs
    cases hr : sameLen k h r with
    | none => rw [hr] at hs; cases hs
    | some l0 =>
      rw [hr] at hs
      simp only at hs
      have hrec : allP l0 → ∀ i o, (i, o) ∈ r → _ := fun hp0 => sameLen_mem hr hp0
      cases hl : look h j with
      | none =>
        rw [hl] at hs
        simp only at hs
        cases hb : Nat.ble k j with
        | false => rw [hb] at hs; cases hs
        | true =>
          rw [hb] at hs
          have hj : k ≤ j := Nat.le_of_ble_eq_true hb
          cases q with
          | box cs =>
            cases hs
            rcases List.mem_cons.1 hm with he | he
            · obtain ⟨rfl, rfl⟩ := Prod.mk.inj he
              rw [hl]
              exact ⟨fun e sz fr fz els h => (by cases h), hj⟩
            · exact hrec hp i o he
          | gone =>
            cases hs
            rcases List.mem_cons.1 hm with he | he
            · obtain ⟨rfl, rfl⟩ := Prod.mk.inj he
              rw [hl]
              exact ⟨fun e sz fr fz els h => (by cases h), hj⟩
            · exact hrec hp i o he
          | tree =>
            cases hs
            rcases List.mem_cons.1 hm with he | he
            · obtain ⟨rfl, rfl⟩ := Prod.mk.inj he
              rw [hl]
              exact ⟨fun e sz fr fz els h => (by cases h), hj⟩
            · exact hrec hp i o he
          | row e sz fr fz els =>
            cases fz with
            | true => cases hs
            | false =>
              cases hs
              rcases List.mem_cons.1 hm with he | he
              · obtain ⟨rfl, rfl⟩ := Prod.mk.inj he
                rw [hl]
                exact ⟨fun e sz fr fz els h => (by cases h; rfl), hj⟩
              · exact hrec hp i o he
      | some o0 =>
        rw [hl] at hs
        simp only at hs
        cases q with
        | box cs =>
          cases o0 with
          | box ds =>
            cases hs
            rcases List.mem_cons.1 hm with he | he
            · obtain ⟨rfl, rfl⟩ := Prod.mk.inj he
              rw [hl]
              exact ⟨fun e sz fr fz els h => (by cases h), ⟨ds, rfl⟩⟩
            · exact hrec hp i o he
          | _ => cases hs
        | tree => cases o0 <;> cases hs
        | gone =>
          have hs : some l0 = some ps := by cases o0 <;> exact hs
          cases hs
          rcases List.mem_cons.1 hm with he | he
          · obtain ⟨rfl, rfl⟩ := Prod.mk.inj he
            rw [hl]
            exact ⟨fun e sz fr fz els h => (by cases h), trivial⟩
          · exact hrec hp i o he
        | row e sz fr fz els =>
          cases fz with
          | true => cases o0 <;> cases hs
          | false =>
            cases o0 with
            | row e' sz' fr' fz' els' =>
              simp only at hs
              split at hs
              · rename_i hb
                cases hs
                simp only [Bool.and_eq_true] at hb
                obtain rfl := Nat.eq_of_beq_eq_true hb.1
                obtain rfl := Nat.eq_of_beq_eq_true hb.2
                have hp2 : els.length = els'.length ∧ allP l0 := by
                  cases l0 with
                  | nil => exact ⟨hp, trivial⟩
                  | cons p ps => exact hp
                rcases List.mem_cons.1 hm with he | he
                · obtain ⟨rfl, rfl⟩ := Prod.mk.inj he
                  rw [hl]
                  exact ⟨fun e sz fr fz els h => (by cases h; rfl), fr', fz', els', rfl, hp2.1⟩
                · exact hrec hp2.2 i o he
              · cases hs
            | _ => cases hs
end
end Go.Proofs.Ytonbbaimkpjcfaa.Ev
/-! ## A call by its contract: what the caller's memory is afterwards. No conditions. -/
namespace Go.Proofs.Ytonbbaimkpjcfaa.Ev
open Go
set_option linter.unusedVariables false
set_option linter.unusedSimpArgs false
section
variable {w w' : World} {F1 F2 F1' F2' F1'' : Nat → Prop} {ρ ρ' : Pl} {H : Hp} {k0 k nx : Nat} {σ : Sg} {FL FL' : List (Nat × Ob)} {fz : List Nat}

theorem look_none : ∀ {l : List (Nat × Ob)} {i : Nat}, look l i = none → i ∉ ids l
  | [], i, _, h => by cases h
  | (j, q) :: r, i, h1, h2 => by
    rcases List.mem_cons.1 h2 with rfl | h3
    · rw [look_cons_same] at h1; cases h1
    · by_cases hj : j = i
      · subst hj; rw [look_cons_same] at h1; cases h1
      · rw [look_cons_ne _ _ hj] at h1; exact look_none h1 h3
theorem renH_mem : ∀ {l : List (Nat × Ob)} {h : Nat} {o : Ob}, (h, o) ∈ renH σ k nx l ↔ ∃ i o0, (i, o0) ∈ l ∧ h = trId σ k nx i ∧ o = renO (trId σ k nx) o0
  | [], h, o => by simp [renH]
  | (j, q) :: r, h, o => by
    unfold renH
    rw [List.mem_cons, renH_mem]
    constructor
    · rintro (he | ⟨i, o0, h1, h2, h3⟩)
      · obtain ⟨rfl, rfl⟩ := Prod.mk.inj he
        exact ⟨j, q, by simp, rfl, rfl⟩
      · exact ⟨i, o0, by simp [h1], h2, h3⟩
    · rintro ⟨i, o0, h1, h2, h3⟩
      rcases List.mem_cons.1 h1 with he | he
      · obtain ⟨rfl, rfl⟩ := Prod.mk.inj he
        exact .inl (by rw [h2, h3])
      · exact .inr ⟨i, o0, he, h2, h3⟩
theorem goneOf_mem (hfull : ∀ i t, (i, t) ∈ σ → ∃ q, t = .full q) {back : List Nat} {h : Nat} {o : Ob} : (h, o) ∈ goneOf σ back ↔ o = .gone ∧ ∃ i, (i, Tgt.full h) ∈ σ ∧ i ∉ back := by
  induction σ with
  | nil => simp [goneOf]
  | cons x r ih =>
    obtain ⟨i, t⟩ := x
    obtain ⟨q, rfl⟩ := hfull i t (by simp)
    have ih := ih fun i t h => hfull i t (by simp [h])
    unfold goneOf
    simp only
    cases hb : memN back i with
    | true =>
      simp only
      rw [ih]
      constructor
      · rintro ⟨h1, j, h2, h3⟩
        exact ⟨h1, j, by simp [h2], h3⟩
      · rintro ⟨h1, j, h2, h3⟩
        refine ⟨h1, j, ?_, h3⟩
        rcases List.mem_cons.1 h2 with he | he
        · obtain ⟨rfl, _⟩ := Prod.mk.inj he
          exact absurd (memN_iff.1 hb) h3
        · exact he
    | false =>
      simp only
      rw [List.mem_cons, ih]
      have hni : i ∉ back := fun hm => by rw [memN_iff.2 hm] at hb; cases hb
      constructor
      · rintro (he | ⟨h1, j, h2, h3⟩)
        · obtain ⟨rfl, rfl⟩ := Prod.mk.inj he
          exact ⟨rfl, i, by simp, hni⟩
        · exact ⟨h1, j, by simp [h2], h3⟩
      · rintro ⟨h1, j, h2, h3⟩
        rcases List.mem_cons.1 h2 with he | he
        · obtain ⟨rfl, he⟩ := Prod.mk.inj he
          cases he
          exact .inl (by rw [h1])
        · exact .inr ⟨h1, j, he, h3⟩
theorem renO_live {g : Nat → Nat} {o : Ob} : (renO g o).live ↔ o.live := by cases o <;> exact Iff.rfl

/-- What is known of a call's names. -/
structure Names (k0 k nx : Nat) (H : Hp) (σ : Sg) (FL FL' : List (Nat × Ob)) (fz : List Nat) : Prop where
  full : ∀ i t, (i, t) ∈ σ → ∃ q, t = .full q
  low : ∀ i o, look FL i = some o → i < k ∧ ∃ q, tgt σ i = some (.full q)
  live : ∀ i q, tgt σ i = some (.full q) → ∃ o, look FL i = some o ∧ ∃ oq, H q = some oq ∧ oq.live ∧ (∀ ds, o = .box ds → ∃ es, oq = .box es) ∧ (∀ e sz fr fz els, o = .row e sz fr fz els → ∃ fr', oq = .row e sz fr' false els) ∧ ∀ e sz ie els, o = .tree e sz ie els → ∃ els', oq = .tree e sz ie els' ∧ els = els'.map (List.map TC.unref)
  nd : nodup (sgIds σ) = true
  dj : ∀ h ∈ sgIds σ, h ∉ fz
  ndF : nodup (ids FL') = true
  back : ∀ i o, (i, o) ∈ FL' → (∀ e sz fr fz els, o = .row e sz fr fz els → fz = false) ∧ match look FL i with
      | none => k ≤ i
      | some o0 => match o with
        | .row e sz fr fz els => ∃ fr' fz' els', o0 = .row e sz fr' fz' els' ∧ els.length = els'.length
        | .box _ => ∃ ds, o0 = .box ds
        | .tree _ _ _ _ => False
        | .gone => True
  fresh : ∀ i, nx ≤ i → (look (renH σ k nx FL' ++ goneOf σ (ids FL') ++ freeze H fz) i).isSome = true → H i = none
  rows : ∀ h ∈ fz, ∃ e sz fr f els, H h = some (.row e sz fr f els)
theorem tgt_of_mem (hn : nodup (ids σ) = true) {i : Nat} {t : Tgt} (h : (i, t) ∈ σ) : tgt σ i = some t := look_of_mem hn h
theorem Names.lo (N : Names k0 k nx H σ FL FL' fz) {i : Nat} (h : i < k) {q : Nat} (ht : tgt σ i = some (.full q)) : trId σ k nx i = q := by
  unfold trId
  rw [show Nat.blt i k = true from Nat.ble_eq_true_of_le h]
  simp only [ht]
theorem Names.hi {i : Nat} (h : k ≤ i) : trId σ k nx i = nx + (i - k) := by
  unfold trId
  have : Nat.blt i k = false := by
    cases hb : Nat.blt i k with
    | false => rfl
    | true => have : i < k := Nat.le_of_ble_eq_true hb; omega
  rw [this]
/-- What is handed back: one's own, or new. -/
theorem Names.kind (N : Names k0 k nx H σ FL FL' fz) {i : Nat} {o : Ob} (hm : (i, o) ∈ FL') : (∃ o0 q, i < k ∧ look FL i = some o0 ∧ tgt σ i = some (.full q) ∧ trId σ k nx i = q) ∨ (k ≤ i ∧ trId σ k nx i = nx + (i - k) ∧ H (trId σ k nx i) = none) := by
  have hb := (N.back i o hm).2
  cases hl : look FL i with
  | none =>
    rw [hl] at hb
    refine .inr ⟨hb, Names.hi hb, N.fresh _ (by rw [Names.hi hb]; omega) ?_⟩
    cases hq : look (renH σ k nx FL' ++ goneOf σ (ids FL') ++ freeze H fz) (trId σ k nx i) with
    | some o => rfl
    | none =>
      exact absurd (mem_ids.2 ⟨_, List.mem_append.2 (.inl (List.mem_append.2 (.inl (renH_mem.2 ⟨i, o, hm, rfl, rfl⟩))))⟩) (look_none hq)
  | some o0 =>
    obtain ⟨h1, q, h2⟩ := N.low i o0 hl
    exact .inl ⟨o0, q, h1, rfl, h2, N.lo h1 h2⟩
theorem Names.inj (N : Names k0 k nx H σ FL FL' fz) {i i' : Nat} {o o' : Ob} (hm : (i, o) ∈ FL') (hm' : (i', o') ∈ FL') (he : trId σ k nx i = trId σ k nx i') : i = i' := by
  rcases N.kind hm with ⟨o0, q, h1, h2, h3, h4⟩ | ⟨h1, h2, h3⟩ <;> rcases N.kind hm' with ⟨o0', q', h1', h2', h3', h4'⟩ | ⟨h1', h2', h3'⟩
  · rw [h4, h4'] at he
    subst he
    exact (Prod.mk.inj (sg_inj N.nd (tgt_mem h3) (tgt_mem h3') rfl rfl)).1
  · obtain ⟨_, _, oq, hq, _⟩ := N.live i q h3
    rw [← he, h4, hq] at h3'
    cases h3'
  · obtain ⟨_, _, oq, hq, _⟩ := N.live i' q' h3'
    rw [he, h4', hq] at h3
    cases h3
  · omega
theorem Names.cls (N : Names k0 k nx H σ FL FL' fz) (hs : nodup (ids σ) = true) (h : Nat) :
    (∃ i o, (i, o) ∈ FL' ∧ h = trId σ k nx i ∧ upd H (renH σ k nx FL' ++ goneOf σ (ids FL') ++ freeze H fz) h = some (renO (trId σ k nx) o)) ∨
    (h ∈ sgIds σ ∧ upd H (renH σ k nx FL' ++ goneOf σ (ids FL') ++ freeze H fz) h = some .gone) ∨
    (h ∈ fz ∧ h ∉ sgIds σ ∧ ∃ e sz fr f els, H h = some (.row e sz fr f els) ∧ upd H (renH σ k nx FL' ++ goneOf σ (ids FL') ++ freeze H fz) h = some (.row e sz fr true els)) ∨
    (h ∉ sgIds σ ∧ h ∉ fz ∧ upd H (renH σ k nx FL' ++ goneOf σ (ids FL') ++ freeze H fz) h = H h) := by
  unfold upd
  rw [look_append, look_append]
  cases hR : look (renH σ k nx FL') h with
  | some o =>
    obtain ⟨i, o0, h1, h2, h3⟩ := renH_mem.1 (look_mem hR)
    exact .inl ⟨i, o0, h1, h2, by simp only [h3]⟩
  | none =>
    have hnR := look_none hR
    cases hG : look (goneOf σ (ids FL')) h with
    | some o =>
      obtain ⟨rfl, i, h1, h2⟩ := (goneOf_mem N.full).1 (look_mem hG)
      exact .inr (.inl ⟨sgIds_mem h1 rfl, rfl⟩)
    | none =>
      have hnG := look_none hG
      have hns : h ∉ sgIds σ := by
        intro hm
        obtain ⟨⟨i, t⟩, h1, h2⟩ := sgIds_iff.1 hm
        obtain ⟨q, rfl⟩ := N.full i t h1
        obtain rfl := Option.some.inj h2
        by_cases hi : i ∈ ids FL'
        · obtain ⟨o, ho⟩ := mem_ids.1 hi
          obtain ⟨o0, ho0, _⟩ := N.live i q (tgt_of_mem hs h1)
          have := N.lo (N.low i o0 ho0).1 (tgt_of_mem hs h1)
          exact hnR (mem_ids.2 ⟨_, renH_mem.2 ⟨i, o, ho, this.symm, rfl⟩⟩)
        · exact hnG (mem_ids.2 ⟨_, (goneOf_mem N.full).2 ⟨rfl, i, h1, hi⟩⟩)
      simp only
      rw [look_freeze]
      by_cases hf : h ∈ fz
      · obtain ⟨e, sz, fr, f, els, hH⟩ := N.rows h hf
        refine .inr (.inr (.inl ⟨hf, hns, e, sz, fr, f, els, hH, ?_⟩))
        rw [hH]
        simp only [if_pos hf]
      · refine .inr (.inr (.inr ⟨hns, hf, ?_⟩))
        cases hH : H h with
        | none => rfl
        | some o => cases o <;> simp only [if_neg hf]
theorem Names.renamed (N : Names k0 k nx H σ FL FL' fz) (hs : nodup (ids σ) = true) {i : Nat} {o : Ob} (hm : (i, o) ∈ FL') : upd H (renH σ k nx FL' ++ goneOf σ (ids FL') ++ freeze H fz) (trId σ k nx i) = some (renO (trId σ k nx) o) := by
  unfold upd
  rw [look_append, look_append]
  cases hR : look (renH σ k nx FL') (trId σ k nx i) with
  | some o' =>
    obtain ⟨i', o0, h1, h2, h3⟩ := renH_mem.1 (look_mem hR)
    obtain rfl := N.inj hm h1 h2
    have h4 := look_of_mem N.ndF hm
    rw [look_of_mem N.ndF h1] at h4
    obtain rfl := Option.some.inj h4
    simp only [h3]
  | none => exact absurd (mem_ids.2 ⟨_, renH_mem.2 ⟨i, o, hm, rfl, rfl⟩⟩) (look_none hR)
end
end Go.Proofs.Ytonbbaimkpjcfaa.Ev
/-! ## A call by its contract: the proof. No conditions. -/
namespace Go.Proofs.Ytonbbaimkpjcfaa.Ev
open Go
set_option linter.unusedVariables false
set_option linter.unusedSimpArgs false
section
variable {w w' : World} {F1 F2 F1' F2' : Nat → Prop} {ρ ρ' : Pl} {H : Hp} {k0 k nx : Nat} {σ : Sg} {FL FL' : List (Nat × Ob)} {fz bo : List Nat} {cv : Value} {v : AV}

/-- The caller's numbering after a call. -/
def rhoBack (k nx : Nat) (H : Hp) (ρ ρ' : Pl) : Pl := ⟨fun h => match H h with
  | some _ => ρ h
  | none => ρ' (k + (h - nx)), fun h => match H h with
  | some _ => ρ.iota h
  | none => ρ'.iota (k + (h - nx))⟩
theorem rhoBack_some {o : Ob} {h : Nat} (ho : H h = some o) : rhoBack k nx H ρ ρ' h = ρ h ∧ (rhoBack k nx H ρ ρ').iota h = ρ.iota h := by
  simp only [rhoBack, ho, and_self]
theorem rhoBack_none {h : Nat} (ho : H h = none) : rhoBack k nx H ρ ρ' h = ρ' (k + (h - nx)) ∧ (rhoBack k nx H ρ ρ').iota h = ρ'.iota (k + (h - nx)) := by
  simp only [rhoBack, ho, and_self]
theorem Own.renO {ρ : Pl} {g : Nat → Nat} {h b : Nat} {o : Ob} : Own ρ h (renO g o) b ↔ Own ρ h o b := by cases o <;> exact Iff.rfl

theorem call_back (N : Names k0 k nx H σ FL FL' fz) (hs : nodup (ids σ) = true) (hh : HeapR k0 w F1 F2 ρ H) (hfz : ∀ h ∈ fz, k0 ≤ h) (hbo : ∀ h ∈ bo, h ∉ sgIds σ)
    (hdeep : deepV 5 v = true) (hdeepH : deepH FL' = true) (hcase : bo = [] ∨ (trueV 5 v = true ∧ trueH FL' = true))
    (F : Fin k w (G1of F1 ρ H (fz ++ bo)) (G2of k0 F2 ρ H fz) (rhoOf σ ρ) (look FL) cv w' v (look FL') F1' F2' ρ') :
    ∃ F1'' , OpR k0 w F1 F2 ρ H cv w' (renV (trId σ k nx) 5 v) (upd H (renH σ k nx FL' ++ goneOf σ (ids FL') ++ freeze H fz)) F1'' F2' (rhoBack k nx H ρ ρ') := by
  -- the lent blocks are the live blocks of what was lent
  have hLB : ∀ b, LentB (rhoOf σ ρ) (look FL) b → ∃ q o, q ∈ sgIds σ ∧ H q = some o ∧ o.live ∧ Own ρ q o b := by
    rintro b ⟨i, o, h1, h2⟩
    obtain ⟨hik, q, hq⟩ := N.low i o h1
    obtain ⟨o', ho', oq, h6, h7, hbx, hrw, htr⟩ := N.live i q hq
    rw [h1] at ho'
    obtain rfl := Option.some.inj ho'
    have hm : q ∈ sgIds σ := sgIds_mem (tgt_mem hq) rfl
    rcases h2 with ⟨cp, h2⟩ | h2
    · rw [rhoOf_at, hq] at h2
      exact ⟨q, oq, hm, h6, h7, .of h2⟩
    · cases o with
      | tree e sz ie els =>
        obtain ⟨els', rfl, rfl⟩ := htr _ _ _ _ rfl
        obtain ⟨a, b', l, c, h3, h4⟩ := h2
        rw [rhoOf_iota hq] at h4
        exact ⟨q, _, hm, h6, h7, .inr ⟨a, b', l, c, tcAt_unref h3, h4⟩⟩
      | _ => exact h2.elim
  have hrow : ∀ h b, RowB ρ H h b → F1 b ∨ LiveB ρ H b := by
    rintro h b ⟨e, sz, fr, fz, els, c, ho, hr⟩
    cases fz with
    | false => exact .inr ⟨h, _, ho, rfl, .of hr⟩
    | true =>
      obtain ⟨_, _, h3⟩ := hh.row ho
      rw [hr] at h3
      obtain ⟨cur, _, _, _, _, _, h4⟩ := h3
      exact .inl (h4 rfl).1
  have hrow2 : ∀ h b, k0 ≤ h → RowB ρ H h b → F2 b ∨ LiveB ρ H b := by
    rintro h b hk ⟨e, sz, fr, fz, els, c, ho, hr⟩
    cases fz with
    | false => exact .inr ⟨h, _, ho, rfl, .of hr⟩
    | true =>
      obtain ⟨_, _, h3⟩ := hh.row ho
      rw [hr] at h3
      obtain ⟨cur, _, _, _, _, _, h4⟩ := h3
      exact .inl ((h4 rfl).2 hk)
  -- what lies still from now on
  have hF : ∃ F1'' : Nat → Prop, (∀ b, F1 b → F1'' b) ∧ (∀ h ∈ fz, ∀ b, RowB ρ H h b → F1'' b) ∧ (∀ b, F2' b → F1'' b) ∧ (∀ b, F1'' b → F1' b) ∧
      (∀ b, F1'' b → F1 b ∨ (∃ h ∈ fz, RowB ρ H h b) ∨ w.heap.size ≤ b ∨ LentB (rhoOf σ ρ) (look FL) b) ∧ ((∀ b, F1' b → F1'' b) ∨ (trueV 5 v = true ∧ trueH FL' = true)) := by
    rcases hcase with rfl | hc
    · refine ⟨F1', fun b hb => F.f1 b (.inl hb), fun h hm b hb => F.f1 b (.inr ⟨h, by simpa using hm, .inl hb⟩), F.heap.sub, fun b hb => hb, fun b hb => ?_, .inl fun b hb => hb⟩
      rcases F.g1 b hb with (h1 | ⟨h, hm, h1⟩) | h1 | h1
      · exact .inl h1
      · have hmf : h ∈ fz := by simpa using hm
        rcases h1 with h1 | ⟨e, sz, ie, els, h1, _⟩
        · exact .inr (.inl ⟨h, hmf, h1⟩)
        · obtain ⟨e', sz', fr', f', els', h2⟩ := N.rows h hmf
          rw [h1] at h2
          cases h2
      · exact .inr (.inr (.inl h1))
      · exact .inr (.inr (.inr h1))
    · refine ⟨fun b => F1 b ∨ (∃ h ∈ fz, RowB ρ H h b) ∨ F2' b, fun b hb => .inl hb, fun h hm b hb => .inr (.inl ⟨h, hm, hb⟩), fun b hb => .inr (.inr hb), fun b hb => ?_, fun b hb => ?_, .inr hc⟩
      · rcases hb with h1 | ⟨h, hm, h1⟩ | h1
        · exact F.f1 b (.inl h1)
        · exact F.f1 b (.inr ⟨h, List.mem_append.2 (.inl hm), .inl h1⟩)
        · exact F.heap.sub b h1
      · rcases hb with h1 | h1 | h1
        · exact .inl h1
        · exact .inr (.inl h1)
        · rcases F.g2 b h1 with (h2 | ⟨h, hm, _, h2⟩) | h2 | h2
          · exact .inl (hh.sub b h2)
          · exact .inr (.inl ⟨h, hm, h2⟩)
          · exact .inr (.inr (.inl h2))
          · exact .inr (.inr (.inr h2))
  obtain ⟨F1'', i1, i2, i3, i4, i5, i6⟩ := hF
  have hcls := N.cls hs
  have hrenamed : ∀ i o, (i, o) ∈ FL' → upd H (renH σ k nx FL' ++ goneOf σ (ids FL') ++ freeze H fz) (trId σ k nx i) = some (renO (trId σ k nx) o) := fun i o hm => N.renamed hs hm
  generalize hU : renH σ k nx FL' ++ goneOf σ (ids FL') ++ freeze H fz = ups at hcls hrenamed ⊢
  have hf2 : ∀ b, F2 b → F2' b := fun b hb => F.f2 b (.inl hb)
  -- a renamed thing lies where it lies
  have hrho : ∀ i o, (i, o) ∈ FL' → rhoBack k nx H ρ ρ' (trId σ k nx i) = ρ' i := by
    intro i o hm
    rcases N.kind hm with ⟨o0, q, h1, h2, h3, h4⟩ | ⟨h1, h2, h3⟩
    · obtain ⟨_, _, oq, hq, _⟩ := N.live i q h3
      rw [h4, (rhoBack_some hq).1, F.rho i o0 o h1 h2 (look_of_mem N.ndF hm), rhoOf_at, h3]
    · rw [(rhoBack_none h3).1, h2, show k + (nx + (i - k) - nx) = i by omega]
  have hiota : ∀ i o, (i, o) ∈ FL' → k ≤ i → (rhoBack k nx H ρ ρ').iota (trId σ k nx i) = ρ'.iota i := by
    intro i o hm hk
    rcases N.kind hm with ⟨o0, q, h1, h2, h3, h4⟩ | ⟨h1, h2, h3⟩
    · omega
    · rw [(rhoBack_none h3).2, h2, show k + (nx + (i - k) - nx) = i by omega]
  have htreeK : ∀ i e sz ie els, (i, Ob.tree e sz ie els) ∈ FL' → k ≤ i := by
    intro i e sz ie els hm
    have hb := (N.back i _ hm).2
    cases hl : look FL i with
    | none => rw [hl] at hb; exact hb
    | some o0 => rw [hl] at hb; exact hb.elim
  have hownR : ∀ i o b, (i, o) ∈ FL' → (Own (rhoBack k nx H ρ ρ') (trId σ k nx i) (renO (trId σ k nx) o) b ↔ Own ρ' i o b) := by
    intro i o b hm
    rw [Own.renO]
    cases o with
    | tree e sz ie els =>
      have h1 := hrho i _ hm
      have h2 := hiota i _ hm (htreeK i _ _ _ _ hm)
      exact ⟨fun h => h.cg h1 h2, fun h => h.cg h1.symm h2.symm⟩
    | box cs => exact ⟨fun h => h.box.elim fun c hc => .of (by rw [← hrho i _ hm]; exact hc), fun h => h.box.elim fun c hc => .of (by rw [hrho i _ hm]; exact hc)⟩
    | row => exact ⟨fun h => h.row.elim fun c hc => .of (by rw [← hrho i _ hm]; exact hc), fun h => h.row.elim fun c hc => .of (by rw [hrho i _ hm]; exact hc)⟩
    | gone => exact ⟨fun h => h.gone.elim fun c hc => .of (by rw [← hrho i _ hm]; exact hc), fun h => h.gone.elim fun c hc => .of (by rw [hrho i _ hm]; exact hc)⟩
  have hdom : ∀ i o, look FL' i = some o → upd H ups (trId σ k nx i) = some (renO (trId σ k nx) o) ∧ rhoBack k nx H ρ ρ' (trId σ k nx i) = ρ' i := fun i o ho => ⟨hrenamed i o (look_mem ho), hrho i o (look_mem ho)⟩
  have hrhoold : ∀ h o, H h = some o → rhoBack k nx H ρ ρ' h = ρ h := by
    intro h o ho
    exact (rhoBack_some ho).1
  have t : Trans w F1 F2 ρ H w' F1'' F2' (rhoBack k nx H ρ ρ') (upd H ups) := by
    refine ⟨F.size, fun b hb => F.blk b (.inl hb), i1, hf2, hrhoold, fun h o ho => (rhoBack_some ho).2, fun h o ho => ?_⟩
    rcases hcls h with ⟨i, o', hm, rfl, h2⟩ | ⟨_, h2⟩ | ⟨_, _, e, sz, fr, f, els, h3, h2⟩ | ⟨_, _, h2⟩
    · refine ⟨_, h2, ?_⟩
      rcases N.kind hm with ⟨o0, q, h3, h4, h5, h6⟩ | ⟨h3, h4, h5⟩
      · have hb := (N.back i o' hm).2
        rw [h4] at hb
        obtain ⟨o1, ho1, oq, hq, hql, hbox, hrw, _⟩ := N.live i q h5
        rw [h4] at ho1
        obtain rfl := Option.some.inj ho1
        rw [h6, hq] at ho
        obtain rfl := Option.some.inj ho
        refine ⟨fun e sz fr fz els he => ?_, fun _ => hql, fun e sz ie els he => ?_⟩
        · obtain rfl := renO_row he
          obtain ⟨fr', fz', els', rfl, hlen⟩ := hb
          obtain ⟨fr2, rfl⟩ := hrw _ _ _ _ _ rfl
          exact ⟨_, _, _, rfl, hlen⟩
        · obtain rfl := renO_tree he
          exact hb.elim
      · rw [h5] at ho
        cases ho
    · exact ⟨_, h2, Ob.after_gone o⟩
    · rw [h3] at ho
      obtain rfl := Option.some.inj ho
      refine ⟨_, h2, fun e' sz' fr' fz' els' he => ?_, fun h => ?_, fun _ _ _ _ he => by cases he⟩
      · cases he
        exact ⟨_, _, _, rfl, rfl⟩
      · exact absurd (show true = false from h) (by simp)
    · exact ⟨o, by rw [h2]; exact ho, Ob.after_refl o⟩
  -- what was not lent is as it was
  have hkeep : ∀ h o, H h = some o → h ∉ sgIds σ → ObR k0 w' F1'' F2' (rhoBack k nx H ρ ρ') (upd H ups) h o := by
    intro h o ho hn
    refine ObR.keep t hh ho fun hl b hr => F.wr b (hh.own_lt ho hl hr) fun hL => ?_
    obtain ⟨q, oq, h1, h2, h3, h4⟩ := hLB b hL
    exact hh.sep h q o oq b ho h2 hl h3 (fun he => hn (he ▸ h1)) hr h4
  have hren : ∀ i o, (i, o) ∈ FL' → ObR k0 w' F1'' F2' (rhoBack k nx H ρ ρ') (upd H ups) (trId σ k nx i) (renO (trId σ k nx) o) := by
    intro i o hm
    have hob := F.heap.obj i o (look_of_mem N.ndF hm)
    cases o with
    | box cs =>
      obtain ⟨b, cp, cur, ty, h1, h2, h3, h4⟩ := hob
      have hd := deepH_mem hdeepH i cs hm
      refine ⟨b, cp, cur, ty, by rw [hrho i _ hm]; exact h1, h2, by simp [renVs]; exact h3, fun j u hu => ?_⟩
      unfold renVs at hu
      rw [List.getElem?_map] at hu
      cases hj : cs[j]? with
      | none => rw [hj] at hu; cases hu
      | some u0 =>
        rw [hj] at hu
        obtain rfl := Option.some.inj hu
        have hmem := List.mem_of_getElem? hj
        exact AVR.ren hdom (fun b hb => hb) 5 u0 _ (List.all_eq_true.1 hd u0 hmem) (i6.imp id fun h => List.all_eq_true.1 (trueH_box h.2 i cs hm) u0 hmem) (h4 j u0 hj)
    | row e sz fr fz els =>
      obtain ⟨h1, h2, h3⟩ := hob
      obtain rfl := (N.back i _ hm).1 _ _ _ _ _ rfl
      refine ⟨h1, h2, ?_⟩
      rw [hrho i _ hm]
      cases hρ : ρ' i with
      | none => rw [hρ] at h3; exact h3
      | some gc =>
        obtain ⟨g, cap⟩ := gc
        rw [hρ] at h3
        obtain ⟨cur, h4, h5, h6, h7, h8, _⟩ := h3
        refine ⟨cur, h4, h5, h6, h7, fun j u hj => (h8 j u hj).mono (fun _ _ => rfl) ?_, fun h => by (cases h)⟩
        cases fr with
        | true => exact fun b hb => hb
        | false => exact i6.elim (fun h => h) fun h => by have := trueH_row h.2 i _ _ _ _ _ hm; cases this
    | tree e sz ie els =>
      obtain ⟨h1, h2, h3, h4, h5⟩ := hob
      have hno := F.nor i _ _ _ _ (look_of_mem N.ndF hm)
      show ObR k0 w' F1'' F2' (rhoBack k nx H ρ ρ') (upd H ups) (trId σ k nx i) (.tree e sz ie els)
      refine ⟨h1, h2, ?_, ?_, ?_⟩
      · rw [hrho i _ hm, hiota i _ hm (htreeK i _ _ _ _ hm)]
        cases hρ : ρ' i with
        | none => rw [hρ] at h3; exact h3
        | some gc =>
          obtain ⟨g, cap⟩ := gc
          rw [hρ] at h3
          obtain ⟨cur, q1, q2, q3, q4, q5⟩ := h3
          refine ⟨cur, q1, q2, q3, q4, fun a b u hu => ?_⟩
          have := q5 a b u hu
          cases u with
          | fl v => exact this
          | ow l => exact this
          | ref z => exact absurd hu (hno a b z)
          | dead => exact this
      · rw [hiota i _ hm (htreeK i _ _ _ _ hm)]; exact h4
      · rw [hrho i _ hm, hiota i _ hm (htreeK i _ _ _ _ hm)]; exact h5
    | gone => trivial
  -- where a live thing of the caller lies now
  have hlive : ∀ h o b, upd H ups h = some o → o.live → Own (rhoBack k nx H ρ ρ') h o b →
      (∃ i o0, (i, o0) ∈ FL' ∧ h = trId σ k nx i ∧ o0.live ∧ Own ρ' i o0 b ∧ ((∃ oq, h ∈ sgIds σ ∧ H h = some oq ∧ oq.live ∧ Own ρ h oq b) ∨ (H h = none ∧ (w.heap.size ≤ b ∨ LentB (rhoOf σ ρ) (look FL) b)))) ∨
      (h ∉ sgIds σ ∧ h ∉ fz ∧ H h = some o ∧ Own ρ h o b) := by
    intro h o b ho hl hr
    rcases hcls h with ⟨i, o', hm, rfl, h2⟩ | ⟨_, h2⟩ | ⟨_, _, e, sz, fr, f, els, h3, h2⟩ | ⟨h3, h4, h2⟩
    · rw [h2] at ho
      obtain rfl := Option.some.inj ho
      have hr' := (hownR i o' b hm).1 hr
      refine .inl ⟨i, o', hm, rfl, renO_live.1 hl, hr', ?_⟩
      rcases N.kind hm with ⟨o0, q, h3, h4, h5, h6⟩ | ⟨h3, h4, h5⟩
      · obtain ⟨o1, ho1, oq, hq, hql, _⟩ := N.live i q h5
        obtain ⟨c, hc⟩ : ∃ c, ρ' i = some (b, c) := by
          refine hr'.plain ?_
          cases o' with
          | tree e sz ie els => have := htreeK i _ _ _ _ hm; omega
          | _ => trivial
        rw [← hrho i o' hm, h6, hrhoold q oq hq] at hc
        rw [h6]
        exact .inl ⟨oq, sgIds_mem (tgt_mem h5) rfl, hq, hql, .of hc⟩
      · exact .inr ⟨h5, F.own i o' b (look_of_mem N.ndF hm) hr'⟩
    · rw [h2] at ho
      obtain rfl := Option.some.inj ho
      exact hl.elim
    · rw [h2] at ho
      obtain rfl := Option.some.inj ho
      exact absurd (show true = false from hl) (by simp)
    · rw [h2] at ho
      exact .inr ⟨h3, h4, ho, hr.cg (rhoBack_some ho).1 (rhoBack_some ho).2⟩
  have hheap : HeapR k0 w' F1'' F2' (rhoBack k nx H ρ ρ') (upd H ups) := by
    refine ⟨fun h o ho => ?_, fun h h' o o' b ho ho' hl hl' hne hr hr' => ?_, fun h o b ho hl hr hb => ?_, i3, fun b hb => F.heap.lt b (i4 b hb)⟩
    · rcases hcls h with ⟨i, o', hm, rfl, h2⟩ | ⟨_, h2⟩ | ⟨h3, h4, e, sz, fr, f, els, h5, h2⟩ | ⟨h3, h4, h2⟩
      · rw [h2] at ho
        obtain rfl := Option.some.inj ho
        exact hren i o' hm
      · rw [h2] at ho
        obtain rfl := Option.some.inj ho
        trivial
      · rw [h2] at ho
        obtain rfl := Option.some.inj ho
        obtain ⟨q1, q2, q3⟩ := hkeep h _ h5 h4
        refine ⟨q1, q2, ?_⟩
        have hρ0 := hrhoold h _ h5
        cases hρ : rhoBack k nx H ρ ρ' h with
        | none => rw [hρ] at q3; exact q3
        | some gc =>
          obtain ⟨g, cap⟩ := gc
          rw [hρ] at q3
          obtain ⟨cur, q4, q5, q6, q7, q8, _⟩ := q3
          have hRB : RowB ρ H h g := ⟨e, sz, fr, f, els, cap, h5, by rw [← hρ0]; exact hρ⟩
          exact ⟨cur, q4, q5, q6, q7, q8, fun _ => ⟨i2 h h3 g hRB, fun hk => F.f2 g (.inr ⟨h, h3, hk, hRB⟩)⟩⟩
      · rw [h2] at ho
        exact hkeep h o ho h3
    · rcases hlive h o b ho hl hr with ⟨i, o0, hm, rfl, hl0, hr0, hk⟩ | ⟨h3, h4, h5, h6⟩ <;> rcases hlive h' o' b ho' hl' hr' with ⟨i', o0', hm', rfl, hl0', hr0', hk'⟩ | ⟨h3', h4', h5', h6'⟩
      · exact F.heap.sep i i' o0 o0' b (look_of_mem N.ndF hm) (look_of_mem N.ndF hm') hl0 hl0' (fun he => hne (by rw [he])) hr0 hr0'
      · rcases hk with ⟨oq, q1, q2, q3, q4⟩ | ⟨q1, q2 | q2⟩
        · exact hh.sep _ h' oq o' b q2 h5' q3 hl' hne q4 h6'
        · have := hh.own_lt h5' hl' h6'
          omega
        · obtain ⟨q, oq, q3, q4, q5, q6⟩ := hLB b q2
          exact hh.sep q h' oq o' b q4 h5' q5 hl' (fun he => h3' (he ▸ q3)) q6 h6'
      · rcases hk' with ⟨oq, q1, q2, q3, q4⟩ | ⟨q1, q2 | q2⟩
        · exact hh.sep h _ o oq b h5 q2 hl q3 hne h6 q4
        · have := hh.own_lt h5 hl h6
          omega
        · obtain ⟨q, oq, q3, q4, q5, q6⟩ := hLB b q2
          exact hh.sep q h oq o b q4 h5 q5 hl (fun he => h3 (he ▸ q3)) q6 h6
      · exact hh.sep h h' o o' b h5 h5' hl hl' hne h6 h6'
    · rcases hlive h o b ho hl hr with ⟨i, o0, hm, rfl, hl0, hr0, hk⟩ | ⟨h3, h4, h5, h6⟩
      · exact F.heap.off i o0 b (look_of_mem N.ndF hm) hl0 hr0 (i4 b hb)
      · rcases i5 b hb with q1 | ⟨h1, hm1, e, sz, fr, f, els, c1, q1, q2⟩ | q1 | q1
        · exact hh.off h o b h5 hl h6 q1
        · cases f with
          | false => exact hh.sep h1 h _ o b q1 h5 rfl hl (fun he => h4 (he ▸ hm1)) (.of q2) h6
          | true =>
            obtain ⟨_, _, q3⟩ := hh.row q1
            rw [q2] at q3
            obtain ⟨cur, _, _, _, _, _, q4⟩ := q3
            exact hh.off h o b h5 hl h6 (q4 rfl).1
        · have := hh.own_lt h5 hl h6
          omega
        · obtain ⟨q, oq, q3, q4, q5, q6⟩ := hLB b q1
          exact hh.sep q h oq o b q4 h5 q5 hl (fun he => h3 (he ▸ q3)) q6 h6
  have hLL : ∀ b, LentB (rhoOf σ ρ) (look FL) b → LiveB ρ H b := by
    intro b hb
    obtain ⟨q, oq, q3, q4, q5, q6⟩ := hLB b hb
    exact ⟨q, oq, q4, q5, q6⟩
  refine ⟨F1'', ⟨⟨t, hheap, F.os, F.tape, F.output, fun b hb hn => F.wr b hb fun hL => hn (hLL b hL), fun b hb => ?_, fun b hb => ?_, fun h o b ho hr => ?_⟩, ?_⟩⟩
  · rcases i5 b hb with q1 | ⟨h1, hm1, q1⟩ | q1 | q1
    · exact .inl q1
    · exact (hrow h1 b q1).imp id .inl
    · exact .inr (.inr q1)
    · exact .inr (.inl (hLL b q1))
  · rcases F.g2 b hb with (q1 | ⟨h1, hm1, hk1, q1⟩) | q1 | q1
    · exact .inl q1
    · exact (hrow2 h1 b hk1 q1).imp id .inl
    · exact .inr (.inr q1)
    · exact .inr (.inl (hLL b q1))
  · cases hH : H h with
    | some o0 =>
      obtain ⟨o1, h1, h2⟩ := t.dom h o0 hH
      rw [ho] at h1
      obtain rfl := Option.some.inj h1
      exact .inl ⟨o0, rfl, (Own.after h2 hr).cg (rhoBack_some hH).1 (rhoBack_some hH).2⟩
    | none =>
      rcases hcls h with ⟨i, o', hm, rfl, h2⟩ | ⟨h3, _⟩ | ⟨_, _, e, sz, fr, f, els, h3, _⟩ | ⟨h3, h4, h2⟩
      · rw [ho] at h2
        obtain rfl := Option.some.inj h2
        rcases F.own i o' b (look_of_mem N.ndF hm) ((hownR i o' b hm).1 hr) with q1 | q1
        · exact .inr (.inr q1)
        · exact .inr (.inl (hLL b q1))
      · obtain ⟨⟨i, tt⟩, h4, h5⟩ := sgIds_iff.1 h3
        obtain ⟨q, rfl⟩ := N.full i tt h4
        obtain rfl := Option.some.inj h5
        obtain ⟨_, _, oq, hq, _⟩ := N.live i q (tgt_of_mem hs h4)
        rw [hq] at hH
        cases hH
      · rw [h3] at hH
        cases hH
      · rw [h2, hH] at ho
        cases ho
  · exact AVR.ren hdom (fun b hb => hb) 5 v cv hdeep (i6.imp id fun h => h.1) F.res
end

theorem call_ok {P : Program} {f : FuncId} {c : Ctr} (hS : Sound P f c) {k0 nx : Nat} {as : List AV} {cs : Array Value} {w : World} {F1 F2 : Nat → Prop} {ρ : Pl} {H : Hp} (hh : HeapR k0 w F1 F2 ρ H) (ha : ArgsR w F1 F2 ρ H as cs)
    {x : c.Ix} {ps : List Prop} {v : AV} {rd : List Nat} {ups : List (Nat × Ob)} (hc : callAll c H k0 nx as x = some (ps, v, rd, ups)) (hp : allP ps) (hn : ∀ i, nx ≤ i → (look ups i).isSome = true → H i = none) : CallsAt P k0 f cs w F1 F2 ρ H v ups := by
  rw [callAll_eq] at hc
  generalize callRaw c x H as = raw at hc
  generalize sgUniq raw [] = σ at hc
  cases hm : callMt c x H k0 as σ with
  | none => rw [hm] at hc; cases hc
  | some y =>
    obtain ⟨qs, fz, bo⟩ := y
    rw [hm] at hc
    simp only at hc
    unfold callGo at hc
    split at hc
    · rename_i ls hb hls
      cases hc
      generalize hup : renH σ c.k nx (c.heap' x) ++ goneOf σ (ids (c.heap' x)) ++ freeze H (fz) = up0 at hn ⊢
      have hn0 : ∀ i, nx ≤ i → (look up0 i).isSome = true → H i = none := by
        intro i hi hs
        rcases dropSame_look H (sgIds σ) nx up0 i with h | ⟨_, h, _⟩
        · exact hn i hi (by rw [h]; exact hs)
        · omega
      clear hn
      have hn := hn0
      show Calls P f cs w _
      rw [show upd H (dropSame H (sgIds σ) nx up0) = upd H up0 from upd_dropSame H _ nx up0]
      show CallsAt P k0 f cs w F1 F2 ρ H _ up0
      subst hup
      clear hn0
      simp only [Bool.and_eq_true] at hb
      obtain ⟨⟨⟨⟨⟨⟨⟨⟨⟨⟨⟨⟨⟨⟨b1, b2⟩, b3⟩, b4⟩, b5⟩, b6⟩, b6b⟩, b7⟩, b8⟩, b9⟩, b10⟩, b11⟩, b12⟩, b13⟩, b14⟩ := hb
      obtain ⟨hp1, hp⟩ := allP_append hp
      obtain ⟨hp2, hp3⟩ := allP_append hp
      obtain ⟨p1, f1, o1, p2, f2, o2, e1, e2, rfl, rfl, rfl⟩ := Mt.and_some hm
      obtain ⟨hpa, hpb⟩ := allP_append hp1
      obtain rfl := mtH_noBo e2
      rw [List.append_nil] at *
      have hlo := lentOk_app b6 b6b
      have hrb : ∀ h ∈ f1 ++ f2 ++ o1, ∀ b cp, ρ h = some (b, cp) → RowB ρ H h b ∨ TreeB ρ H h b := by
        intro h hm b cp hr
        rcases lentOk_ok hlo h hm with ⟨e, sz, fr, fz, els, hH⟩ | ⟨e, sz, ie, els, hH⟩
        · exact .inl ⟨e, sz, fr, fz, els, cp, hH, hr⟩
        · exact .inr ⟨e, sz, ie, els, hH, .of hr⟩
      have hrb2 : ∀ h ∈ f1 ++ f2, ∀ b cp, ρ h = some (b, cp) → RowB ρ H h b := by
        intro h hm b cp hr
        obtain ⟨e, sz, fr, fz, els, hH⟩ := rowsOk_ok b6 h hm
        exact ⟨e, sz, fr, fz, els, cp, hH, hr⟩
      obtain ⟨hf, hheap⟩ := HeapR.formal (kf := c.k) (bor := false) hh e2 hpb (l := f1 ++ f2 ++ o1) (l2 := f1 ++ f2) (fun h hm => by simp at hm ⊢; simp [hm]) (fun h hm => by simp at hm ⊢; simp [hm]) (fun h hm => List.mem_append.2 (.inl hm)) b2 b3 b5 hlo b6 b9 (fun _ _ => trivial)
      obtain ⟨r1, r2⟩ := mtVs_ok (G1 := G1of F1 ρ H (f1 ++ f2 ++ o1)) (G2 := G2of k0 F2 ρ H (f1 ++ f2)) hh hf (fun b h => .inl h) (fun b h => .inl h) _ 5 (c.args x) as (fun i => cs.getD i undef) p1 f1 o1 e1 hpa ha.2
        (fun h hm b cp hr => by
          have hm' : h ∈ f1 ++ f2 ++ o1 := by simp at hm ⊢; rcases hm with h | h <;> simp [h]
          exact .inr ⟨h, hm', hrb h hm' b cp hr⟩)
        (fun h hm hk b cp hr => .inr ⟨h, by simp [hm], hk, hrb2 h (by simp [hm]) b cp hr⟩)
        (fun h hm b hb => .inr ⟨h, by simp [hm], .inr hb⟩)
      have hlow : ∀ h o, look (c.heap x) h = some o → h < c.k := fun h o ho => allBelow_ok b10 h (mem_ids.2 ⟨o, look_mem ho⟩)
      have hfull : ∀ i t, (i, t) ∈ σ → ∃ q, t = .full q := noTrunc_mem b8
      have N : Names k0 c.k nx H σ (c.heap x) (c.heap' x) (f1 ++ f2) := by
        refine ⟨hfull, fun i o ho => ?_, fun i q ht => ?_, b3, fun h hm hm2 => disj_iff.1 b2 h hm (List.mem_append.2 (.inl hm2)), b11, fun i o hm => sameLen_mem hls hp2 i o hm, hn, fun h hm => rowsOk_ok b6 h hm⟩
        · obtain ⟨t, _, _, _, ht, _⟩ := mtH_ok e2 hpb i o (look_mem ho)
          obtain ⟨q, rfl⟩ := hfull i t (tgt_mem ht)
          exact ⟨hlow i o ho, q, ht⟩
        · obtain ⟨o, ho, hom⟩ := hf i _ ht
          refine ⟨o, ho, ?_⟩
          cases o with
          | box ds =>
            obtain ⟨es, hq⟩ := hom
            exact ⟨_, hq, trivial, fun ds h => ⟨es, rfl⟩, fun e sz fr fz els h => by (cases h), fun e sz ie els h => by (cases h)⟩
          | row e sz fr fz els =>
            obtain ⟨rfl, fr', hq, _⟩ := hom
            exact ⟨_, hq, rfl, fun ds h => by (cases h), fun e sz fr fz els h => by cases h; exact ⟨fr', rfl⟩, fun e sz ie els h => by (cases h)⟩
          | tree e sz ie els =>
            obtain ⟨els', hq, he⟩ := hom
            exact ⟨_, hq, trivial, fun ds h => by (cases h), fun e sz fr fz els h => by (cases h), fun e sz ie els h => by cases h; exact ⟨els', rfl, he⟩⟩
          | gone => exact absurd (look_mem ho) (noGone_mem b14 i)
      refine Calls.mono (hS x hp3 w _ _ _ cs hheap ⟨by rw [ha.1]; exact r1.symm, r2⟩ hlow) ?_
      rintro en w' ⟨cv, F1', F2', ρ', rfl, F⟩
      have hcase : o1 = [] ∨ (trueV 5 (c.res x) = true ∧ trueH (c.heap' x) = true) := by
        rw [Bool.or_eq_true, Bool.and_eq_true] at b1
        exact b1.imp (fun h => by simpa using h) fun h => h
      obtain ⟨F1'', hop⟩ := call_back N b4 hh (lowestOk_mem b7) (bo := o1) (fun h hm hs => disj_iff.1 b2 h hs (List.mem_append.2 (.inr hm))) b12 b13 hcase F
      exact ⟨cv, F1'', F2', _, rfl, hop⟩
    · cases hc
theorem GamOk.of {P : Program} {Γ : List (FuncId × Ctr)} (h : ∀ f c, (f, c) ∈ Γ → (∀ (args : Array Value) (w : World), (callFunc f args).run P w = .ok (.enter f args) w) ∧ Sound P f c) : GamOk P Γ := by
  intro f c hf
  obtain ⟨h1, h2⟩ := h f c (look_mem hf)
  exact ⟨h1, fun k0 nx as cs w F1 F2 ρ H hh ha x ps v rd ups hc hp hn => call_ok h2 hh ha hc hp hn⟩
end Go.Proofs.Ytonbbaimkpjcfaa.Ev
/-! ## A function's contract from its text. No conditions. -/
namespace Go.Proofs.Ytonbbaimkpjcfaa.Ev
open Go
set_option linter.unusedVariables false
set_option linter.unusedSimpArgs false
section
variable {P : Program} {Γ : List (FuncId × Ctr)} {T : Tab} {w : World} {F1 F2 : Nat → Prop} {ρ : Pl} {H : Hp} {a : Act}
theorem fits_ok : ∀ {l : List AV} {n : Nat}, fits l n = true → l.length ≤ n
  | [], n, _ => by simp
  | _ :: r, 0, h => by cases h
  | _ :: r, n + 1, h => by
    have := fits_ok (l := r) (n := n) h
    simp
    omega
theorem argEnv_look : ∀ {l : List AV} {n t : Nat} {v : AV}, look (argEnv n l) t = some v → n ≤ t ∧ l[t - n]? = some v
  | [], n, t, v, h => by cases h
  | b :: r, n, t, v, h => by
    unfold argEnv at h
    by_cases hn : n = t
    · subst hn
      rw [look_cons_same] at h
      obtain rfl := Option.some.inj h
      simp
    · rw [look_cons_ne _ _ hn] at h
      obtain ⟨h1, h2⟩ := argEnv_look h
      refine ⟨by omega, ?_⟩
      rw [show t - n = t - (n + 1) + 1 by omega]
      simpa using h2
def rsem (tmps : Array Value) : ResultVar → Sem Value
  | .tmp t => pure (tmps.getD t undef)
  | .cell q t => do loadVar t (← asAddr (tmps.getD q undef))
theorem results_eq (fn : Func) (tmps : Array Value) : results fn tmps = (do
    let vs ← fn.results.mapM (rsem tmps)
    pure (if h : vs.size = 1 then vs[0] else .tuple vs)) := rfl
theorem resOne_ok (hT : tabOk P T = true) {k0 : Nat} {s : St} (hh : HeapR k0 w F1 F2 ρ (look s.heap)) (he : EnvR w F1 F2 ρ (look s.heap) (look s.env) a) {r : ResultVar} {ps : List Prop} {v : AV} (h : resOne T s r = some (ps, v)) (hp : allP ps) :
    ∃ c, (rsem a.tmps r).run P w = Result.ok c w ∧ AVR w F1 F2 ρ (look s.heap) v c := by
  cases r with
  | tmp t =>
    unfold resOne at h
    dsimp only at h
    cases h1 : look s.env t with
    | none => rw [h1] at h; cases h
    | some u =>
      rw [h1] at h
      simp only [Option.some.injEq, Prod.mk.injEq] at h
      obtain ⟨rfl, rfl⟩ := h
      exact ⟨a.tmps.getD t undef, by simp [rsem], he t u h1⟩
  | cell q t =>
    unfold resOne at h
    dsimp only at h
    split at h
    · rename_i hq off heq
      have ha := he q _ heq
      generalize hx : a.tmps.getD q undef = x at ha
      cases ha with | ptr _ _ b cp o ho hr =>
      split at h
      · rename_i cs d hH ht
        have hty := tyOk hT ht
        obtain ⟨b', cp', cur, ty, h1, h2, h3, h4⟩ := hh.obj hq _ hH
        rw [hr] at h1
        obtain ⟨rfl, rfl⟩ := Prod.mk.inj (Option.some.inj h1)
        have hcell : ∀ i, i < cs.length → w.cell? ⟨b, i, none⟩ = some (cur.getD i undef) := fun i hi => by
          simp [World.cell?, h2, Array.getD_eq_getD_getElem?, show i < cur.size by omega]
        split at h
        · rename_i hagg
          simp only [Option.some.injEq, Prod.mk.injEq] at h
          obtain ⟨rfl, rfl⟩ := h
          have hle : off + d.size ≤ cs.length := hp
          have hrun := run_loadCells (P := P) (w := w) ⟨b, off, none⟩ d.size (fun j => cur.getD (off + j) undef) (fun j hj => by rw [Addr.add_mid]; exact hcell _ (by omega))
          refine ⟨.agg ((List.range d.size).map (fun j => cur.getD (off + j) undef)).toArray, ?_, ?_⟩
          · simp only [rsem, hx, asAddr, Sem.run_bind, Sem.run_pure, Result.andThen_ok, loadVar, hty.isAgg, hagg, if_true, hty.sizeOf, hrun]
          · refine .agg _ _ (by simp; omega) fun i v hv => ?_
            rw [List.getElem?_take] at hv
            split at hv
            · rename_i hi
              rw [List.getElem?_drop] at hv
              have : (((List.range d.size).map (fun j => cur.getD (off + j) undef)).toArray).getD i undef = cur.getD (off + i) undef := by simp [Array.getD_eq_getD_getElem?, hi]
              rw [this]
              exact h4 _ v hv
            · cases hv
        · rename_i hagg
          split at h
          · rename_i u r hd
            simp only [Option.some.injEq, Prod.mk.injEq] at h
            obtain ⟨rfl, rfl⟩ := h
            have hv : cs[off]? = some u := by
              have := congrArg (fun l => l[0]?) hd
              simpa [List.getElem?_drop] using this
            have hlt : off < cs.length := by
              rcases Nat.lt_or_ge off cs.length with h | h
              · exact h
              · simp [List.getElem?_eq_none h] at hv
            refine ⟨cur.getD off undef, ?_, h4 _ u hv⟩
            simp only [rsem, hx, asAddr, Sem.run_bind, Sem.run_pure, Result.andThen_ok, loadVar, hty.isAgg, hagg, if_false, Bool.false_eq_true]
            simp [load, Sem.run, hcell off hlt]
          · cases h
      · cases h
    · cases h
theorem resL_ok (hT : tabOk P T = true) {k0 : Nat} {s : St} (hh : HeapR k0 w F1 F2 ρ (look s.heap)) (he : EnvR w F1 F2 ρ (look s.heap) (look s.env) a) : ∀ {rs : List ResultVar} {ps : List Prop} {vs : List AV}, resL T s rs = some (ps, vs) → allP ps → ∃ cs : List Value, (rs.mapM (rsem a.tmps)).run P w = Result.ok cs w ∧ cs.length = rs.length ∧ vs.length = rs.length ∧
    ∀ (i : Nat) (v : AV), vs[i]? = some v → ∃ c, cs[i]? = some c ∧ AVR w F1 F2 ρ (look s.heap) v c
  | [], ps, vs, h, _ => by
    cases h
    exact ⟨[], by simp, rfl, rfl, fun i v hv => by simp at hv⟩
  | r :: rs, ps, vs, h, hp => by
    unfold resL at h
    cases h1 : resOne T s r with
    | none => rw [h1] at h; cases h
    | some q =>
      obtain ⟨c, v⟩ := q
      cases h2 : resL T s rs with
      | none => rw [h1, h2] at h; cases h
      | some q2 =>
        obtain ⟨d, us⟩ := q2
        rw [h1, h2] at h
        simp only [Option.some.injEq, Prod.mk.injEq] at h
        obtain ⟨rfl, rfl⟩ := h
        obtain ⟨hp1, hp2⟩ := allP_append hp
        obtain ⟨x, r1, r2⟩ := resOne_ok hT hh he h1 hp1
        obtain ⟨cs, q1, q2, q3, q4⟩ := resL_ok hT hh he h2 hp2
        refine ⟨x :: cs, ?_, by simp [q2], by simp [q3], fun i u hu => ?_⟩
        · rw [List.mapM_cons]
          simp [r1, q1]
        · cases i with
          | zero =>
            obtain rfl : v = u := by simpa using hu
            exact ⟨_, by simp, r2⟩
          | succ i =>
            obtain ⟨c, h3, h4⟩ := q4 i u (by simpa using hu)
            exact ⟨c, by simpa using h3, h4⟩
theorem resAV_ok (hT : tabOk P T = true) {k0 : Nat} {fn : Func} {s : St} {ps : List Prop} {v : AV} (hh : HeapR k0 w F1 F2 ρ (look s.heap)) (h : resAV T fn s = some (ps, v)) (hp : allP ps) (he : EnvR w F1 F2 ρ (look s.heap) (look s.env) a) : ∃ c, (results fn a.tmps).run P w = Result.ok c w ∧ AVR w F1 F2 ρ (look s.heap) v c := by
  have key : ∀ vs, resL T s fn.results.toList = some (ps, vs) → fn.results.toList.length ≠ 1 → ∃ c, (results fn a.tmps).run P w = Result.ok c w ∧ AVR w F1 F2 ρ (look s.heap) (.tuple vs) c := by
    intro vs hvs hne
    obtain ⟨cs, h1, h2, h3, h4⟩ := resL_ok (P := P) hT hh he hvs hp
    refine ⟨.tuple cs.toArray, ?_, .tuple vs _ (by simp [h2, h3]) fun i u hu => ?_⟩
    · rw [results_eq, Array.mapM_eq_mapM_toList]
      have : cs.length ≠ 1 := by rw [h2]; exact hne
      simp [h1, this]
    · obtain ⟨c, h5, h6⟩ := h4 i u hu
      simpa [Array.getD_eq_getD_getElem?, h5] using h6
  unfold resAV at h
  split at h
  · rename_i hl
    simp only [Option.some.injEq, Prod.mk.injEq] at h
    obtain ⟨rfl, rfl⟩ := h
    exact key [] (by rw [hl]; rfl) (by rw [hl]; simp)
  · rename_i r hl
    obtain ⟨c, h1, h2⟩ := resOne_ok hT hh he h hp
    refine ⟨c, ?_, h2⟩
    rw [results_eq, Array.mapM_eq_mapM_toList, hl]
    simp [h1]
  · rename_i hn0 hn1
    split at h
    · rename_i c vs hvs
      simp only [Option.some.injEq, Prod.mk.injEq] at h
      obtain ⟨rfl, rfl⟩ := h
      refine key vs hvs fun hlen => ?_
      cases hl : fn.results.toList with
      | nil => rw [hl] at hlen; simp at hlen
      | cons r rs =>
        rw [hl] at hlen
        have : rs = [] := by simpa using hlen
        subst this
        exact hn1 r hl
    · cases h
theorem does_sound (hm : P.follows .mixedOrders = true) (hT : tabOk P T = true) (hΓ : GamOk P Γ) {f : FuncId} {fn : Func} (hf : P.funcs[f]? = some fn) {c : Ctr} (h : Does Γ T fn c) : Sound P f c := by
  intro ix hpre w F1 F2 ρ cs hh ha hlow
  have hdo := h ix hpre
  cases hb : fn.body with
  | none => rw [hb] at hdo; exact hdo.elim
  | some code =>
    rw [hb] at hdo
    cases hfit : fits (c.args ix) fn.ntmps with
    | false => rw [hfit] at hdo; exact hdo.elim
    | true =>
      rw [hfit] at hdo
      simp only [fEnv_eq, fUps_eq, fNat_eq] at hdo
      have hlen := fits_ok hfit
      let x : Cx := ⟨c.k, fn.ntmps, w, ρ, look (c.heap ix), F1, F2⟩
      have hx : CxOk x := ⟨hlow⟩
      have hsz : cs.size = (c.args ix).length := ha.1
      refine calls_of_wp hf hb (aw_sound (x := x) hm hT hΓ hx code _ _ hdo _ w _ (fun i hi => ?_) ?_ fun e s' a' w' h1 h2 h3 => ?_)
      · exact (nxOf_ge (c.heap ix) c.k).2 i hi
      · refine ⟨rfl, by simp [hsz]; exact Nat.add_sub_cancel' hlen, F1, F2, ρ, ⟨hh, rfl, rfl, rfl, Nat.le_refl _, fun _ _ _ => rfl, fun _ _ => rfl, fun h o b ho hr => .inr ⟨h, o, ho, hr⟩, fun h o ho => ⟨rfl, o, ho⟩, fun _ h => h, fun _ h => .inl h, fun _ h => h, fun _ h => .inl h⟩, fun t v ht => ?_⟩
        obtain ⟨_, h2⟩ := argEnv_look ht
        have hlt : t < (c.args ix).length := by
          have := (List.getElem?_eq_some_iff.1 h2).1
          omega
        have := ha.2 t v (by simpa using h2)
        simpa [Array.getD_eq_getD_getElem?, Array.getElem?_append, show t < cs.size by omega] using this
      · have hend : retOk T c ix fn s' → a'.defers = [] ∧ ∃ v, (results fn a'.tmps).run P w' = Result.ok v w' ∧ ∃ cv F1' F2' ρ', Ending.returned v = Ending.returned cv ∧ Fin c.k w F1 F2 ρ (look (c.heap ix)) cv w' (c.res ix) (look (c.heap' ix)) F1' F2' ρ' := by
          intro hret
          unfold retOk at hret
          obtain ⟨q1, q2, G1, G2, ρ1, hc, he⟩ := h3
          cases hv : resAV T fn s' with
          | none => rw [hv] at hret; exact hret.elim
          | some q =>
            obtain ⟨ps, v⟩ := q
            rw [hv] at hret
            simp only [fAV_eq] at hret
            obtain ⟨hps, hret⟩ : allP ps ∧ emb false c.k ⟨[(0, c.res ix)], c.heap' ix, 1000000⟩ ⟨[(0, v)], s'.heap, s'.nx⟩ := by
              split at hret
              · exact ⟨trivial, hret⟩
              · exact hret
            obtain ⟨cv, r1, r2⟩ := resAV_ok (P := P) hT hc.heap hv hps he
            obtain ⟨σ, l, hf', hheap, henv, hrows, hls, hbel, hnd, hkn, htg, _⟩ := emb_core hret hc.heap
            have hrow : ∀ h ∈ l, ∀ b, RowB ρ1 (look s'.heap) h b → x.own b := by
              rintro h hm b ⟨e, sz, fr, fz, els, c1, ho, hr⟩
              exact hc.own h _ b ho (.of hr)
            have htree : ∀ h ∈ l, ∀ b, TreeB ρ1 (look s'.heap) h b → x.own b := by
              rintro h hm b ⟨e, sz, ie, els, ho, hr⟩
              exact hc.own h _ b ho hr
            obtain ⟨v', hv', hav⟩ := henv 0 (c.res ix) (by simp)
            have hvv : v = v' := by
              rw [show look [(0, v)] 0 = some v from rfl] at hv'
              exact Option.some.inj hv'
            subst hvv
            refine ⟨q1, cv, r1, cv, _, _, _, rfl, ⟨hheap c.k, hav cv r2, hc.os, hc.tape, hc.output, hc.size, hc.wr, hc.blk, fun b hb => .inl (hc.f1 b hb), fun b hb => ?_, fun b hb => .inl (hc.f2 b hb), fun b hb => ?_, fun h o o' hk ho ho' => ?_, fun h o b ho hr => ?_, fun h e sz ie els ho => ?_⟩⟩
            · rcases hb with hb | ⟨h, hm, hr⟩
              · exact hc.g1 b hb
              · exact .inr (hr.elim (hrow h hm b) (htree h hm b))
            · rcases hb with hb | ⟨h, hm, hk, hr⟩
              · exact hc.g2 b hb
              · exact .inr (hrow h hm b hr)
            · obtain ⟨t, ht⟩ := htg h o' ho'
              obtain rfl := (lentSame_ok hls h t (tgt_mem ht)).1 hk
              rw [rhoOf_at, ht]
              exact (hc.old h o ho).1
            · obtain ⟨t, q, o', p1, p2, p3, p4, _⟩ := ownOf hf' ho hr
              exact hc.own q o' b p3 p4
            · intro a b z hz
              obtain ⟨t, ht⟩ := htg h _ ho
              obtain ⟨o1, ho1, hm1⟩ := hf' h t ht
              rw [ho] at ho1
              obtain rfl := Option.some.inj ho1
              have key : ∀ els' : List (List TC), tcAt (els'.map (List.map TC.unref)) a b ≠ some (.ref z) := by
                intro els' h1
                rw [tcAt_map] at h1
                cases h2 : tcAt els' a b with
                | none => rw [h2] at h1; cases h1
                | some u => rw [h2] at h1; cases u <;> cases h1
              cases t with
              | full q =>
                obtain ⟨els', _, rfl⟩ := hm1
                exact key els' hz
              | trunc q n => exact hm1.elim
              | nil =>
                obtain ⟨_, rfl⟩ := hm1
                simp [tcAt] at hz
        cases e with
        | normal => exact hend h1
        | ret => exact hend h1
        | _ => exact h1.elim
/-- One function more. -/
theorem GamOk.cons (hΓ : GamOk P Γ) {f : FuncId} {fn : Func} (hf : P.funcs[f]? = some fn) (hname : (fn.name == "runtime.NumGoroutine") = false) (hb : fn.body.isSome = true) {c : Ctr} (hS : Sound P f c) : GamOk P ((f, c) :: Γ) := by
  intro g d hg
  by_cases h : f = g
  · subst h
    rw [look_cons_same] at hg
    obtain rfl := Option.some.inj hg
    refine ⟨fun args w => ?_, fun k0 nx vs cs w F1 F2 ρ H hh ha x ps v rd ups hc hp hn => call_ok hS hh ha hc hp hn⟩
    have h1 : fn.name ≠ "runtime.NumGoroutine" := by simpa using hname
    cases hbb : fn.body with
    | none => rw [hbb] at hb; cases hb
    | some code => simp [callFunc, hf, h1, hbb]
  · rw [look_cons_ne _ _ h] at hg
    exact hΓ g d hg
theorem GamOk.nil : GamOk P [] := fun f c h => by cases h
theorem GamOk.step (hm : P.follows .mixedOrders = true) (hT : tabOk P T = true) (hΓ : GamOk P Γ) {f : FuncId} {fn : Func} (hf : P.funcs[f]? = some fn) (hname : (fn.name == "runtime.NumGoroutine") = false) (hb : fn.body.isSome = true) {c : Ctr} (h : Does Γ T fn c) : GamOk P ((f, c) :: Γ) :=
  GamOk.cons hΓ hf hname hb (does_sound hm hT hΓ hf h)
end
end Go.Proofs.Ytonbbaimkpjcfaa.Ev
