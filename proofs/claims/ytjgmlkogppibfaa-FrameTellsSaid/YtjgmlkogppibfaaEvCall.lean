/- What a contract says of the machine's call; names changed. No conditions. -/
import Derived.Test.YtjgmlkogppibfaaEvSound
namespace Go.Proofs.Ytjgmlkogppibfaa.Ev
open Go
set_option linter.unusedVariables false
set_option linter.unusedSimpArgs false

/-- The blocks of what was lent. -/
def LentB (ρ : Nat → Option (Nat × Nat)) (H : Hp) (b : Nat) : Prop := ∃ h o c, H h = some o ∧ ρ h = some (b, c)
/-- What holds after a call. -/
structure Fin (k : Nat) (w : World) (F1 F2 : Nat → Prop) (ρ : Nat → Option (Nat × Nat)) (H : Hp) (cv : Value) (w' : World) (v : AV) (H' : Hp) (F1' F2' : Nat → Prop) (ρ' : Nat → Option (Nat × Nat)) : Prop where
  heap : HeapR k w' F1' F2' ρ' H'
  res : AVR w' F1' F2' ρ' H' v cv
  os : w'.os = w.os
  tape : w'.tape = w.tape
  output : w'.output = w.output
  size : w.heap.size ≤ w'.heap.size
  wr : ∀ b, b < w.heap.size → ¬ LentB ρ H b → w'.heap[b]? = w.heap[b]?
  blk : ∀ b, F1 b → w'.heap[b]? = w.heap[b]?
  f1 : ∀ b, F1 b → F1' b
  g1 : ∀ b, F1' b → F1 b ∨ w.heap.size ≤ b ∨ LentB ρ H b
  f2 : ∀ b, F2 b → F2' b
  g2 : ∀ b, F2' b → F2 b ∨ w.heap.size ≤ b ∨ LentB ρ H b
  rho : ∀ h o o', h < k → H h = some o → H' h = some o' → ρ' h = ρ h
  own : ∀ h o b c, H' h = some o → ρ' h = some (b, c) → w.heap.size ≤ b ∨ LentB ρ H b
/-- A contract holds of the machine's calls. -/
def Sound (P : Program) (f : FuncId) (c : Ctr) : Prop := ∀ x, c.pre x → ∀ (w : World) (F1 F2 : Nat → Prop) (ρ : Nat → Option (Nat × Nat)) (cs : Array Value), HeapR c.k w F1 F2 ρ (look (c.heap x)) → ArgsR w F1 F2 ρ (look (c.heap x)) (c.args x) cs →
  (∀ h o, look (c.heap x) h = some o → h < c.k) →
  Calls P f cs w fun e w' => ∃ cv F1' F2' ρ', e = .returned cv ∧ Fin c.k w F1 F2 ρ (look (c.heap x)) cv w' (c.res x) (look (c.heap' x)) F1' F2' ρ'

section
variable {w : World} {F1 F2 F1' F2' : Nat → Prop} {ρ ρ' : Nat → Option (Nat × Nat)} {H H' : Hp} {g : Nat → Nat}
theorem renO_row {o : Ob} {e : TypeId} {sz : Nat} {fr fz : Bool} {els : List PV} (h : renO g o = .row e sz fr fz els) : o = .row e sz fr fz els := by
  cases o with
  | row => exact h
  | box => cases h
  | gone => cases h
theorem AVR.ren (hdom : ∀ i o, H i = some o → H' (g i) = some (renO g o) ∧ ρ' (g i) = ρ i) (h2 : ∀ b, F2 b → F2' b) : ∀ (n : Nat) (v : AV) (c : Value), deepV n v = true → ((∀ b, F1 b → F1' b) ∨ trueV n v = true) → AVR w F1 F2 ρ H v c → AVR w F1' F2' ρ' H' (renV g n v) c := by
  intro n
  induction n with
  | zero => intro v c h; cases h
  | succ n ih =>
    intro v c hd hfl h
    have hflag : ∀ fr, ((∀ b, F1 b → F1' b) ∨ fr = true) → ∀ b, flagF fr F1 F2 b → flagF fr F1' F2' b := by
      intro fr hf b hb
      cases fr with
      | true => exact h2 b hb
      | false => exact hf.elim (fun h => h b hb) (fun h => by cases h)
    have hlist : ∀ (l : List AV) (vs : Array Value), l.all (deepV n) = true → ((∀ b, F1 b → F1' b) ∨ l.all (trueV n) = true) → vs.size = l.length → (∀ i v, l[i]? = some v → AVR w F1 F2 ρ H v (vs.getD i undef)) →
        vs.size = (l.map (renV g n)).length ∧ ∀ i v, (l.map (renV g n))[i]? = some v → AVR w F1' F2' ρ' H' v (vs.getD i undef) := by
      intro l vs hl hf hs hv
      refine ⟨by simpa using hs, fun i v hi => ?_⟩
      rw [List.getElem?_map] at hi
      cases hli : l[i]? with
      | none => rw [hli] at hi; cases hi
      | some u =>
        rw [hli] at hi
        obtain rfl := Option.some.inj hi
        have hmem := List.mem_of_getElem? hli
        exact ih u _ (List.all_eq_true.1 hl u hmem) (hf.imp id fun h => List.all_eq_true.1 h u hmem) (hv i u hli)
    cases h with
    | p fr v c h => exact .p fr v c (h.mono (fun _ _ => rfl) (hflag fr (hfl.imp id fun h => by simpa [trueV] using h)))
    | rowf h c o ho hsl hr =>
      obtain ⟨h3, h4⟩ := hdom h o ho
      refine .rowf (g h) c _ h3 hsl fun e sz fr fz els he => ?_
      rw [h4]
      exact hr e sz fr fz els (renO_row he)
    | row h off m c o ho hsl hr =>
      obtain ⟨h3, h4⟩ := hdom h o ho
      refine .row (g h) off m c _ h3 hsl fun e sz fr fz els he => ?_
      rw [h4]
      exact hr e sz fr fz els (renO_row he)
    | ptr h off b cp o ho hr =>
      obtain ⟨h3, h4⟩ := hdom h o ho
      exact .ptr (g h) off b cp _ h3 (by rw [h4]; exact hr)
    | eptr fr cs ad hsp hf hc =>
      have hq := hflag fr (hfl.imp id fun h => by simpa [trueV] using h)
      refine .eptr fr cs ad hsp (hq _ hf) fun i v hv => ?_
      obtain ⟨c, h3, h4⟩ := hc i v hv
      exact ⟨c, h3, h4.mono (fun _ _ => rfl) hq⟩
    | rptr h i off c o ho hsl hr =>
      obtain ⟨h3, h4⟩ := hdom h o ho
      refine .rptr (g h) i off c _ h3 hsl fun e sz fr fz els he => ?_
      rw [h4]
      exact hr e sz fr fz els (renO_row he)
    | func f first caps fv cv h3 h4 h5 h6 =>
      simp only [deepV, Bool.and_eq_true] at hd
      have hf1 : (∀ b, F1 b → F1' b) ∨ first.all (trueV n) = true := hfl.imp id fun h => by simp only [trueV, Bool.and_eq_true] at h; exact h.1
      have hf2 : (∀ b, F1 b → F1' b) ∨ caps.all (trueV n) = true := hfl.imp id fun h => by simp only [trueV, Bool.and_eq_true] at h; exact h.2
      obtain ⟨q1, q2⟩ := hlist first fv hd.1 hf1 h3 h4
      obtain ⟨q3, q4⟩ := hlist caps cv hd.2 hf2 h5 h6
      exact .func f _ _ fv cv q1 q2 q3 q4
    | agg cs vs h3 h4 =>
      obtain ⟨q1, q2⟩ := hlist cs vs (by simpa only [deepV] using hd) (hfl.imp id fun h => by simpa only [trueV] using h) h3 h4
      exact .agg _ vs q1 q2
    | tuple cs vs h3 h4 =>
      obtain ⟨q1, q2⟩ := hlist cs vs (by simpa only [deepV] using hd) (hfl.imp id fun h => by simpa only [trueV] using h) h3 h4
      exact .tuple _ vs q1 q2
theorem deepH_mem : ∀ {l : List (Nat × Ob)}, deepH l = true → ∀ i cs, (i, Ob.box cs) ∈ l → cs.all (deepV 5) = true
  | [], _, i, cs, h => by cases h
  | (j, o) :: r, hd, i, cs, h => by
    simp only [deepH, Bool.and_eq_true] at hd
    rcases List.mem_cons.1 h with he | he
    · obtain ⟨rfl, rfl⟩ := Prod.mk.inj he
      exact hd.1
    · exact deepH_mem hd.2 i cs he
theorem trueH_box : ∀ {l : List (Nat × Ob)}, trueH l = true → ∀ i cs, (i, Ob.box cs) ∈ l → cs.all (trueV 5) = true
  | [], _, i, cs, h => by cases h
  | (j, o) :: r, hd, i, cs, h => by
    simp only [trueH, Bool.and_eq_true] at hd
    rcases List.mem_cons.1 h with he | he
    · obtain ⟨rfl, rfl⟩ := Prod.mk.inj he
      exact hd.1
    · exact trueH_box hd.2 i cs he
theorem trueH_row : ∀ {l : List (Nat × Ob)}, trueH l = true → ∀ i e sz fr fz els, (i, Ob.row e sz fr fz els) ∈ l → fr = true
  | [], _, i, _, _, _, _, _, h => by cases h
  | (j, o) :: r, hd, i, e, sz, fr, fz, els, h => by
    simp only [trueH, Bool.and_eq_true] at hd
    rcases List.mem_cons.1 h with he | he
    · obtain ⟨rfl, rfl⟩ := Prod.mk.inj he
      exact hd.1
    · exact trueH_row hd.2 i e sz fr fz els he
theorem noGone_mem : ∀ {l : List (Nat × Ob)}, noGone l = true → ∀ i, (i, Ob.gone) ∉ l
  | [], _, i, h => by cases h
  | (j, o) :: r, hd, i, h => by
    simp only [noGone, Bool.and_eq_true] at hd
    rcases List.mem_cons.1 h with he | he
    · obtain ⟨rfl, rfl⟩ := Prod.mk.inj he
      have := hd.1
      cases this
    · exact noGone_mem hd.2 i he
theorem noTrunc_mem : ∀ {σ : Sg}, noTrunc σ = true → ∀ i t, (i, t) ∈ σ → ∃ h, t = .full h
  | [], _, i, t, h => by cases h
  | (j, u) :: r, hd, i, t, h => by
    simp only [noTrunc, Bool.and_eq_true] at hd
    rcases List.mem_cons.1 h with he | he
    · obtain ⟨rfl, rfl⟩ := Prod.mk.inj he
      have := hd.1
      cases t with
      | full q => exact ⟨q, rfl⟩
      | trunc q n => cases this
      | nil => cases this
    · exact noTrunc_mem hd.2 i t he
theorem lowestOk_mem {k0 : Nat} : ∀ {l : List Nat}, lowestOk k0 l = true → ∀ h ∈ l, k0 ≤ h
  | [], _, h, hm => by cases hm
  | i :: r, hd, h, hm => by
    simp only [lowestOk, Bool.and_eq_true] at hd
    rcases List.mem_cons.1 hm with rfl | he
    · exact Nat.le_of_ble_eq_true hd.1
    · exact lowestOk_mem hd.2 h he
/-- What one thing handed back is, beside the thing lent. -/
theorem sameLen_mem {k : Nat} {h : List (Nat × Ob)} : ∀ {l : List (Nat × Ob)} {ps : List Prop}, sameLen k h l = some ps → allP ps → ∀ i o, (i, o) ∈ l →
    (∀ e sz fr fz els, o = .row e sz fr fz els → fz = false) ∧ match look h i with
      | none => k ≤ i
      | some o0 => match o with
        | .row e sz fr fz els => ∃ fr' fz' els', o0 = .row e sz fr' fz' els' ∧ els.length = els'.length
        | .box _ => ∃ ds, o0 = .box ds
        | .gone => True
  | [], ps, _, _, i, o, hm => by cases hm
  | (j, q) :: r, ps, hs, hp, i, o, hm => by
    unfold sameLen at hs
    cases hr : sameLen k h r with
    | none => rw [hr] at hs; cases hs
    | some l0 =>
      rw [hr] at hs
      simp only at hs
      have hrec : allP l0 → ∀ i o, (i, o) ∈ r → _ := fun hp0 => sameLen_mem hr hp0
      cases hl : look h j with
      | none =>
        rw [hl] at hs
        simp only at hs
        cases hb : Nat.ble k j with
        | false => rw [hb] at hs; cases hs
        | true =>
          rw [hb] at hs
          have hj : k ≤ j := Nat.le_of_ble_eq_true hb
          cases q with
          | box cs =>
            cases hs
            rcases List.mem_cons.1 hm with he | he
            · obtain ⟨rfl, rfl⟩ := Prod.mk.inj he
              rw [hl]
              exact ⟨fun e sz fr fz els h => (by cases h), hj⟩
            · exact hrec hp i o he
          | gone =>
            cases hs
            rcases List.mem_cons.1 hm with he | he
            · obtain ⟨rfl, rfl⟩ := Prod.mk.inj he
              rw [hl]
              exact ⟨fun e sz fr fz els h => (by cases h), hj⟩
            · exact hrec hp i o he
          | row e sz fr fz els =>
            cases fz with
            | true => cases hs
            | false =>
              cases hs
              rcases List.mem_cons.1 hm with he | he
              · obtain ⟨rfl, rfl⟩ := Prod.mk.inj he
                rw [hl]
                exact ⟨fun e sz fr fz els h => (by cases h; rfl), hj⟩
              · exact hrec hp i o he
      | some o0 =>
        rw [hl] at hs
        simp only at hs
        cases q with
        | box cs =>
          cases o0 with
          | box ds =>
            cases hs
            rcases List.mem_cons.1 hm with he | he
            · obtain ⟨rfl, rfl⟩ := Prod.mk.inj he
              rw [hl]
              exact ⟨fun e sz fr fz els h => (by cases h), ⟨ds, rfl⟩⟩
            · exact hrec hp i o he
          | _ => cases hs
        | gone =>
          have hs : some l0 = some ps := by cases o0 <;> exact hs
          cases hs
          rcases List.mem_cons.1 hm with he | he
          · obtain ⟨rfl, rfl⟩ := Prod.mk.inj he
            rw [hl]
            exact ⟨fun e sz fr fz els h => (by cases h), trivial⟩
          · exact hrec hp i o he
        | row e sz fr fz els =>
          cases fz with
          | true => cases o0 <;> cases hs
          | false =>
            cases o0 with
            | row e' sz' fr' fz' els' =>
              simp only at hs
              split at hs
              · rename_i hb
                cases hs
                simp only [Bool.and_eq_true] at hb
                obtain rfl := Nat.eq_of_beq_eq_true hb.1
                obtain rfl := Nat.eq_of_beq_eq_true hb.2
                have hp2 : els.length = els'.length ∧ allP l0 := by
                  cases l0 with
                  | nil => exact ⟨hp, trivial⟩
                  | cons p ps => exact hp
                rcases List.mem_cons.1 hm with he | he
                · obtain ⟨rfl, rfl⟩ := Prod.mk.inj he
                  rw [hl]
                  exact ⟨fun e sz fr fz els h => (by cases h; rfl), fr', fz', els', rfl, hp2.1⟩
                · exact hrec hp2.2 i o he
              · cases hs
            | _ => cases hs
end
end Go.Proofs.Ytjgmlkogppibfaa.Ev
