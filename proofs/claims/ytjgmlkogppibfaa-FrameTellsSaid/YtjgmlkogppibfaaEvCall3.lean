/- A call by its contract: the proof. No conditions. -/
import Derived.Test.YtjgmlkogppibfaaEvCall2
namespace Go.Proofs.Ytjgmlkogppibfaa.Ev
open Go
set_option linter.unusedVariables false
set_option linter.unusedSimpArgs false
section
variable {w w' : World} {F1 F2 F1' F2' : Nat → Prop} {ρ ρ' : Nat → Option (Nat × Nat)} {H : Hp} {k0 k nx : Nat} {σ : Sg} {FL FL' : List (Nat × Ob)} {fz bo : List Nat} {cv : Value} {v : AV}

/-- The caller's numbering after a call. -/
def rhoBack (k nx : Nat) (H : Hp) (ρ ρ' : Nat → Option (Nat × Nat)) (h : Nat) : Option (Nat × Nat) := match H h with
  | some _ => ρ h
  | none => ρ' (k + (h - nx))

theorem call_back (N : Names k0 k nx H σ FL FL' fz) (hs : nodup (ids σ) = true) (hh : HeapR k0 w F1 F2 ρ H) (hfz : ∀ h ∈ fz, k0 ≤ h) (hbo : ∀ h ∈ bo, h ∉ sgIds σ)
    (hdeep : deepV 5 v = true) (hdeepH : deepH FL' = true) (hcase : bo = [] ∨ (trueV 5 v = true ∧ trueH FL' = true))
    (F : Fin k w (G1of F1 ρ H (fz ++ bo)) (G2of k0 F2 ρ H fz) (rhoOf σ ρ) (look FL) cv w' v (look FL') F1' F2' ρ') :
    ∃ F1'' , OpR k0 w F1 F2 ρ H cv w' (renV (trId σ k nx) 5 v) (upd H (renH σ k nx FL' ++ goneOf σ (ids FL') ++ freeze H fz)) F1'' F2' (rhoBack k nx H ρ ρ') := by
  -- the lent blocks are the live blocks of what was lent
  have hLB : ∀ b, LentB (rhoOf σ ρ) (look FL) b → ∃ q o cp, q ∈ sgIds σ ∧ H q = some o ∧ o.live ∧ ρ q = some (b, cp) := by
    rintro b ⟨i, o, cp, h1, h2⟩
    obtain ⟨t, q, h3, h4, h5⟩ := rhoOf_some h2
    obtain ⟨q', rfl⟩ := N.full i t (tgt_mem h3)
    obtain rfl := Option.some.inj h4
    obtain ⟨o', ho', oq, h6, h7, _⟩ := N.live i q' h3
    exact ⟨q', oq, cp, sgIds_mem (tgt_mem h3) rfl, h6, h7, h5⟩
  have hrow : ∀ h b, RowB ρ H h b → F1 b ∨ LiveB ρ H b := by
    rintro h b ⟨e, sz, fr, fz, els, c, ho, hr⟩
    cases fz with
    | false => exact .inr ⟨h, _, c, ho, rfl, hr⟩
    | true =>
      obtain ⟨_, _, h3⟩ := hh.row ho
      rw [hr] at h3
      obtain ⟨cur, _, _, _, _, _, h4⟩ := h3
      exact .inl (h4 rfl).1
  have hrow2 : ∀ h b, k0 ≤ h → RowB ρ H h b → F2 b ∨ LiveB ρ H b := by
    rintro h b hk ⟨e, sz, fr, fz, els, c, ho, hr⟩
    cases fz with
    | false => exact .inr ⟨h, _, c, ho, rfl, hr⟩
    | true =>
      obtain ⟨_, _, h3⟩ := hh.row ho
      rw [hr] at h3
      obtain ⟨cur, _, _, _, _, _, h4⟩ := h3
      exact .inl ((h4 rfl).2 hk)
  -- what lies still from now on
  have hF : ∃ F1'' : Nat → Prop, (∀ b, F1 b → F1'' b) ∧ (∀ h ∈ fz, ∀ b, RowB ρ H h b → F1'' b) ∧ (∀ b, F2' b → F1'' b) ∧ (∀ b, F1'' b → F1' b) ∧
      (∀ b, F1'' b → F1 b ∨ (∃ h ∈ fz, RowB ρ H h b) ∨ w.heap.size ≤ b ∨ LentB (rhoOf σ ρ) (look FL) b) ∧ ((∀ b, F1' b → F1'' b) ∨ (trueV 5 v = true ∧ trueH FL' = true)) := by
    rcases hcase with rfl | hc
    · refine ⟨F1', fun b hb => F.f1 b (.inl hb), fun h hm b hb => F.f1 b (.inr ⟨h, by simpa using hm, hb⟩), F.heap.sub, fun b hb => hb, fun b hb => ?_, .inl fun b hb => hb⟩
      rcases F.g1 b hb with (h1 | ⟨h, hm, h1⟩) | h1 | h1
      · exact .inl h1
      · exact .inr (.inl ⟨h, by simpa using hm, h1⟩)
      · exact .inr (.inr (.inl h1))
      · exact .inr (.inr (.inr h1))
    · refine ⟨fun b => F1 b ∨ (∃ h ∈ fz, RowB ρ H h b) ∨ F2' b, fun b hb => .inl hb, fun h hm b hb => .inr (.inl ⟨h, hm, hb⟩), fun b hb => .inr (.inr hb), fun b hb => ?_, fun b hb => ?_, .inr hc⟩
      · rcases hb with h1 | ⟨h, hm, h1⟩ | h1
        · exact F.f1 b (.inl h1)
        · exact F.f1 b (.inr ⟨h, List.mem_append.2 (.inl hm), h1⟩)
        · exact F.heap.sub b h1
      · rcases hb with h1 | h1 | h1
        · exact .inl h1
        · exact .inr (.inl h1)
        · rcases F.g2 b h1 with (h2 | ⟨h, hm, _, h2⟩) | h2 | h2
          · exact .inl (hh.sub b h2)
          · exact .inr (.inl ⟨h, hm, h2⟩)
          · exact .inr (.inr (.inl h2))
          · exact .inr (.inr (.inr h2))
  obtain ⟨F1'', i1, i2, i3, i4, i5, i6⟩ := hF
  have hcls := N.cls hs
  have hrenamed : ∀ i o, (i, o) ∈ FL' → upd H (renH σ k nx FL' ++ goneOf σ (ids FL') ++ freeze H fz) (trId σ k nx i) = some (renO (trId σ k nx) o) := fun i o hm => N.renamed hs hm
  generalize hU : renH σ k nx FL' ++ goneOf σ (ids FL') ++ freeze H fz = ups at hcls hrenamed ⊢
  have hf2 : ∀ b, F2 b → F2' b := fun b hb => F.f2 b (.inl hb)
  -- a renamed thing lies where it lies
  have hrho : ∀ i o, (i, o) ∈ FL' → rhoBack k nx H ρ ρ' (trId σ k nx i) = ρ' i := by
    intro i o hm
    unfold rhoBack
    rcases N.kind hm with ⟨o0, q, h1, h2, h3, h4⟩ | ⟨h1, h2, h3⟩
    · obtain ⟨_, _, oq, hq, _⟩ := N.live i q h3
      rw [h4, hq]
      simp only
      rw [F.rho i o0 o h1 h2 (look_of_mem N.ndF hm)]
      unfold rhoOf
      rw [h3]
    · rw [h3]
      simp only
      rw [h2, show k + (nx + (i - k) - nx) = i by omega]
  have hdom : ∀ i o, look FL' i = some o → upd H ups (trId σ k nx i) = some (renO (trId σ k nx) o) ∧ rhoBack k nx H ρ ρ' (trId σ k nx i) = ρ' i := fun i o ho => ⟨hrenamed i o (look_mem ho), hrho i o (look_mem ho)⟩
  have hrhoold : ∀ h o, H h = some o → rhoBack k nx H ρ ρ' h = ρ h := by
    intro h o ho
    unfold rhoBack
    rw [ho]
  have t : Trans w F1 F2 ρ H w' F1'' F2' (rhoBack k nx H ρ ρ') (upd H ups) := by
    refine ⟨F.size, fun b hb => F.blk b (.inl hb), i1, hf2, hrhoold, fun h o ho => ?_⟩
    rcases hcls h with ⟨i, o', hm, rfl, h2⟩ | ⟨_, h2⟩ | ⟨_, _, e, sz, fr, f, els, h3, h2⟩ | ⟨_, _, h2⟩
    · refine ⟨_, h2, ?_⟩
      rcases N.kind hm with ⟨o0, q, h3, h4, h5, h6⟩ | ⟨h3, h4, h5⟩
      · have hb := (N.back i o' hm).2
        rw [h4] at hb
        obtain ⟨o1, ho1, oq, hq, hql, hbox, hrw⟩ := N.live i q h5
        rw [h4] at ho1
        obtain rfl := Option.some.inj ho1
        rw [h6, hq] at ho
        obtain rfl := Option.some.inj ho
        refine ⟨fun e sz fr fz els he => ?_, fun _ => hql⟩
        obtain rfl := renO_row he
        obtain ⟨fr', fz', els', rfl, hlen⟩ := hb
        obtain ⟨fr2, rfl⟩ := hrw _ _ _ _ _ rfl
        exact ⟨_, _, _, rfl, hlen⟩
      · rw [h5] at ho
        cases ho
    · exact ⟨_, h2, fun e sz fr fz els he => by (cases he), fun h => by (cases h)⟩
    · rw [h3] at ho
      obtain rfl := Option.some.inj ho
      refine ⟨_, h2, fun e' sz' fr' fz' els' he => ?_, fun h => ?_⟩
      · cases he
        exact ⟨_, _, _, rfl, rfl⟩
      · exact absurd (show true = false from h) (by simp)
    · exact ⟨o, by rw [h2]; exact ho, Ob.after_refl o⟩
  -- what was not lent is as it was
  have hkeep : ∀ h o, H h = some o → h ∉ sgIds σ → ObR k0 w' F1'' F2' (rhoBack k nx H ρ ρ') (upd H ups) h o := by
    intro h o ho hn
    refine ObR.keep t hh ho fun hl b c hr => F.wr b (hh.blk_lt ho hl hr) fun hL => ?_
    obtain ⟨q, oq, cp, h1, h2, h3, h4⟩ := hLB b hL
    exact hh.sep h q o oq b c cp ho h2 hl h3 (fun he => hn (he ▸ h1)) hr h4
  have hren : ∀ i o, (i, o) ∈ FL' → ObR k0 w' F1'' F2' (rhoBack k nx H ρ ρ') (upd H ups) (trId σ k nx i) (renO (trId σ k nx) o) := by
    intro i o hm
    have hob := F.heap.obj i o (look_of_mem N.ndF hm)
    cases o with
    | box cs =>
      obtain ⟨b, cp, cur, ty, h1, h2, h3, h4⟩ := hob
      have hd := deepH_mem hdeepH i cs hm
      refine ⟨b, cp, cur, ty, by rw [hrho i _ hm]; exact h1, h2, by simp [renVs]; exact h3, fun j u hu => ?_⟩
      unfold renVs at hu
      rw [List.getElem?_map] at hu
      cases hj : cs[j]? with
      | none => rw [hj] at hu; cases hu
      | some u0 =>
        rw [hj] at hu
        obtain rfl := Option.some.inj hu
        have hmem := List.mem_of_getElem? hj
        exact AVR.ren hdom (fun b hb => hb) 5 u0 _ (List.all_eq_true.1 hd u0 hmem) (i6.imp id fun h => List.all_eq_true.1 (trueH_box h.2 i cs hm) u0 hmem) (h4 j u0 hj)
    | row e sz fr fz els =>
      obtain ⟨h1, h2, h3⟩ := hob
      obtain rfl := (N.back i _ hm).1 _ _ _ _ _ rfl
      refine ⟨h1, h2, ?_⟩
      rw [hrho i _ hm]
      cases hρ : ρ' i with
      | none => rw [hρ] at h3; exact h3
      | some gc =>
        obtain ⟨g, cap⟩ := gc
        rw [hρ] at h3
        obtain ⟨cur, h4, h5, h6, h7, h8, _⟩ := h3
        refine ⟨cur, h4, h5, h6, h7, fun j u hj => (h8 j u hj).mono (fun _ _ => rfl) ?_, fun h => by (cases h)⟩
        cases fr with
        | true => exact fun b hb => hb
        | false => exact i6.elim (fun h => h) fun h => by have := trueH_row h.2 i _ _ _ _ _ hm; cases this
    | gone => trivial
  -- where a live thing of the caller lies now
  have hlive : ∀ h o b c, upd H ups h = some o → o.live → rhoBack k nx H ρ ρ' h = some (b, c) →
      (∃ i o0, (i, o0) ∈ FL' ∧ h = trId σ k nx i ∧ o0.live ∧ ρ' i = some (b, c) ∧ ((∃ oq, h ∈ sgIds σ ∧ H h = some oq ∧ oq.live ∧ ρ h = some (b, c)) ∨ (H h = none ∧ (w.heap.size ≤ b ∨ LentB (rhoOf σ ρ) (look FL) b)))) ∨
      (h ∉ sgIds σ ∧ h ∉ fz ∧ H h = some o ∧ ρ h = some (b, c)) := by
    intro h o b c ho hl hr
    rcases hcls h with ⟨i, o', hm, rfl, h2⟩ | ⟨_, h2⟩ | ⟨_, _, e, sz, fr, f, els, h3, h2⟩ | ⟨h3, h4, h2⟩
    · rw [h2] at ho
      obtain rfl := Option.some.inj ho
      have hr' := hr
      rw [hrho i o' hm] at hr'
      refine .inl ⟨i, o', hm, rfl, renO_live.1 hl, hr', ?_⟩
      rcases N.kind hm with ⟨o0, q, h3, h4, h5, h6⟩ | ⟨h3, h4, h5⟩
      · obtain ⟨o1, ho1, oq, hq, hql, _⟩ := N.live i q h5
        rw [h6] at hr ⊢
        rw [hrhoold q oq hq] at hr
        exact .inl ⟨oq, sgIds_mem (tgt_mem h5) rfl, hq, hql, hr⟩
      · exact .inr ⟨h5, F.own i o' b c (look_of_mem N.ndF hm) hr'⟩
    · rw [h2] at ho
      obtain rfl := Option.some.inj ho
      exact hl.elim
    · rw [h2] at ho
      obtain rfl := Option.some.inj ho
      exact absurd (show true = false from hl) (by simp)
    · rw [h2] at ho
      rw [hrhoold h o ho] at hr
      exact .inr ⟨h3, h4, ho, hr⟩
  have hheap : HeapR k0 w' F1'' F2' (rhoBack k nx H ρ ρ') (upd H ups) := by
    refine ⟨fun h o ho => ?_, fun h h' o o' b c c' ho ho' hl hl' hne hr hr' => ?_, fun h o b c ho hl hr hb => ?_, i3, fun b hb => F.heap.lt b (i4 b hb)⟩
    · rcases hcls h with ⟨i, o', hm, rfl, h2⟩ | ⟨_, h2⟩ | ⟨h3, h4, e, sz, fr, f, els, h5, h2⟩ | ⟨h3, h4, h2⟩
      · rw [h2] at ho
        obtain rfl := Option.some.inj ho
        exact hren i o' hm
      · rw [h2] at ho
        obtain rfl := Option.some.inj ho
        trivial
      · rw [h2] at ho
        obtain rfl := Option.some.inj ho
        obtain ⟨q1, q2, q3⟩ := hkeep h _ h5 h4
        refine ⟨q1, q2, ?_⟩
        have hρ0 := hrhoold h _ h5
        cases hρ : rhoBack k nx H ρ ρ' h with
        | none => rw [hρ] at q3; exact q3
        | some gc =>
          obtain ⟨g, cap⟩ := gc
          rw [hρ] at q3
          obtain ⟨cur, q4, q5, q6, q7, q8, _⟩ := q3
          have hRB : RowB ρ H h g := ⟨e, sz, fr, f, els, cap, h5, by rw [← hρ0]; exact hρ⟩
          exact ⟨cur, q4, q5, q6, q7, q8, fun _ => ⟨i2 h h3 g hRB, fun hk => F.f2 g (.inr ⟨h, h3, hk, hRB⟩)⟩⟩
      · rw [h2] at ho
        exact hkeep h o ho h3
    · rcases hlive h o b c ho hl hr with ⟨i, o0, hm, rfl, hl0, hr0, hk⟩ | ⟨h3, h4, h5, h6⟩ <;> rcases hlive h' o' b c' ho' hl' hr' with ⟨i', o0', hm', rfl, hl0', hr0', hk'⟩ | ⟨h3', h4', h5', h6'⟩
      · exact F.heap.sep i i' o0 o0' b c c' (look_of_mem N.ndF hm) (look_of_mem N.ndF hm') hl0 hl0' (fun he => hne (by rw [he])) hr0 hr0'
      · rcases hk with ⟨oq, q1, q2, q3, q4⟩ | ⟨q1, q2 | q2⟩
        · exact hh.sep _ h' oq o' b c c' q2 h5' q3 hl' hne q4 h6'
        · have := hh.blk_lt h5' hl' h6'
          omega
        · obtain ⟨q, oq, cp, q3, q4, q5, q6⟩ := hLB b q2
          exact hh.sep q h' oq o' b cp c' q4 h5' q5 hl' (fun he => h3' (he ▸ q3)) q6 h6'
      · rcases hk' with ⟨oq, q1, q2, q3, q4⟩ | ⟨q1, q2 | q2⟩
        · exact hh.sep h _ o oq b c c' h5 q2 hl q3 hne h6 q4
        · have := hh.blk_lt h5 hl h6
          omega
        · obtain ⟨q, oq, cp, q3, q4, q5, q6⟩ := hLB b q2
          exact hh.sep q h oq o b cp c q4 h5 q5 hl (fun he => h3 (he ▸ q3)) q6 h6
      · exact hh.sep h h' o o' b c c' h5 h5' hl hl' hne h6 h6'
    · rcases hlive h o b c ho hl hr with ⟨i, o0, hm, rfl, hl0, hr0, hk⟩ | ⟨h3, h4, h5, h6⟩
      · exact F.heap.off i o0 b c (look_of_mem N.ndF hm) hl0 hr0 (i4 b hb)
      · rcases i5 b hb with q1 | ⟨h1, hm1, e, sz, fr, f, els, c1, q1, q2⟩ | q1 | q1
        · exact hh.off h o b c h5 hl h6 q1
        · cases f with
          | false => exact hh.sep h1 h _ o b c1 c q1 h5 rfl hl (fun he => h4 (he ▸ hm1)) q2 h6
          | true =>
            obtain ⟨_, _, q3⟩ := hh.row q1
            rw [q2] at q3
            obtain ⟨cur, _, _, _, _, _, q4⟩ := q3
            exact hh.off h o b c h5 hl h6 (q4 rfl).1
        · have := hh.blk_lt h5 hl h6
          omega
        · obtain ⟨q, oq, cp, q3, q4, q5, q6⟩ := hLB b q1
          exact hh.sep q h oq o b cp c q4 h5 q5 hl (fun he => h3 (he ▸ q3)) q6 h6
  have hLL : ∀ b, LentB (rhoOf σ ρ) (look FL) b → LiveB ρ H b := by
    intro b hb
    obtain ⟨q, oq, cp, q3, q4, q5, q6⟩ := hLB b hb
    exact ⟨q, oq, cp, q4, q5, q6⟩
  refine ⟨F1'', ⟨⟨t, hheap, F.os, F.tape, F.output, fun b hb hn => F.wr b hb fun hL => hn (hLL b hL), fun b hb => ?_, fun b hb => ?_, fun h o b c ho hr => ?_⟩, ?_⟩⟩
  · rcases i5 b hb with q1 | ⟨h1, hm1, q1⟩ | q1 | q1
    · exact .inl q1
    · exact (hrow h1 b q1).imp id .inl
    · exact .inr (.inr q1)
    · exact .inr (.inl (hLL b q1))
  · rcases F.g2 b hb with (q1 | ⟨h1, hm1, hk1, q1⟩) | q1 | q1
    · exact .inl q1
    · exact (hrow2 h1 b hk1 q1).imp id .inl
    · exact .inr (.inr q1)
    · exact .inr (.inl (hLL b q1))
  · cases hH : H h with
    | some o0 => exact .inl ⟨o0, rfl⟩
    | none =>
      rcases hcls h with ⟨i, o', hm, rfl, h2⟩ | ⟨h3, _⟩ | ⟨_, _, e, sz, fr, f, els, h3, _⟩ | ⟨h3, h4, h2⟩
      · rw [hrho i o' hm] at hr
        rcases F.own i o' b c (look_of_mem N.ndF hm) hr with q1 | q1
        · exact .inr (.inr q1)
        · exact .inr (.inl (hLL b q1))
      · obtain ⟨⟨i, tt⟩, h4, h5⟩ := sgIds_iff.1 h3
        obtain ⟨q, rfl⟩ := N.full i tt h4
        obtain rfl := Option.some.inj h5
        obtain ⟨_, _, oq, hq, _⟩ := N.live i q (tgt_of_mem hs h4)
        rw [hq] at hH
        cases hH
      · rw [h3] at hH
        cases hH
      · rw [h2, hH] at ho
        cases ho
  · exact AVR.ren hdom (fun b hb => hb) 5 v cv hdeep (i6.imp id fun h => h.1) F.res
end

theorem call_ok {P : Program} {f : FuncId} {c : Ctr} (hS : Sound P f c) {k0 nx : Nat} {as : List AV} {cs : Array Value} {w : World} {F1 F2 : Nat → Prop} {ρ : Nat → Option (Nat × Nat)} {H : Hp} (hh : HeapR k0 w F1 F2 ρ H) (ha : ArgsR w F1 F2 ρ H as cs)
    {x : c.Ix} {ps : List Prop} {v : AV} {rd : List Nat} {ups : List (Nat × Ob)} (hc : callAll c H k0 nx as x = some (ps, v, rd, ups)) (hp : allP ps) (hn : ∀ i, nx ≤ i → (look ups i).isSome = true → H i = none) : CallsAt P k0 f cs w F1 F2 ρ H v ups := by
  rw [callAll_eq] at hc
  generalize callRaw c x H as = raw at hc
  generalize sgUniq raw [] = σ at hc
  cases hm : callMt c x H k0 as σ with
  | none => rw [hm] at hc; cases hc
  | some y =>
    obtain ⟨qs, fz, bo⟩ := y
    rw [hm] at hc
    simp only at hc
    unfold callGo at hc
    split at hc
    · rename_i ls hb hls
      cases hc
      simp only [Bool.and_eq_true] at hb
      obtain ⟨⟨⟨⟨⟨⟨⟨⟨⟨⟨⟨⟨⟨b1, b2⟩, b3⟩, b4⟩, b5⟩, b6⟩, b7⟩, b8⟩, b9⟩, b10⟩, b11⟩, b12⟩, b13⟩, b14⟩ := hb
      obtain ⟨hp1, hp⟩ := allP_append hp
      obtain ⟨hp2, hp3⟩ := allP_append hp
      obtain ⟨p1, f1, o1, p2, f2, o2, e1, e2, rfl, rfl, rfl⟩ := Mt.and_some hm
      obtain ⟨hpa, hpb⟩ := allP_append hp1
      obtain rfl := mtH_noBo e2
      rw [List.append_nil] at *
      have hrb : ∀ h ∈ f1 ++ f2 ++ o1, ∀ b cp, ρ h = some (b, cp) → RowB ρ H h b := by
        intro h hm b cp hr
        obtain ⟨e, sz, fr, fz, els, hH⟩ := rowsOk_ok b6 h hm
        exact ⟨e, sz, fr, fz, els, cp, hH, hr⟩
      obtain ⟨hf, hheap⟩ := HeapR.formal (kf := c.k) (bor := false) hh e2 hpb (l := f1 ++ f2 ++ o1) (l2 := f1 ++ f2) (fun h hm => by simp at hm ⊢; simp [hm]) (fun h hm => by simp at hm ⊢; simp [hm]) (fun h hm => List.mem_append.2 (.inl hm)) b2 b3 b5 b6 b9 (fun _ _ => trivial)
      obtain ⟨r1, r2⟩ := mtVs_ok (G1 := G1of F1 ρ H (f1 ++ f2 ++ o1)) (G2 := G2of k0 F2 ρ H (f1 ++ f2)) hh hf (fun b h => .inl h) (fun b h => .inl h) _ 5 (c.args x) as (fun i => cs.getD i undef) p1 f1 o1 e1 hpa ha.2
        (fun h hm b cp hr => by
          have hm' : h ∈ f1 ++ f2 ++ o1 := by simp at hm ⊢; rcases hm with h | h <;> simp [h]
          exact .inr ⟨h, hm', hrb h hm' b cp hr⟩)
        (fun h hm hk b cp hr => .inr ⟨h, by simp [hm], hk, hrb h (by simp [hm]) b cp hr⟩)
      have hlow : ∀ h o, look (c.heap x) h = some o → h < c.k := fun h o ho => allBelow_ok b10 h (mem_ids.2 ⟨o, look_mem ho⟩)
      have hfull : ∀ i t, (i, t) ∈ σ → ∃ q, t = .full q := noTrunc_mem b8
      have N : Names k0 c.k nx H σ (c.heap x) (c.heap' x) (f1 ++ f2) := by
        refine ⟨hfull, fun i o ho => ?_, fun i q ht => ?_, b3, fun h hm hm2 => disj_iff.1 b2 h hm (List.mem_append.2 (.inl hm2)), b11, fun i o hm => sameLen_mem hls hp2 i o hm, hn, fun h hm => rowsOk_ok b6 h (List.mem_append.2 (.inl hm))⟩
        · obtain ⟨t, _, _, _, ht, _⟩ := mtH_ok e2 hpb i o (look_mem ho)
          obtain ⟨q, rfl⟩ := hfull i t (tgt_mem ht)
          exact ⟨hlow i o ho, q, ht⟩
        · obtain ⟨o, ho, hom⟩ := hf i _ ht
          refine ⟨o, ho, ?_⟩
          cases o with
          | box ds =>
            obtain ⟨es, hq⟩ := hom
            exact ⟨_, hq, trivial, fun ds h => ⟨es, rfl⟩, fun e sz fr fz els h => by (cases h)⟩
          | row e sz fr fz els =>
            obtain ⟨rfl, fr', hq, _⟩ := hom
            exact ⟨_, hq, rfl, fun ds h => by (cases h), fun e sz fr fz els h => by cases h; exact ⟨fr', rfl⟩⟩
          | gone => exact absurd (look_mem ho) (noGone_mem b14 i)
      refine Calls.mono (hS x hp3 w _ _ _ cs hheap ⟨by rw [ha.1]; exact r1.symm, r2⟩ hlow) ?_
      rintro en w' ⟨cv, F1', F2', ρ', rfl, F⟩
      have hcase : o1 = [] ∨ (trueV 5 (c.res x) = true ∧ trueH (c.heap' x) = true) := by
        rw [Bool.or_eq_true, Bool.and_eq_true] at b1
        exact b1.imp (fun h => by simpa using h) fun h => h
      obtain ⟨F1'', hop⟩ := call_back N b4 hh (lowestOk_mem b7) (bo := o1) (fun h hm hs => disj_iff.1 b2 h hs (List.mem_append.2 (.inr hm))) b12 b13 hcase F
      exact ⟨cv, F1'', F2', _, rfl, hop⟩
    · cases hc
theorem GamOk.of {P : Program} {Γ : List (FuncId × Ctr)} (h : ∀ f c, (f, c) ∈ Γ → (∀ (args : Array Value) (w : World), (callFunc f args).run P w = .ok (.enter f args) w) ∧ Sound P f c) : GamOk P Γ := by
  intro f c hf
  obtain ⟨h1, h2⟩ := h f c (look_mem hf)
  exact ⟨h1, fun k0 nx as cs w F1 F2 ρ H hh ha x ps v rd ups hc hp hn => call_ok h2 hh ha hc hp hn⟩
end Go.Proofs.Ytjgmlkogppibfaa.Ev
