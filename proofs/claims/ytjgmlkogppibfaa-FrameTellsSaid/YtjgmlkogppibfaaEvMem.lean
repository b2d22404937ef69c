/- What each operation of the program comes to is what the reckoner says: memory that is made and written. No conditions. -/
import Derived.Test.YtjgmlkogppibfaaEvOps4
import Derived.Lib.AppendZerosOnto
import Derived.Lib.AppendZeros
namespace Go.Proofs.Ytjgmlkogppibfaa.Ev
open Go
set_option linter.unusedVariables false
set_option linter.unusedSimpArgs false
section
variable {P : Program} {T : Tab} {k0 : Nat} {w : World} {F1 F2 : Nat → Prop} {ρ : Nat → Option (Nat × Nat)} {H : Hp}

def updR (ρ : Nat → Option (Nat × Nat)) (h : Nat) (x : Option (Nat × Nat)) : Nat → Option (Nat × Nat) := fun i => match Nat.beq i h with
  | true => x
  | false => ρ i
theorem updR_same (h : Nat) (x : Option (Nat × Nat)) : updR ρ h x h = x := by simp [updR]
theorem updR_ne {h i : Nat} (x : Option (Nat × Nat)) (hn : i ≠ h) : updR ρ h x i = ρ i := by
  unfold updR
  split
  · rename_i hb; exact absurd (Nat.eq_of_beq_eq_true hb) hn
  · rfl
theorem look_cons_same {α : Type _} (h : Nat) (o : α) (r : List (Nat × α)) : look ((h, o) :: r) h = some o := by simp [look]
theorem look_cons_ne {α : Type _} {h i : Nat} (o : α) (r : List (Nat × α)) (hn : h ≠ i) : look ((h, o) :: r) i = look r i := by
  rw [look]
  split
  · rename_i hb; exact absurd (Nat.eq_of_beq_eq_true hb) hn
  · rfl
theorem upd_cons (o : Ob) (h : Nat) (r : List (Nat × Ob)) : upd H ((h, o) :: r) = fun i => if i = h then some o else upd H r i := by
  funext i
  by_cases hi : i = h
  · subst hi
    simp [upd, look_cons_same]
  · simp only [upd, hi, if_false]
    rw [look_cons_ne o r (fun e => hi e.symm)]
theorem HeapR.blk_lt (hh : HeapR k0 w F1 F2 ρ H) {h b c : Nat} {o : Ob} (ho : H h = some o) (hl : o.live) (hρ : ρ h = some (b, c)) : b < w.heap.size := by
  have := hh.obj h o ho
  have key : ∀ x : Obj, w.heap[b]? = some x → b < w.heap.size := fun x hx => (Array.getElem?_eq_some_iff.1 hx).1
  cases o with
  | box cs =>
    obtain ⟨b', cp, cur, ty, h1, h2, _⟩ := this
    rw [hρ] at h1
    obtain ⟨rfl, rfl⟩ := Prod.mk.inj (Option.some.inj h1)
    exact key _ h2
  | row e sz fr fz els =>
    obtain ⟨_, _, h3⟩ := this
    rw [hρ] at h3
    obtain ⟨cur, h4, _⟩ := h3
    exact key _ h4
  | gone => cases hl

/-- A new block, and a thing that it is. -/
theorem Chg.alloc (hh : HeapR k0 w F1 F2 ρ H) {nx : Nat} (hn : H nx = none) {w' : World} {x : Obj} (hw : w'.heap = w.heap.push x) (h1 : w'.os = w.os) (h2 : w'.tape = w.tape) (h3 : w'.output = w.output) (cp : Nat) {o : Ob}
    (hob : Trans w F1 F2 ρ H w' F1 F2 (updR ρ nx (some (w.heap.size, cp))) (upd H [(nx, o)]) → ObR k0 w' F1 F2 (updR ρ nx (some (w.heap.size, cp))) (upd H [(nx, o)]) nx o) :
    Chg k0 w F1 F2 ρ H w' (upd H [(nx, o)]) F1 F2 (updR ρ nx (some (w.heap.size, cp))) := by
  have hold : ∀ b, b < w.heap.size → w'.heap[b]? = w.heap[b]? := fun b hb => by rw [hw, Array.getElem?_push, if_neg (by omega)]
  have hne : ∀ h o, H h = some o → h ≠ nx := fun h o ho he => by subst he; rw [hn] at ho; cases ho
  have hH : upd H [(nx, o)] = fun i => if i = nx then some o else H i := by rw [upd_cons]; rfl
  have t : Trans w F1 F2 ρ H w' F1 F2 (updR ρ nx (some (w.heap.size, cp))) (upd H [(nx, o)]) :=
    ⟨by rw [hw]; simp, fun b hb => hold b (hh.lt b hb), fun _ h => h, fun _ h => h, fun h o ho => updR_ne _ (hne h o ho), fun h o' ho => ⟨o', by rw [hH]; simp [hne h o' ho, ho], Ob.after_refl _⟩⟩
  refine ⟨t, HeapR.step hh t (fun h o' ho => ?_) (fun h h' o1 o2 b c c' ho1 ho2 hl1 hl2 hd hr1 hr2 => ?_) (fun h o' b c ho hl hr => ?_) hh.sub (fun b hb => by have := hh.lt b hb; rw [hw]; simp; omega),
    h1, h2, h3, fun b hb _ => hold b hb, fun b hb => .inl hb, fun b hb => .inl hb, fun h o' b c ho hr => ?_⟩
  · rw [hH] at ho
    by_cases he : h = nx
    · subst he
      simp at ho
      subst ho
      exact .inr (hob t)
    · simp [he] at ho
      exact .inl ⟨ho, fun hl b c hr => hold b (hh.blk_lt ho hl hr)⟩
  · rw [hH] at ho1 ho2
    by_cases he1 : h = nx
    · subst he1
      rw [updR_same] at hr1
      obtain ⟨rfl, rfl⟩ := Prod.mk.inj (Option.some.inj hr1)
      rw [updR_ne _ (fun e => hd e.symm)] at hr2
      simp [Ne.symm hd] at ho2
      have := hh.blk_lt ho2 hl2 hr2
      omega
    · by_cases he2 : h' = nx
      · subst he2
        rw [updR_same] at hr2
        obtain ⟨rfl, rfl⟩ := Prod.mk.inj (Option.some.inj hr2)
        rw [updR_ne _ he1] at hr1
        simp [he1] at ho1
        have := hh.blk_lt ho1 hl1 hr1
        omega
      · rw [updR_ne _ he1] at hr1
        rw [updR_ne _ he2] at hr2
        simp [he1] at ho1
        simp [he2] at ho2
        exact hh.sep h h' o1 o2 b c c' ho1 ho2 hl1 hl2 hd hr1 hr2
  · rw [hH] at ho
    by_cases he : h = nx
    · subst he
      rw [updR_same] at hr
      obtain ⟨rfl, rfl⟩ := Prod.mk.inj (Option.some.inj hr)
      intro hf
      have := hh.lt _ hf
      omega
    · rw [updR_ne _ he] at hr
      simp [he] at ho
      exact hh.off h o' b c ho hl hr
  · rw [hH] at ho
    by_cases he : h = nx
    · subst he
      rw [updR_same] at hr
      obtain ⟨rfl, rfl⟩ := Prod.mk.inj (Option.some.inj hr)
      exact .inr (.inr (Nat.le_refl _))
    · simp [he] at ho
      exact .inl ⟨o', ho⟩

theorem cells_one {a : AV} {c : Value} (ha : AVR w F1 F2 ρ H a c) (h1 : a.one = true) : c.oneCell' = true ∧ c.cells = #[c] ∧ a.cells = [a] := by
  cases ha with
  | p fr v c h => exact ⟨h.one, h.vcells, rfl⟩
  | rowf h c o ho hs hr => obtain ⟨A, n, cp, rfl⟩ := hs; exact ⟨rfl, rfl, rfl⟩
  | row h off n c o ho hs hr => obtain ⟨A, n, cp, rfl⟩ := hs; exact ⟨rfl, rfl, rfl⟩
  | ptr => exact ⟨rfl, rfl, rfl⟩
  | eptr => exact ⟨rfl, rfl, rfl⟩
  | rptr h i off c o ho hs hr => obtain ⟨ad, rfl⟩ := hs; exact ⟨rfl, rfl, rfl⟩
  | func => exact ⟨rfl, rfl, rfl⟩
  | agg => cases h1
  | tuple => cases h1

theorem Chg.comp {w1 w2 : World} {F1' F2' F1'' F2'' : Nat → Prop} {ρ' ρ'' : Nat → Option (Nat × Nat)} {H' H'' : Hp} (a : Chg k0 w F1 F2 ρ H w1 H' F1' F2' ρ') (b : Chg k0 w1 F1' F2' ρ' H' w2 H'' F1'' F2'' ρ'') : Chg k0 w F1 F2 ρ H w2 H'' F1'' F2'' ρ'' := by
  have hlive : ∀ x, LiveB ρ' H' x → LiveB ρ H x ∨ w.heap.size ≤ x := by
    rintro x ⟨h, o, c, ho, hl, hr⟩
    rcases a.nw h o x c ho hr with ⟨o0, h0⟩ | h0 | h0
    · obtain ⟨o', h1, h2⟩ := a.trans.dom h o0 h0
      rw [ho] at h1
      obtain rfl := Option.some.inj h1
      exact .inl ⟨h, o0, c, h0, h2.2 hl, by rw [← a.trans.rho h o0 h0]; exact hr⟩
    · exact .inl h0
    · exact .inr h0
  refine ⟨⟨Nat.le_trans a.trans.size b.trans.size, fun x hx => (b.trans.blk x (a.trans.f1 x hx)).trans (a.trans.blk x hx), fun x hx => b.trans.f1 x (a.trans.f1 x hx), fun x hx => b.trans.f2 x (a.trans.f2 x hx), fun h o ho => ?_, fun h o ho => ?_⟩,
    b.heap, b.os.trans a.os, b.tape.trans a.tape, b.output.trans a.output, fun x hx hl => ?_, fun x hx => ?_, fun x hx => ?_, fun h o x c ho hr => ?_⟩
  · obtain ⟨o', h1, _⟩ := a.trans.dom h o ho
    rw [b.trans.rho h o' h1, a.trans.rho h o ho]
  · obtain ⟨o', h1, h2⟩ := a.trans.dom h o ho
    obtain ⟨o'', h3, h4⟩ := b.trans.dom h o' h1
    refine ⟨o'', h3, fun e sz fr fz els he => ?_, fun h5 => h2.2 (h4.2 h5)⟩
    obtain ⟨fr0, fz0, els0, h6, h7⟩ := h4.1 e sz fr fz els he
    obtain ⟨fr1, fz1, els1, h8, h9⟩ := h2.1 e sz fr0 fz0 els0 h6
    exact ⟨fr1, fz1, els1, h8, h7.trans h9⟩
  · have h1 : ¬ LiveB ρ' H' x := fun h => by
      rcases hlive x h with h2 | h2
      · exact hl h2
      · omega
    rw [b.wr x (Nat.lt_of_lt_of_le hx a.trans.size) h1, a.wr x hx hl]
  · rcases b.g1 x hx with h1 | h1 | h1
    · exact a.g1 x h1
    · exact .inr (hlive x h1)
    · exact .inr (.inr (Nat.le_trans a.trans.size h1))
  · rcases b.g2 x hx with h1 | h1 | h1
    · exact a.g2 x h1
    · exact .inr (hlive x h1)
    · exact .inr (.inr (Nat.le_trans a.trans.size h1))
  · rcases b.nw h o x c ho hr with ⟨o', h1⟩ | h1 | h1
    · have hr' : ρ' h = some (x, c) := by rw [← b.trans.rho h o' h1]; exact hr
      exact a.nw h o' x c h1 hr'
    · exact .inr (hlive x h1)
    · exact .inr (.inr (Nat.le_trans a.trans.size h1))
theorem Chg.drew (hh : HeapR k0 w F1 F2 ρ H) : Chg k0 w F1 F2 ρ H w.drew H F1 F2 ρ := by
  have t : Trans w F1 F2 ρ H w.drew F1 F2 ρ H := ⟨Nat.le_refl _, fun _ _ => rfl, fun _ h => h, fun _ h => h, fun _ _ _ => rfl, fun h o ho => ⟨o, ho, Ob.after_refl o⟩⟩
  exact ⟨t, HeapR.step hh t (fun h o ho => .inl ⟨ho, fun _ _ _ _ => rfl⟩) hh.sep hh.off hh.sub hh.lt, rfl, rfl, rfl, fun _ _ _ => rfl, fun _ h => .inl h, fun _ h => .inl h, fun h o b c ho _ => .inl ⟨o, ho⟩⟩

/-! ### Rows that are written no more -/
def frz : Ob → Ob
  | .row e sz fr _ els => .row e sz fr true els
  | o => o
theorem look_freeze : ∀ (l : List Nat) (i : Nat), look (freeze H l) i = match H i with
    | some (.row e sz fr fz els) => if i ∈ l then some (.row e sz fr true els) else none
    | _ => none
  | [], i => by simp [freeze, look]; split <;> rfl
  | h :: r, i => by
    have ih := look_freeze r i
    unfold freeze
    by_cases hi : h = i
    · subst hi
      cases hH : H h with
      | none => rw [hH] at ih; simpa using ih
      | some o => cases o with
        | box => rw [hH] at ih; simpa using ih
        | gone => rw [hH] at ih; simpa using ih
        | row => simp [look_cons_same]
    · have key : ∀ o, look ((h, o) :: freeze H r) i = look (freeze H r) i := fun o => look_cons_ne o _ hi
      have hm : ∀ (x : Option Ob), (if i ∈ h :: r then x else none) = if i ∈ r then x else none := fun x => by simp [Ne.symm hi]
      simp only [hm]
      rw [← ih]
      split
      · exact key _
      · rfl
theorem upd_freeze (l : List Nat) (i : Nat) : upd H (freeze H l) i = if i ∈ l then (H i).map frz else H i := by
  unfold upd
  rw [look_freeze]
  cases hH : H i with
  | none => simp
  | some o => cases o <;> simp [frz] <;> split <;> simp_all
def RowB (ρ : Nat → Option (Nat × Nat)) (H : Hp) (h b : Nat) : Prop := ∃ e sz fr fz els c, H h = some (.row e sz fr fz els) ∧ ρ h = some (b, c)
theorem Chg.freeze (hh : HeapR k0 w F1 F2 ρ H) (l : List Nat) :
    Chg k0 w F1 F2 ρ H w (upd H (freeze H l)) (fun b => F1 b ∨ ∃ h ∈ l, RowB ρ H h b) (fun b => F2 b ∨ ∃ h ∈ l, k0 ≤ h ∧ RowB ρ H h b) ρ := by
  have hrow : ∀ h b, RowB ρ H h b → F1 b ∨ LiveB ρ H b := by
    rintro h b ⟨e, sz, fr, fz, els, c, ho, hr⟩
    cases fz with
    | false => exact .inr ⟨h, _, c, ho, rfl, hr⟩
    | true =>
      obtain ⟨_, _, h3⟩ := hh.row ho
      rw [hr] at h3
      obtain ⟨cur, _, _, _, _, _, h4⟩ := h3
      exact .inl (h4 rfl).1
  have t : Trans w F1 F2 ρ H w (fun b => F1 b ∨ ∃ h ∈ l, RowB ρ H h b) (fun b => F2 b ∨ ∃ h ∈ l, k0 ≤ h ∧ RowB ρ H h b) ρ (upd H (Ev.freeze H l)) := by
    refine ⟨Nat.le_refl _, fun _ _ => rfl, fun _ h => .inl h, fun _ h => .inl h, fun _ _ _ => rfl, fun h o ho => ?_⟩
    rw [upd_freeze]
    split
    · refine ⟨frz o, by simp [ho], ?_, ?_⟩
      · intro e sz fr fz els he
        cases o with
        | box => simp [frz] at he
        | gone => simp [frz] at he
        | row e' sz' fr' fz' els' =>
          simp only [frz, Ob.row.injEq] at he
          obtain ⟨rfl, rfl, rfl, rfl, rfl⟩ := he
          exact ⟨_, _, _, rfl, rfl⟩
      · cases o <;> simp [frz, Ob.live]
    · exact ⟨o, ho, Ob.after_refl o⟩
  have hsame : ∀ h o, upd H (Ev.freeze H l) h = some o → o.live → H h = some o ∧ (h ∈ l → ∃ cs, o = .box cs) := by
    intro h o ho hl
    rw [upd_freeze] at ho
    split at ho
    · cases hH : H h with
      | none => simp [hH] at ho
      | some o' =>
        cases o' with
        | box cs => simp [hH, frz] at ho; subst ho; exact ⟨rfl, fun _ => ⟨_, rfl⟩⟩
        | gone => simp [hH, frz] at ho; subst ho; cases hl
        | row => simp [hH, frz] at ho; subst ho; cases hl
    · rename_i hn
      exact ⟨ho, fun h => absurd h hn⟩
  refine ⟨t, HeapR.step hh t (fun h o ho => ?_) (fun h h' o1 o2 b c c' ho1 ho2 hl1 hl2 hd hr1 hr2 => hh.sep h h' o1 o2 b c c' (hsame _ _ ho1 hl1).1 (hsame _ _ ho2 hl2).1 hl1 hl2 hd hr1 hr2) (fun h o b c ho hl hr => ?_) ?_ ?_,
    rfl, rfl, rfl, fun _ _ _ => rfl, fun b hb => ?_, fun b hb => ?_, fun h o b c ho hr => ?_⟩
  · rw [upd_freeze] at ho
    split at ho
    · rename_i hm
      cases hH : H h with
      | none => simp [hH] at ho
      | some o' =>
        cases o' with
        | box cs => simp [hH, frz] at ho; subst ho; exact .inl ⟨rfl, fun _ _ _ _ => rfl⟩
        | gone => simp [hH, frz] at ho; subst ho; exact .inl ⟨rfl, fun _ _ _ _ => rfl⟩
        | row e sz fr fz els =>
          simp [hH, frz] at ho
          subst ho
          refine .inr ?_
          obtain ⟨h1, h2, h3⟩ := hh.row hH
          refine ⟨h1, h2, ?_⟩
          cases hρ : ρ h with
          | none => rw [hρ] at h3; exact h3
          | some gc =>
            obtain ⟨g, cap⟩ := gc
            rw [hρ] at h3
            obtain ⟨cur, h4, h5, h6, h7, h8, h9⟩ := h3
            exact ⟨cur, h4, h5, h6, h7, fun i v hv => t.pvr hh.sub fr (h8 i v hv), fun _ => ⟨.inr ⟨h, hm, e, sz, fr, fz, els, cap, hH, hρ⟩, fun hk => .inr ⟨h, hm, hk, e, sz, fr, fz, els, cap, hH, hρ⟩⟩⟩
    · exact .inl ⟨ho, fun _ _ _ _ => rfl⟩
  · obtain ⟨h1, h2⟩ := hsame h o ho hl
    rintro (h3 | ⟨h', hm, hrb⟩)
    · exact hh.off h o b c h1 hl hr h3
    · obtain ⟨e, sz, fr, fz, els, c', ho', hr'⟩ := hrb
      cases fz with
      | false =>
        by_cases he : h = h'
        · subst he
          obtain ⟨cs, rfl⟩ := h2 hm
          rw [h1] at ho'
          cases ho'
        · exact hh.sep h h' _ _ b c c' h1 ho' hl rfl he hr hr'
      | true =>
        obtain ⟨_, _, h3⟩ := hh.row ho'
        rw [hr'] at h3
        obtain ⟨cur, _, _, _, _, _, h4⟩ := h3
        exact hh.off h o b c h1 hl hr (h4 rfl).1
  · rintro b (hb | ⟨h, hm, _, hr⟩)
    · exact .inl (hh.sub b hb)
    · exact .inr ⟨h, hm, hr⟩
  · rintro b (hb | ⟨h, hm, hr⟩)
    · exact hh.lt b hb
    · rcases hrow h b hr with h1 | ⟨h', o, c, h1, h2, h3⟩
      · exact hh.lt b h1
      · exact hh.blk_lt h1 h2 h3
  · rcases hb with hb | ⟨h, hm, hr⟩
    · exact .inl hb
    · rcases hrow h b hr with h1 | h1
      · exact .inl h1
      · exact .inr (.inl h1)
  · rcases hb with hb | ⟨h, hm, hk, e, sz, fr, fz, els, c, ho, hr⟩
    · exact .inl hb
    · cases fz with
      | false => exact .inr (.inl ⟨h, _, c, ho, rfl, hr⟩)
      | true =>
        obtain ⟨_, _, h3⟩ := hh.row ho
        rw [hr] at h3
        obtain ⟨cur, _, _, _, _, _, h4⟩ := h3
        exact .inl ((h4 rfl).2 hk)
  · rw [upd_freeze] at ho
    cases hH : H h with
    | none => rw [hH] at ho; simp at ho
    | some o' => exact .inl ⟨o', rfl⟩
end
end Go.Proofs.Ytjgmlkogppibfaa.Ev
