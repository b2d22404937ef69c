/- A piece of the program's text comes to what the reckoner says. No conditions. -/
import Derived.Test.YtjgmlkogppibfaaEvAll
import Derived.ScopeJumps
namespace Go.Proofs.Ytjgmlkogppibfaa.Ev
open Go
set_option linter.unusedVariables false
set_option linter.unusedSimpArgs false

/-- Where a call began: the world, what was lent. -/
structure Cx where
  k0 : Nat
  nt : Nat
  w0 : World
  ρ0 : Nat → Option (Nat × Nat)
  H0 : Hp
  F10 : Nat → Prop
  F20 : Nat → Prop
def Cx.L (x : Cx) (b : Nat) : Prop := ∃ h o c, x.H0 h = some o ∧ x.ρ0 h = some (b, c)
def Cx.own (x : Cx) (b : Nat) : Prop := x.w0.heap.size ≤ b ∨ x.L b

structure Core (x : Cx) (H : Hp) (w : World) (F1 F2 : Nat → Prop) (ρ : Nat → Option (Nat × Nat)) : Prop where
  heap : HeapR x.k0 w F1 F2 ρ H
  os : w.os = x.w0.os
  tape : w.tape = x.w0.tape
  output : w.output = x.w0.output
  size : x.w0.heap.size ≤ w.heap.size
  wr : ∀ b, b < x.w0.heap.size → ¬ x.L b → w.heap[b]? = x.w0.heap[b]?
  blk : ∀ b, x.F10 b → w.heap[b]? = x.w0.heap[b]?
  own : ∀ h o b c, H h = some o → ρ h = some (b, c) → x.own b
  old : ∀ h o, x.H0 h = some o → ρ h = x.ρ0 h ∧ ∃ o', H h = some o'
  f1 : ∀ b, x.F10 b → F1 b
  g1 : ∀ b, F1 b → x.F10 b ∨ x.own b
  f2 : ∀ b, x.F20 b → F2 b
  g2 : ∀ b, F2 b → x.F20 b ∨ x.own b
section
variable {x : Cx} {H H' : Hp} {w w' : World} {F1 F2 F1' F2' : Nat → Prop} {ρ ρ' : Nat → Option (Nat × Nat)}
theorem Core.live (c : Core x H w F1 F2 ρ) {b : Nat} (h : LiveB ρ H b) : x.own b := by
  obtain ⟨i, o, cp, h1, _, h3⟩ := h
  exact c.own i o b cp h1 h3
theorem Core.chg (c : Core x H w F1 F2 ρ) (g : Chg x.k0 w F1 F2 ρ H w' H' F1' F2' ρ') : Core x H' w' F1' F2' ρ' := by
  refine ⟨g.heap, g.os.trans c.os, g.tape.trans c.tape, g.output.trans c.output, Nat.le_trans c.size g.trans.size, fun b hb hl => ?_, fun b hb => (g.trans.blk b (c.f1 b hb)).trans (c.blk b hb), fun h o b cp ho hr => ?_, fun h o ho => ?_, fun b hb => g.trans.f1 b (c.f1 b hb), fun b hb => ?_, fun b hb => g.trans.f2 b (c.f2 b hb), fun b hb => ?_⟩
  · rw [g.wr b (Nat.lt_of_lt_of_le hb c.size) (fun h => ?_), c.wr b hb hl]
    rcases c.live h with h1 | h1
    · omega
    · exact hl h1
  · rcases g.nw h o b cp ho hr with ⟨o0, h0⟩ | h0 | h0
    · exact c.own h o0 b cp h0 (by rw [← g.trans.rho h o0 h0]; exact hr)
    · exact c.live h0
    · exact .inl (Nat.le_trans c.size h0)
  · obtain ⟨h1, o', h2⟩ := c.old h o ho
    obtain ⟨o2, h3, _⟩ := g.trans.dom h o' h2
    exact ⟨(g.trans.rho h o' h2).trans h1, o2, h3⟩
  · rcases g.g1 b hb with h | h | h
    · exact c.g1 b h
    · exact .inr (c.live h)
    · exact .inr (.inl (Nat.le_trans c.size h))
  · rcases g.g2 b hb with h | h | h
    · exact c.g2 b h
    · exact .inr (c.live h)
    · exact .inr (.inl (Nat.le_trans c.size h))
end

/-- The machine's slots and memory are what the reckoner says. -/
def Rel (x : Cx) (e : Env) (H : Hp) (a : Act) (w : World) : Prop := a.defers = [] ∧ a.tmps.size = x.nt ∧ ∃ F1 F2 ρ, Core x H w F1 F2 ρ ∧ EnvR w F1 F2 ρ H e a
def putF (e : Env) (d : Option Nat) (v : AV) : Env := fun t => match d with
  | some d => if d = t then some v else e t
  | none => e t
section
variable {x : Cx} {H H' : Hp} {w w' : World} {F1 F2 F1' F2' : Nat → Prop} {ρ ρ' : Nat → Option (Nat × Nat)} {P : Program} {Γ : List (FuncId × Ctr)} {T : Tab} {e : Env} {a : Act}
theorem EnvR.put {d : Option Nat} {v : AV} {c : Value} (he : EnvR w F1 F2 ρ H e a) (hv : AVR w F1 F2 ρ H v c) (hd : ∀ t, d = some t → t < a.tmps.size) : EnvR w F1 F2 ρ H (putF e d v) (a.put d c) := by
  intro t u hu
  cases d with
  | none => exact he t u hu
  | some d =>
    simp only [putF] at hu
    have hlt := hd d rfl
    split at hu
    · rename_i hdt
      subst hdt
      obtain rfl := Option.some.inj hu
      simpa [Act.put, Array.getD_eq_getD_getElem?, hlt] using hv
    · rename_i hdt
      have := he t u hu
      simpa [Act.put, Array.getD_eq_getD_getElem?, Array.getElem?_setIfInBounds, hdt] using this
theorem Rel.op (hr : a.defers = [] ∧ a.tmps.size = x.nt) (c : Core x H w F1 F2 ρ) (he : EnvR w F1 F2 ρ H e a) {o : Oper} (hd : ∀ t, o.dst = some t → t < x.nt) {v : AV} {ups : List (Nat × Ob)} (h : Runs P x.k0 w F1 F2 ρ H (execOp a.eval o) v ups) {Q : Exit → Act → World → Prop} {K : Act → World → Prop}
    (hK : ∀ a' w', Rel x (putF e o.dst v) (upd H ups) a' w' → K a' w') : o.wp P a w K Q := by
  obtain ⟨n, c', w', F1', F2', ρ', h1, h2, h3⟩ := h
  unfold Oper.wp
  rw [h1]
  have hrel : Rel x (putF e o.dst v) (upd H ups) (a.put o.dst c') w' := by
    refine ⟨by cases o.dst <;> exact hr.1, by cases o.dst <;> simp [Act.put, hr.2], F1', F2', ρ', c.chg h3.chg, ?_⟩
    exact EnvR.put (fun t u hu => (he t u hu).mono h3.chg.trans c.heap.sub) h3.avr (fun t ht => by rw [hr.2]; exact hd t ht)
  rcases h2 with rfl | ⟨rfl, rfl⟩
  · exact hK _ _ hrel
  · exact hK _ _ hrel
end
end Go.Proofs.Ytjgmlkogppibfaa.Ev
