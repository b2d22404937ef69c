/- What a reckoned value says of memory, and that it goes on saying so. No conditions. -/
import Derived.Test.YtjgmlkogppibfaaEvDef
import Derived.Deep.AppendSrc
import Derived.Deep.MidRow
import Derived.Great.BuildSlice
import Derived.Laws.MakeOwn
import Derived.Laws.BytesString
import Derived.Maps.AppendAt
namespace Go.Proofs.Ytjgmlkogppibfaa.Ev
open Go
set_option linter.unusedVariables false

def flat (els : List PV) : List PV := els.flatMap PV.cells
theorem flat_nil : flat [] = [] := rfl
theorem flat_cons (x : PV) (l : List PV) : flat (x :: l) = x.cells ++ flat l := by simp [flat]
theorem flat_append (a b : List PV) : flat (a ++ b) = flat a ++ flat b := by simp [flat]
theorem flat_length {sz : Nat} : ∀ {els : List PV}, (∀ e ∈ els, e.cells.length = sz) → (flat els).length = els.length * sz
  | [], _ => by simp [flat]
  | x :: l, h => by
    rw [flat_cons, List.length_append, h x (by simp), flat_length (els := l) (fun e he => h e (by simp [he])), List.length_cons, Nat.add_mul]
    omega
theorem flat_get {sz : Nat} : ∀ {els : List PV}, (∀ e ∈ els, e.cells.length = sz) → ∀ (i j : Nat) (x : PV), els[i]? = some x → j < sz → (flat els)[i * sz + j]? = x.cells[j]?
  | [], _, i, j, x, hx, _ => by simp at hx
  | y :: l, h, 0, j, x, hx, hj => by
    obtain rfl : y = x := by simpa using hx
    rw [flat_cons, Nat.zero_mul, Nat.zero_add, List.getElem?_append_left (by rw [h y (by simp)]; exact hj)]
  | y :: l, h, i + 1, j, x, hx, hj => by
    have hy := h y (by simp)
    have := flat_get (els := l) (fun e he => h e (by simp [he])) i j x (by simpa using hx) hj
    rw [flat_cons, List.getElem?_append_right (by rw [hy, Nat.add_mul]; omega), hy, show (i + 1) * sz + j - sz = i * sz + j by rw [Nat.add_mul]; omega, this]
theorem flat_take {sz : Nat} : ∀ {els : List PV}, (∀ e ∈ els, e.cells.length = sz) → ∀ n, flat (els.take n) = (flat els).take (n * sz)
  | [], _, n => by simp [flat]
  | y :: l, h, 0 => by simp [flat]
  | y :: l, h, n + 1 => by
    have hy := h y (by simp)
    rw [List.take_succ_cons, flat_cons, flat_cons, flat_take (els := l) (fun e he => h e (by simp [he])) n, List.take_append, hy,
      show (n + 1) * sz - sz = n * sz by rw [Nat.add_mul]; omega, List.take_of_length_le (l := y.cells) (by rw [hy, Nat.add_mul]; omega)]
theorem flat_drop {sz : Nat} : ∀ {els : List PV}, (∀ e ∈ els, e.cells.length = sz) → ∀ n, flat (els.drop n) = (flat els).drop (n * sz)
  | [], _, n => by simp [flat]
  | y :: l, h, 0 => by simp [flat]
  | y :: l, h, n + 1 => by
    have hy := h y (by simp)
    rw [List.drop_succ_cons, flat_cons, flat_drop (els := l) (fun e he => h e (by simp [he])) n, List.drop_append, hy,
      show (n + 1) * sz - sz = n * sz by rw [Nat.add_mul]; omega, List.drop_of_length_le (l := y.cells) (by rw [hy, Nat.add_mul]; omega), List.nil_append]

/-- A value without places, read in a world: what it shows lies in the blocks F. -/
inductive PVR (w : World) (F : Nat → Prop) : PV → Value → Prop
  | int (k : IntKind) (n : Int) : PVR w F (.int k n) (.int k n)
  | bool (b : Bool) : PVR w F (.bool b) (.bool b)
  | str (s : ByteArray) : PVR w F (.str s) (.string s)
  | nilptr : PVR w F .nilptr (.pointer none)
  | nilsl (A : Option Addr) : PVR w F .nilsl (.slice A 0 0)
  | slnil (sz : Nat) (A : Option Addr) (cap : Nat) : PVR w F (.sl sz []) (.slice A 0 cap)
  | sl (sz : Nat) (els : List PV) (ad : Addr) (cap : Nat) (cs : Nat → Value) : ad.spot = none → F ad.block → els.length ≤ cap → (∀ e ∈ els, e.cells.length = sz) →
      (∀ i, i < (flat els).length → w.cell? (ad.add i) = some (cs i)) → (∀ i v, (flat els)[i]? = some v → PVR w F v (cs i)) →
      PVR w F (.sl sz els) (.slice (some ad) els.length cap)

theorem cell_same {w w' : World} {a : Addr} (h : w'.heap[a.block]? = w.heap[a.block]?) : w'.cell? a = w.cell? a := by simp [World.cell?, h]
theorem add_block (a : Addr) (n : Nat) : (a.add n).block = a.block := by unfold Addr.add; split <;> rfl
theorem add_spot {a : Addr} (h : a.spot = none) (n : Nat) : (a.add n).spot = none := by unfold Addr.add; split <;> simp [h]
theorem add_add {a : Addr} (h : a.spot = none) (m n : Nat) : (a.add m).add n = a.add (m + n) := by
  cases a with
  | mk b o s =>
    simp only at h
    subst h
    simp only [Addr.add_mid]
    rw [Nat.add_assoc]

theorem PVR.mono {w w' : World} {F F' : Nat → Prop} (hb : ∀ b, F b → w'.heap[b]? = w.heap[b]?) (hF : ∀ b, F b → F' b) {v : PV} {c : Value} (h : PVR w F v c) : PVR w' F' v c := by
  induction h with
  | int k n => exact .int k n
  | bool b => exact .bool b
  | str s => exact .str s
  | nilptr => exact .nilptr
  | nilsl A => exact .nilsl A
  | slnil sz A cap => exact .slnil sz A cap
  | sl sz els ad cap cs hs hf hc he hcell _ ih => exact .sl sz els ad cap cs hs (hF _ hf) hc he (fun i hi => by rw [cell_same (w := w) (w' := w') (by rw [add_block]; exact hb _ hf)]; exact hcell i hi) ih

theorem PVR.flat {w : World} {F F' : Nat → Prop} {v : PV} {c : Value} (h : PVR w F v c) (hf : v.flatB = true) : PVR w F' v c := by
  cases h with
  | int k n => exact .int k n
  | bool b => exact .bool b
  | str s => exact .str s
  | _ => cases hf
theorem flat_flat : ∀ {els : List PV}, (∀ v ∈ els, v.isFlat) → ∀ (i : Nat) (v : PV), (flat els)[i]? = some v → v.flatB = true
  | [], _, i, v, h => by simp [flat] at h
  | x :: r, hx, i, v, h => by
    rw [flat_cons] at h
    by_cases hi : i < x.cells.length
    · rw [List.getElem?_append_left hi] at h
      exact hx x (by simp) v (List.mem_of_getElem? h)
    · rw [List.getElem?_append_right (by omega)] at h
      exact flat_flat (fun y hy => hx y (by simp [hy])) _ v h
theorem PVR.one {w : World} {F : Nat → Prop} {v : PV} {c : Value} (h : PVR w F v c) : c.oneCell' = true := by cases h <;> rfl
theorem PVR.cells1 {w : World} {F : Nat → Prop} {v : PV} {c : Value} (h : PVR w F v c) : v.cells = [v] := by cases h <;> rfl
theorem PVR.vcells {w : World} {F : Nat → Prop} {v : PV} {c : Value} (h : PVR w F v c) : c.cells = #[c] := by cases h <;> rfl

def flagF (fr : Bool) (F1 F2 : Nat → Prop) : Nat → Prop := match fr with
  | true => F2
  | false => F1

/-- The slice value that shows n elements of a row from number off on. -/
def SlV (r : Option (Nat × Nat)) (sz off n : Nat) (c : Value) : Prop := match r with
  | none => off = 0 ∧ n = 0 ∧ ∃ A, c = .slice A 0 0
  | some (g, cap) => off + n ≤ cap ∧ ∃ A, c = .slice A n (cap - off) ∧ (off < cap → A = some ⟨g, off * sz, none⟩)

inductive AVR (w : World) (F1 F2 : Nat → Prop) (ρ : Nat → Option (Nat × Nat)) (H : Hp) : AV → Value → Prop
  | p (fr : Bool) (v : PV) (c : Value) : PVR w (flagF fr F1 F2) v c → AVR w F1 F2 ρ H (.p fr v) c
  | rowf (h : Nat) (c : Value) (o : Ob) : H h = some o → (∃ A n cp, c = .slice A n cp) → (∀ e sz fr fz els, o = .row e sz fr fz els → SlV (ρ h) sz 0 els.length c) → AVR w F1 F2 ρ H (.rowf h) c
  | row (h off n : Nat) (c : Value) (o : Ob) : H h = some o → (∃ A n cp, c = .slice A n cp) → (∀ e sz fr fz els, o = .row e sz fr fz els → SlV (ρ h) sz off n c ∧ off + n ≤ els.length) → AVR w F1 F2 ρ H (.row h off n) c
  | ptr (h off b cp : Nat) (o : Ob) : H h = some o → ρ h = some (b, cp) → AVR w F1 F2 ρ H (.ptr h off) (.pointer (some ⟨b, off, none⟩))
  | eptr (fr : Bool) (cs : List PV) (ad : Addr) : ad.spot = none → flagF fr F1 F2 ad.block → (∀ i v, cs[i]? = some v → ∃ c, w.cell? (ad.add i) = some c ∧ PVR w (flagF fr F1 F2) v c) →
      AVR w F1 F2 ρ H (.eptr fr cs) (.pointer (some ad))
  | rptr (h i off : Nat) (c : Value) (o : Ob) : H h = some o → (∃ ad, c = .pointer (some ad)) → (∀ e sz fr fz els, o = .row e sz fr fz els → i < els.length ∧ ∃ g cap, ρ h = some (g, cap) ∧ c = .pointer (some ⟨g, i * sz + off, none⟩)) →
      AVR w F1 F2 ρ H (.rptr h i off) c
  | func (f : FuncId) (first caps : List AV) (fv cv : Array Value) : fv.size = first.length → (∀ i v, first[i]? = some v → AVR w F1 F2 ρ H v (fv.getD i undef)) →
      cv.size = caps.length → (∀ i v, caps[i]? = some v → AVR w F1 F2 ρ H v (cv.getD i undef)) → AVR w F1 F2 ρ H (.func f first caps) (.func (.func f) fv cv)
  | agg (cs : List AV) (vs : Array Value) : vs.size = cs.length → (∀ i v, cs[i]? = some v → AVR w F1 F2 ρ H v (vs.getD i undef)) → AVR w F1 F2 ρ H (.agg cs) (.agg vs)
  | tuple (cs : List AV) (vs : Array Value) : vs.size = cs.length → (∀ i v, cs[i]? = some v → AVR w F1 F2 ρ H v (vs.getD i undef)) → AVR w F1 F2 ρ H (.tuple cs) (.tuple vs)

def Ob.live : Ob → Prop
  | .box _ => True
  | .row _ _ _ fz _ => fz = false
  | .gone => False

def ObR (k0 : Nat) (w : World) (F1 F2 : Nat → Prop) (ρ : Nat → Option (Nat × Nat)) (H : Hp) (h : Nat) : Ob → Prop
  | .box cs => ∃ b cp cur ty, ρ h = some (b, cp) ∧ w.heap[b]? = some (.cells cur ty (0, 0)) ∧ cur.size = cs.length ∧ ∀ i v, cs[i]? = some v → AVR w F1 F2 ρ H v (cur.getD i undef)
  | .row e sz fr fz els => 0 < sz ∧ (∀ x ∈ els, x.cells.length = sz) ∧ match ρ h with
    | none => els = []
    | some (g, cap) => ∃ cur, w.heap[g]? = some (.cells cur e (0, 0)) ∧ els.length ≤ cap ∧ cap ≤ maxLen ∧ cur.size = cap * sz ∧
        (∀ i v, (flat els)[i]? = some v → PVR w (flagF fr F1 F2) v (cur.getD i undef)) ∧ (fz = true → F1 g ∧ (k0 ≤ h → F2 g))
  | .gone => True

structure HeapR (k0 : Nat) (w : World) (F1 F2 : Nat → Prop) (ρ : Nat → Option (Nat × Nat)) (H : Hp) : Prop where
  obj : ∀ h o, H h = some o → ObR k0 w F1 F2 ρ H h o
  sep : ∀ h h' o o' b c c', H h = some o → H h' = some o' → o.live → o'.live → h ≠ h' → ρ h = some (b, c) → ρ h' = some (b, c') → False
  off : ∀ h o b c, H h = some o → o.live → ρ h = some (b, c) → ¬ F1 b
  sub : ∀ b, F2 b → F1 b
  lt : ∀ b, F1 b → b < w.heap.size

/-- A thing is as it was, or is written no more, or is gone. -/
def Ob.after (o o' : Ob) : Prop := (∀ e sz fr fz els, o' = .row e sz fr fz els → ∃ fr0 fz0 els0, o = .row e sz fr0 fz0 els0 ∧ els.length = els0.length) ∧ (o'.live → o.live)
theorem Ob.after_refl (o : Ob) : o.after o := ⟨fun e sz fr fz els h => ⟨fr, fz, els, h, rfl⟩, fun h => h⟩

structure Trans (w : World) (F1 F2 : Nat → Prop) (ρ : Nat → Option (Nat × Nat)) (H : Hp) (w' : World) (F1' F2' : Nat → Prop) (ρ' : Nat → Option (Nat × Nat)) (H' : Hp) : Prop where
  size : w.heap.size ≤ w'.heap.size
  blk : ∀ b, F1 b → w'.heap[b]? = w.heap[b]?
  f1 : ∀ b, F1 b → F1' b
  f2 : ∀ b, F2 b → F2' b
  rho : ∀ h o, H h = some o → ρ' h = ρ h
  dom : ∀ h o, H h = some o → ∃ o', H' h = some o' ∧ o.after o'

section
variable {k0 : Nat} {w w' : World} {F1 F2 F1' F2' : Nat → Prop} {ρ ρ' : Nat → Option (Nat × Nat)} {H H' : Hp}

theorem Trans.flag (t : Trans w F1 F2 ρ H w' F1' F2' ρ' H') (fr : Bool) : ∀ b, flagF fr F1 F2 b → flagF fr F1' F2' b := by
  cases fr
  · exact t.f1
  · exact t.f2
theorem Trans.pvr (t : Trans w F1 F2 ρ H w' F1' F2' ρ' H') (hs : ∀ b, F2 b → F1 b) (fr : Bool) {v : PV} {c : Value} (h : PVR w (flagF fr F1 F2) v c) : PVR w' (flagF fr F1' F2') v c :=
  h.mono (by cases fr; exact t.blk; exact fun b hb => t.blk b (hs b hb)) (t.flag fr)

theorem AVR.mono (t : Trans w F1 F2 ρ H w' F1' F2' ρ' H') (hs : ∀ b, F2 b → F1 b) {v : AV} {c : Value} (h : AVR w F1 F2 ρ H v c) : AVR w' F1' F2' ρ' H' v c := by
  induction h with
  | p fr v c h => exact .p fr v c (t.pvr hs fr h)
  | rowf h c o ho hsl hr =>
    obtain ⟨o', ho', ha⟩ := t.dom h o ho
    refine .rowf h c o' ho' hsl fun e sz fr fz els he => ?_
    obtain ⟨fr0, fz0, els0, rfl, hl⟩ := ha.1 e sz fr fz els he
    rw [t.rho h _ ho, hl]
    exact hr e sz fr0 fz0 els0 rfl
  | row h off n c o ho hsl hr =>
    obtain ⟨o', ho', ha⟩ := t.dom h o ho
    refine .row h off n c o' ho' hsl fun e sz fr fz els he => ?_
    obtain ⟨fr0, fz0, els0, rfl, hl⟩ := ha.1 e sz fr fz els he
    rw [t.rho h _ ho, hl]
    exact hr e sz fr0 fz0 els0 rfl
  | ptr h off b cp o ho hr =>
    obtain ⟨o', ho', _⟩ := t.dom h o ho
    exact .ptr h off b cp o' ho' (by rw [t.rho h _ ho]; exact hr)
  | eptr fr cs ad hsp hf hc =>
    refine .eptr fr cs ad hsp (t.flag fr _ hf) fun i v hv => ?_
    obtain ⟨c, h1, h2⟩ := hc i v hv
    refine ⟨c, ?_, t.pvr hs fr h2⟩
    have hb : w'.heap[ad.block]? = w.heap[ad.block]? := t.blk _ (by cases fr; exact hf; exact hs _ hf)
    rw [cell_same (w := w) (w' := w') (by rw [add_block]; exact hb)]
    exact h1
  | rptr h i off c o ho hsl hr =>
    obtain ⟨o', ho', ha⟩ := t.dom h o ho
    refine .rptr h i off c o' ho' hsl fun e sz fr fz els he => ?_
    obtain ⟨fr0, fz0, els0, rfl, hl⟩ := ha.1 e sz fr fz els he
    rw [t.rho h _ ho, hl]
    exact hr e sz fr0 fz0 els0 rfl
  | func f first caps fv cv h1 _ h3 _ ih1 ih2 => exact .func f first caps fv cv h1 ih1 h3 ih2
  | agg cs vs h1 _ ih => exact .agg cs vs h1 ih
  | tuple cs vs h1 _ ih => exact .tuple cs vs h1 ih

theorem ObR.keep (t : Trans w F1 F2 ρ H w' F1' F2' ρ' H') (hh : HeapR k0 w F1 F2 ρ H) {h : Nat} {o : Ob} (ho : H h = some o) (hb : o.live → ∀ b c, ρ h = some (b, c) → w'.heap[b]? = w.heap[b]?) : ObR k0 w' F1' F2' ρ' H' h o := by
  have hr := hh.obj h o ho
  cases o with
  | box cs =>
    obtain ⟨b, cp, cur, ty, h1, h2, h3, h4⟩ := hr
    exact ⟨b, cp, cur, ty, by rw [t.rho h _ ho]; exact h1, by rw [hb trivial b cp h1]; exact h2, h3, fun i v hv => (h4 i v hv).mono t hh.sub⟩
  | row e sz fr fz els =>
    obtain ⟨h1, h2, h3⟩ := hr
    refine ⟨h1, h2, ?_⟩
    rw [t.rho h _ ho]
    cases hρ : ρ h with
    | none => rw [hρ] at h3; exact h3
    | some gc =>
      obtain ⟨g, cap⟩ := gc
      rw [hρ] at h3
      obtain ⟨cur, h4, h5, h6, h7, h8, h9⟩ := h3
      refine ⟨cur, ?_, h5, h6, h7, fun i v hv => t.pvr hh.sub fr (h8 i v hv), fun hz => ⟨t.f1 _ (h9 hz).1, fun hk => t.f2 _ ((h9 hz).2 hk)⟩⟩
      cases fz with
      | false => rw [hb rfl g cap hρ]; exact h4
      | true => rw [t.blk g (h9 rfl).1]; exact h4
  | gone => trivial

theorem HeapR.step (hh : HeapR k0 w F1 F2 ρ H) (t : Trans w F1 F2 ρ H w' F1' F2' ρ' H')
    (hobj : ∀ h o, H' h = some o → (H h = some o ∧ (o.live → ∀ b c, ρ h = some (b, c) → w'.heap[b]? = w.heap[b]?)) ∨ ObR k0 w' F1' F2' ρ' H' h o)
    (hsep : ∀ h h' o o' b c c', H' h = some o → H' h' = some o' → o.live → o'.live → h ≠ h' → ρ' h = some (b, c) → ρ' h' = some (b, c') → False)
    (hoff : ∀ h o b c, H' h = some o → o.live → ρ' h = some (b, c) → ¬ F1' b)
    (hsub : ∀ b, F2' b → F1' b) (hlt : ∀ b, F1' b → b < w'.heap.size) : HeapR k0 w' F1' F2' ρ' H' := by
  refine ⟨fun h o ho => ?_, hsep, hoff, hsub, hlt⟩
  rcases hobj h o ho with ⟨h1, h2⟩ | h1
  · exact ObR.keep t hh h1 h2
  · exact h1
end
end Go.Proofs.Ytjgmlkogppibfaa.Ev
