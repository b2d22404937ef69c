/- What a reckoned value says of memory, and that it goes on saying so. No conditions. -/
import Derived.Test.YtonbbaimkpjcfaaEvDef
import Derived.Deep.AppendSrc
import Derived.Deep.MidRow
import Derived.Great.BuildSlice
import Derived.Laws.MakeOwn
import Derived.Laws.BytesString
import Derived.Maps.AppendAt
import Derived.ChangeKeysEq
/-! ## What a reckoned value says of memory, and that it goes on saying so. No conditions. -/
namespace Go.Proofs.Ytonbbaimkpjcfaa.Ev
open Go
set_option linter.unusedVariables false

def flat (els : List PV) : List PV := els.flatMap PV.cells
theorem flat_nil : flat [] = [] := rfl
theorem flat_cons (x : PV) (l : List PV) : flat (x :: l) = x.cells ++ flat l := by simp [flat]
theorem flat_append (a b : List PV) : flat (a ++ b) = flat a ++ flat b := by simp [flat]
theorem flat_length {sz : Nat} : ∀ {els : List PV}, (∀ e ∈ els, e.cells.length = sz) → (flat els).length = els.length * sz
  | [], _ => by simp [flat]
  | x :: l, h => by
    rw [flat_cons, List.length_append, h x (by simp), flat_length (els := l) (fun e he => h e (by simp [he])), List.length_cons, Nat.add_mul]
    omega
theorem flat_get {sz : Nat} : ∀ {els : List PV}, (∀ e ∈ els, e.cells.length = sz) → ∀ (i j : Nat) (x : PV), els[i]? = some x → j < sz → (flat els)[i * sz + j]? = x.cells[j]?
  | [], _, i, j, x, hx, _ => by simp at hx
  | y :: l, h, 0, j, x, hx, hj => by
    obtain rfl : y = x := by simpa using hx
    rw [flat_cons, Nat.zero_mul, Nat.zero_add, List.getElem?_append_left (by rw [h y (by simp)]; exact hj)]
  | y :: l, h, i + 1, j, x, hx, hj => by
    have hy := h y (by simp)
    have := flat_get (els := l) (fun e he => h e (by simp [he])) i j x (by simpa using hx) hj
    rw [flat_cons, List.getElem?_append_right (by rw [hy, Nat.add_mul]; omega), hy, show (i + 1) * sz + j - sz = i * sz + j by rw [Nat.add_mul]; omega, this]
theorem flat_take {sz : Nat} : ∀ {els : List PV}, (∀ e ∈ els, e.cells.length = sz) → ∀ n, flat (els.take n) = (flat els).take (n * sz)
  | [], _, n => by simp [flat]
  | y :: l, h, 0 => by simp [flat]
  | y :: l, h, n + 1 => by
    have hy := h y (by simp)
    rw [List.take_succ_cons, flat_cons, flat_cons, flat_take (els := l) (fun e he => h e (by simp [he])) n, List.take_append, hy,
      show (n + 1) * sz - sz = n * sz by rw [Nat.add_mul]; omega, List.take_of_length_le (l := y.cells) (by rw [hy, Nat.add_mul]; omega)]
theorem flat_drop {sz : Nat} : ∀ {els : List PV}, (∀ e ∈ els, e.cells.length = sz) → ∀ n, flat (els.drop n) = (flat els).drop (n * sz)
  | [], _, n => by simp [flat]
  | y :: l, h, 0 => by simp [flat]
  | y :: l, h, n + 1 => by
    have hy := h y (by simp)
    rw [List.drop_succ_cons, flat_cons, flat_drop (els := l) (fun e he => h e (by simp [he])) n, List.drop_append, hy,
      show (n + 1) * sz - sz = n * sz by rw [Nat.add_mul]; omega, List.drop_of_length_le (l := y.cells) (by rw [hy, Nat.add_mul]; omega), List.nil_append]

/-- Where things lie: a thing's block and room; the blocks of the lists that a tree's cells own. -/
structure Pl where
  rho : Nat → Option (Nat × Nat)
  iota : Nat → Nat → Nat → Option (Nat × Nat)
instance : CoeFun Pl (fun _ => Nat → Option (Nat × Nat)) := ⟨Pl.rho⟩
/-- A value without places, read in a world: what it shows lies in the blocks F. -/
inductive PVR (w : World) (F : Nat → Prop) : PV → Value → Prop
  | int (k : IntKind) (n : Int) : PVR w F (.int k n) (.int k n)
  | bool (b : Bool) : PVR w F (.bool b) (.bool b)
  | str (s : ByteArray) : PVR w F (.str s) (.string s)
  | nilptr : PVR w F .nilptr (.pointer none)
  | nilsl (A : Option Addr) : PVR w F .nilsl (.slice A 0 0)
  | slnil (sz : Nat) (A : Option Addr) (cap : Nat) : PVR w F (.sl sz []) (.slice A 0 cap)
  | sl (sz : Nat) (els : List PV) (ad : Addr) (cap : Nat) (cs : Nat → Value) : ad.spot = none → F ad.block → els.length ≤ cap → (∀ e ∈ els, e.cells.length = sz) →
      (∀ i, i < (flat els).length → w.cell? (ad.add i) = some (cs i)) → (∀ i v, (flat els)[i]? = some v → PVR w F v (cs i)) →
      PVR w F (.sl sz els) (.slice (some ad) els.length cap)

theorem cell_same {w w' : World} {a : Addr} (h : w'.heap[a.block]? = w.heap[a.block]?) : w'.cell? a = w.cell? a := by simp [World.cell?, h]
theorem add_block (a : Addr) (n : Nat) : (a.add n).block = a.block := by unfold Addr.add; split <;> rfl
theorem add_spot {a : Addr} (h : a.spot = none) (n : Nat) : (a.add n).spot = none := by unfold Addr.add; split <;> simp [h]
theorem add_add {a : Addr} (h : a.spot = none) (m n : Nat) : (a.add m).add n = a.add (m + n) := by
  cases a with
  | mk b o s =>
    simp only at h
    subst h
    simp only [Addr.add_mid]
    rw [Nat.add_assoc]

theorem PVR.mono {w w' : World} {F F' : Nat → Prop} (hb : ∀ b, F b → w'.heap[b]? = w.heap[b]?) (hF : ∀ b, F b → F' b) {v : PV} {c : Value} (h : PVR w F v c) : PVR w' F' v c := by
  induction h with
  | int k n => exact .int k n
  | bool b => exact .bool b
  | str s => exact .str s
  | nilptr => exact .nilptr
  | nilsl A => exact .nilsl A
  | slnil sz A cap => exact .slnil sz A cap
  | sl sz els ad cap cs hs hf hc he hcell _ ih => exact .sl sz els ad cap cs hs (hF _ hf) hc he (fun i hi => by rw [cell_same (w := w) (w' := w') (by rw [add_block]; exact hb _ hf)]; exact hcell i hi) ih

theorem PVR.flat {w : World} {F F' : Nat → Prop} {v : PV} {c : Value} (h : PVR w F v c) (hf : v.flatB = true) : PVR w F' v c := by
  cases h with
  | int k n => exact .int k n
  | bool b => exact .bool b
  | str s => exact .str s
  | _ => cases hf
theorem flat_flat : ∀ {els : List PV}, (∀ v ∈ els, v.isFlat) → ∀ (i : Nat) (v : PV), (flat els)[i]? = some v → v.flatB = true
  | [], _, i, v, h => by simp [flat] at h
  | x :: r, hx, i, v, h => by
    rw [flat_cons] at h
    by_cases hi : i < x.cells.length
    · rw [List.getElem?_append_left hi] at h
      exact hx x (by simp) v (List.mem_of_getElem? h)
    · rw [List.getElem?_append_right (by omega)] at h
      exact flat_flat (fun y hy => hx y (by simp [hy])) _ v h
theorem PVR.one {w : World} {F : Nat → Prop} {v : PV} {c : Value} (h : PVR w F v c) : c.oneCell' = true := by cases h <;> rfl
theorem PVR.cells1 {w : World} {F : Nat → Prop} {v : PV} {c : Value} (h : PVR w F v c) : v.cells = [v] := by cases h <;> rfl
theorem PVR.vcells {w : World} {F : Nat → Prop} {v : PV} {c : Value} (h : PVR w F v c) : c.cells = #[c] := by cases h <;> rfl

def flagF (fr : Bool) (F1 F2 : Nat → Prop) : Nat → Prop := match fr with
  | true => F2
  | false => F1

/-- The slice value that shows n elements of a row from number off on. -/
def SlV (r : Option (Nat × Nat)) (sz off n : Nat) (c : Value) : Prop := match r with
  | none => off = 0 ∧ n = 0 ∧ ∃ A, c = .slice A 0 0
  | some (g, cap) => off + n ≤ cap ∧ ∃ A, c = .slice A n (cap - off) ∧ (off < cap → A = some ⟨g, off * sz, none⟩)

inductive AVR (w : World) (F1 F2 : Nat → Prop) (ρ : Pl) (H : Hp) : AV → Value → Prop
  | p (fr : Bool) (v : PV) (c : Value) : PVR w (flagF fr F1 F2) v c → AVR w F1 F2 ρ H (.p fr v) c
  | rowf (h : Nat) (c : Value) (o : Ob) : H h = some o → (∃ A n cp, c = .slice A n cp) → (∀ e sz fr fz els, o = .row e sz fr fz els → SlV (ρ h) sz 0 els.length c) →
      (∀ e sz ie els, o = .tree e sz ie els → SlV (ρ h) sz 0 els.length c) → AVR w F1 F2 ρ H (.rowf h) c
  | row (h off n : Nat) (c : Value) (o : Ob) : H h = some o → (∃ A n cp, c = .slice A n cp) → (∀ e sz fr fz els, o = .row e sz fr fz els → SlV (ρ h) sz off n c ∧ off + n ≤ els.length) → AVR w F1 F2 ρ H (.row h off n) c
  | ptr (h off b cp : Nat) (o : Ob) : H h = some o → ρ h = some (b, cp) → AVR w F1 F2 ρ H (.ptr h off) (.pointer (some ⟨b, off, none⟩))
  | eptr (fr : Bool) (cs : List PV) (ad : Addr) : ad.spot = none → flagF fr F1 F2 ad.block → (∀ i v, cs[i]? = some v → ∃ c, w.cell? (ad.add i) = some c ∧ PVR w (flagF fr F1 F2) v c) →
      AVR w F1 F2 ρ H (.eptr fr cs) (.pointer (some ad))
  | rptr (h i off : Nat) (c : Value) (o : Ob) : H h = some o → (∃ ad, c = .pointer (some ad)) → (∀ e sz fr fz els, o = .row e sz fr fz els → i < els.length ∧ ∃ g cap, ρ h = some (g, cap) ∧ c = .pointer (some ⟨g, i * sz + off, none⟩)) →
      (∀ e sz ie els, o = .tree e sz ie els → i < els.length ∧ ∃ g cap, ρ h = some (g, cap) ∧ c = .pointer (some ⟨g, i * sz + off, none⟩)) → AVR w F1 F2 ρ H (.rptr h i off) c
  | func (f : FuncId) (first caps : List AV) (fv cv : Array Value) : fv.size = first.length → (∀ i v, first[i]? = some v → AVR w F1 F2 ρ H v (fv.getD i undef)) →
      cv.size = caps.length → (∀ i v, caps[i]? = some v → AVR w F1 F2 ρ H v (cv.getD i undef)) → AVR w F1 F2 ρ H (.func f first caps) (.func (.func f) fv cv)
  | agg (cs : List AV) (vs : Array Value) : vs.size = cs.length → (∀ i v, cs[i]? = some v → AVR w F1 F2 ρ H v (vs.getD i undef)) → AVR w F1 F2 ρ H (.agg cs) (.agg vs)
  | tuple (cs : List AV) (vs : Array Value) : vs.size = cs.length → (∀ i v, cs[i]? = some v → AVR w F1 F2 ρ H v (vs.getD i undef)) → AVR w F1 F2 ρ H (.tuple cs) (.tuple vs)

def Ob.live : Ob → Prop
  | .box _ => True
  | .row _ _ _ fz _ => fz = false
  | .tree _ _ _ _ => True
  | .gone => False
/-- The cell at a place of a tree. -/
def tcAt (els : List (List TC)) (i j : Nat) : Option TC := (els[i]?).bind fun x => x[j]?
/-- The blocks of the lists that a thing owns. -/
def Ob.inn (ρ : Pl) (h b : Nat) : Ob → Prop
  | .tree _ _ _ els => ∃ i j l c, tcAt els i j = some (.ow l) ∧ ρ.iota h i j = some (b, c)
  | _ => False
/-- The blocks of a thing. -/
def Own (ρ : Pl) (h : Nat) (o : Ob) (b : Nat) : Prop := (∃ c, ρ h = some (b, c)) ∨ o.inn ρ h b
theorem Own.of {ρ : Pl} {h b c : Nat} {o : Ob} (hr : ρ h = some (b, c)) : Own ρ h o b := .inl ⟨c, hr⟩
theorem Own.box {ρ : Pl} {h b : Nat} {cs : List AV} (hr : Own ρ h (.box cs) b) : ∃ c, ρ h = some (b, c) := hr.elim (fun h => h) (fun h => h.elim)
theorem Own.row {ρ : Pl} {h b : Nat} {e : TypeId} {sz : Nat} {fr fz : Bool} {els : List PV} (hr : Own ρ h (.row e sz fr fz els) b) : ∃ c, ρ h = some (b, c) := hr.elim (fun h => h) (fun h => h.elim)
theorem Own.gone {ρ : Pl} {h b : Nat} (hr : Own ρ h .gone b) : ∃ c, ρ h = some (b, c) := hr.elim (fun h => h) (fun h => h.elim)
theorem Own.cg {ρ ρ' : Pl} {h h' b : Nat} {o : Ob} (h1 : ρ' h' = ρ h) (h2 : ρ'.iota h' = ρ.iota h) (hr : Own ρ' h' o b) : Own ρ h o b := by
  rcases hr with ⟨c, hr⟩ | hr
  · exact .inl ⟨c, by rw [← h1]; exact hr⟩
  · refine .inr ?_
    cases o with
    | tree e sz ie els => obtain ⟨i, j, l, c, h3, h4⟩ := hr; exact ⟨i, j, l, c, h3, by rw [← h2]; exact h4⟩
    | _ => exact hr
/-- A list that a cell owns: what the cell holds, and what lies there. -/
def InR (w : World) (ie : TypeId) (r : Option (Nat × Nat)) (l : List PV) (c : Value) : Prop :=
  SlV r 1 0 l.length c ∧ (∃ A n cp, c = .slice A n cp) ∧ (∀ x ∈ l, x.cells.length = 1) ∧ match r with
    | none => l = []
    | some (b, cp) => ∃ cur, w.heap[b]? = some (.cells cur ie (0, 0)) ∧ l.length ≤ cp ∧ cp ≤ maxLen ∧ cur.size = cp * 1 ∧ ∀ i v, (flat l)[i]? = some v → PVR w (fun _ => False) v (cur.getD i undef)
def TCR (w : World) (F1 F2 : Nat → Prop) (ρ : Pl) (H : Hp) (ie : TypeId) (r : Option (Nat × Nat)) : TC → Value → Prop
  | .fl v, c => PVR w (fun _ => False) v c
  | .ow l, c => InR w ie r l c
  | .ref q, c => AVR w F1 F2 ρ H (.rowf q) c
  | .dead, c => c.oneCell' = true

def ObR (k0 : Nat) (w : World) (F1 F2 : Nat → Prop) (ρ : Pl) (H : Hp) (h : Nat) : Ob → Prop
  | .box cs => ∃ b cp cur ty, ρ h = some (b, cp) ∧ w.heap[b]? = some (.cells cur ty (0, 0)) ∧ cur.size = cs.length ∧ ∀ i v, cs[i]? = some v → AVR w F1 F2 ρ H v (cur.getD i undef)
  | .row e sz fr fz els => 0 < sz ∧ (∀ x ∈ els, x.cells.length = sz) ∧ match ρ h with
    | none => els = []
    | some (g, cap) => ∃ cur, w.heap[g]? = some (.cells cur e (0, 0)) ∧ els.length ≤ cap ∧ cap ≤ maxLen ∧ cur.size = cap * sz ∧
        (∀ i v, (flat els)[i]? = some v → PVR w (flagF fr F1 F2) v (cur.getD i undef)) ∧ (fz = true → F1 g ∧ (k0 ≤ h → F2 g))
  | .tree e sz ie els => 0 < sz ∧ (∀ x ∈ els, x.length = sz) ∧ (match ρ h with
    | none => els = []
    | some (g, cap) => ∃ cur, w.heap[g]? = some (.cells cur e (0, 0)) ∧ els.length ≤ cap ∧ cap ≤ maxLen ∧ cur.size = cap * sz ∧
        ∀ i j t, tcAt els i j = some t → TCR w F1 F2 ρ H ie (ρ.iota h i j) t (cur.getD (i * sz + j) undef)) ∧
      (∀ i j i' j' l l' b c c', tcAt els i j = some (.ow l) → tcAt els i' j' = some (.ow l') → ρ.iota h i j = some (b, c) → ρ.iota h i' j' = some (b, c') → i = i' ∧ j = j') ∧
      (∀ i j l b c c', tcAt els i j = some (.ow l) → ρ.iota h i j = some (b, c) → ρ h = some (b, c') → False)
  | .gone => True

structure HeapR (k0 : Nat) (w : World) (F1 F2 : Nat → Prop) (ρ : Pl) (H : Hp) : Prop where
  obj : ∀ h o, H h = some o → ObR k0 w F1 F2 ρ H h o
  sep : ∀ h h' o o' b, H h = some o → H h' = some o' → o.live → o'.live → h ≠ h' → Own ρ h o b → Own ρ h' o' b → False
  off : ∀ h o b, H h = some o → o.live → Own ρ h o b → ¬ F1 b
  sub : ∀ b, F2 b → F1 b
  lt : ∀ b, F1 b → b < w.heap.size

/-- A thing is as it was, or is written no more, or is gone. -/
def Ob.after (o o' : Ob) : Prop := (∀ e sz fr fz els, o' = .row e sz fr fz els → ∃ fr0 fz0 els0, o = .row e sz fr0 fz0 els0 ∧ els.length = els0.length) ∧ (o'.live → o.live) ∧
  (∀ e sz ie els, o' = .tree e sz ie els → ∃ els0, o = .tree e sz ie els0 ∧ els.length = els0.length ∧ ∀ i j l, tcAt els i j = some (.ow l) → ∃ l0, tcAt els0 i j = some (.ow l0))
theorem Ob.after_refl (o : Ob) : o.after o := ⟨fun e sz fr fz els h => ⟨fr, fz, els, h, rfl⟩, fun h => h, fun e sz ie els h => ⟨els, h, rfl, fun i j l h => ⟨l, h⟩⟩⟩
theorem Ob.after_gone (o : Ob) : o.after .gone := ⟨fun _ _ _ _ _ h => (by cases h), fun h => h.elim, fun _ _ _ _ h => (by cases h)⟩
theorem Own.after {ρ : Pl} {h b : Nat} {o o' : Ob} (ha : o.after o') (hr : Own ρ h o' b) : Own ρ h o b := by
  rcases hr with hr | hr
  · exact .inl hr
  · refine .inr ?_
    cases o' with
    | tree e sz ie els =>
      obtain ⟨els0, rfl, _, h3⟩ := ha.2.2 e sz ie els rfl
      obtain ⟨i, j, l, c, h1, h2⟩ := hr
      obtain ⟨l0, h4⟩ := h3 i j l h1
      exact ⟨i, j, l0, c, h4, h2⟩
    | _ => exact hr.elim

structure Trans (w : World) (F1 F2 : Nat → Prop) (ρ : Pl) (H : Hp) (w' : World) (F1' F2' : Nat → Prop) (ρ' : Pl) (H' : Hp) : Prop where
  size : w.heap.size ≤ w'.heap.size
  blk : ∀ b, F1 b → w'.heap[b]? = w.heap[b]?
  f1 : ∀ b, F1 b → F1' b
  f2 : ∀ b, F2 b → F2' b
  rho : ∀ h o, H h = some o → ρ' h = ρ h
  iot : ∀ h o, H h = some o → ρ'.iota h = ρ.iota h
  dom : ∀ h o, H h = some o → ∃ o', H' h = some o' ∧ o.after o'

section
variable {k0 : Nat} {w w' : World} {F1 F2 F1' F2' : Nat → Prop} {ρ ρ' : Pl} {H H' : Hp}

theorem Trans.flag (t : Trans w F1 F2 ρ H w' F1' F2' ρ' H') (fr : Bool) : ∀ b, flagF fr F1 F2 b → flagF fr F1' F2' b := by
  cases fr
  · exact t.f1
  · exact t.f2
theorem Trans.pvr (t : Trans w F1 F2 ρ H w' F1' F2' ρ' H') (hs : ∀ b, F2 b → F1 b) (fr : Bool) {v : PV} {c : Value} (h : PVR w (flagF fr F1 F2) v c) : PVR w' (flagF fr F1' F2') v c :=
  h.mono (by cases fr; exact t.blk; exact fun b hb => t.blk b (hs b hb)) (t.flag fr)

theorem AVR.mono (t : Trans w F1 F2 ρ H w' F1' F2' ρ' H') (hs : ∀ b, F2 b → F1 b) {v : AV} {c : Value} (h : AVR w F1 F2 ρ H v c) : AVR w' F1' F2' ρ' H' v c := by
  induction h with
  | p fr v c h => exact .p fr v c (t.pvr hs fr h)
  | rowf h c o ho hsl hr hr2 =>
    obtain ⟨o', ho', ha⟩ := t.dom h o ho
    refine .rowf h c o' ho' hsl (fun e sz fr fz els he => ?_) fun e sz ie els he => ?_
    · obtain ⟨fr0, fz0, els0, rfl, hl⟩ := ha.1 e sz fr fz els he
      rw [t.rho h _ ho, hl]
      exact hr e sz fr0 fz0 els0 rfl
    · obtain ⟨els0, rfl, hl, _⟩ := ha.2.2 e sz ie els he
      rw [t.rho h _ ho, hl]
      exact hr2 e sz ie els0 rfl
  | row h off n c o ho hsl hr =>
    obtain ⟨o', ho', ha⟩ := t.dom h o ho
    refine .row h off n c o' ho' hsl fun e sz fr fz els he => ?_
    obtain ⟨fr0, fz0, els0, rfl, hl⟩ := ha.1 e sz fr fz els he
    rw [t.rho h _ ho, hl]
    exact hr e sz fr0 fz0 els0 rfl
  | ptr h off b cp o ho hr =>
    obtain ⟨o', ho', _⟩ := t.dom h o ho
    exact .ptr h off b cp o' ho' (by rw [t.rho h _ ho]; exact hr)
  | eptr fr cs ad hsp hf hc =>
    refine .eptr fr cs ad hsp (t.flag fr _ hf) fun i v hv => ?_
    obtain ⟨c, h1, h2⟩ := hc i v hv
    refine ⟨c, ?_, t.pvr hs fr h2⟩
    have hb : w'.heap[ad.block]? = w.heap[ad.block]? := t.blk _ (by cases fr; exact hf; exact hs _ hf)
    rw [cell_same (w := w) (w' := w') (by rw [add_block]; exact hb)]
    exact h1
  | rptr h i off c o ho hsl hr hr2 =>
    obtain ⟨o', ho', ha⟩ := t.dom h o ho
    refine .rptr h i off c o' ho' hsl (fun e sz fr fz els he => ?_) fun e sz ie els he => ?_
    · obtain ⟨fr0, fz0, els0, rfl, hl⟩ := ha.1 e sz fr fz els he
      rw [t.rho h _ ho, hl]
      exact hr e sz fr0 fz0 els0 rfl
    · obtain ⟨els0, rfl, hl, _⟩ := ha.2.2 e sz ie els he
      rw [t.rho h _ ho, hl]
      exact hr2 e sz ie els0 rfl
  | func f first caps fv cv h1 _ h3 _ ih1 ih2 => exact .func f first caps fv cv h1 ih1 h3 ih2
  | agg cs vs h1 _ ih => exact .agg cs vs h1 ih
  | tuple cs vs h1 _ ih => exact .tuple cs vs h1 ih

theorem InR.keep {w w' : World} {ie : TypeId} {r : Option (Nat × Nat)} {l : List PV} {c : Value} (hb : ∀ b cp, r = some (b, cp) → w'.heap[b]? = w.heap[b]?) (h : InR w ie r l c) : InR w' ie r l c := by
  obtain ⟨h1, h2, h3, h4⟩ := h
  refine ⟨h1, h2, h3, ?_⟩
  cases r with
  | none => exact h4
  | some gc =>
    obtain ⟨b, cp⟩ := gc
    obtain ⟨cur, h5, h6, h7, h8, h9⟩ := h4
    exact ⟨cur, by rw [hb b cp rfl]; exact h5, h6, h7, h8, fun i v hv => (h9 i v hv).mono (fun _ hf => hf.elim) (fun _ hf => hf)⟩
theorem TCR.one {ie : TypeId} {r : Option (Nat × Nat)} {x : TC} {c : Value} (h : TCR w F1 F2 ρ H ie r x c) : c.oneCell' = true := by
  cases x with
  | fl v => exact PVR.one h
  | ow l => obtain ⟨_, ⟨A, n, cp, rfl⟩, _⟩ := h; rfl
  | ref q => cases h with | rowf _ _ o ho hs => obtain ⟨A, n, cp, rfl⟩ := hs; rfl
  | dead => exact h
theorem TCR.keep (t : Trans w F1 F2 ρ H w' F1' F2' ρ' H') (hs : ∀ b, F2 b → F1 b) {ie : TypeId} {r : Option (Nat × Nat)} {x : TC} {c : Value} (hb : ∀ l b cp, x = .ow l → r = some (b, cp) → w'.heap[b]? = w.heap[b]?) (h : TCR w F1 F2 ρ H ie r x c) : TCR w' F1' F2' ρ' H' ie r x c := by
  cases x with
  | fl v => exact PVR.mono (fun _ hf => hf.elim) (fun _ hf => hf) h
  | ow l => exact InR.keep (fun b cp hr => hb l b cp rfl hr) h
  | ref q => exact AVR.mono t hs h
  | dead => exact h
theorem ObR.keep (t : Trans w F1 F2 ρ H w' F1' F2' ρ' H') (hh : HeapR k0 w F1 F2 ρ H) {h : Nat} {o : Ob} (ho : H h = some o) (hb : o.live → ∀ b, Own ρ h o b → w'.heap[b]? = w.heap[b]?) : ObR k0 w' F1' F2' ρ' H' h o := by
  have hr := hh.obj h o ho
  cases o with
  | tree e sz ie els =>
    obtain ⟨h1, h2, h3, h4, h5⟩ := hr
    have hi := t.iot h _ ho
    refine ⟨h1, h2, ?_, ?_, ?_⟩
    · rw [t.rho h _ ho, hi]
      cases hρ : ρ h with
      | none => rw [hρ] at h3; exact h3
      | some gc =>
        obtain ⟨g, cap⟩ := gc
        rw [hρ] at h3
        obtain ⟨cur, q1, q2, q3, q4, q5⟩ := h3
        exact ⟨cur, by rw [hb trivial g (.of hρ)]; exact q1, q2, q3, q4, fun i j x hx => TCR.keep t hh.sub (fun l b cp hl hr => by subst hl; exact hb trivial b (.inr ⟨i, j, l, cp, hx, hr⟩)) (q5 i j x hx)⟩
    · rw [hi]; exact h4
    · rw [hi, t.rho h _ ho]; exact h5
  | box cs =>
    obtain ⟨b, cp, cur, ty, h1, h2, h3, h4⟩ := hr
    exact ⟨b, cp, cur, ty, by rw [t.rho h _ ho]; exact h1, by rw [hb trivial b (.of h1)]; exact h2, h3, fun i v hv => (h4 i v hv).mono t hh.sub⟩
  | row e sz fr fz els =>
    obtain ⟨h1, h2, h3⟩ := hr
    refine ⟨h1, h2, ?_⟩
    rw [t.rho h _ ho]
    cases hρ : ρ h with
    | none => rw [hρ] at h3; exact h3
    | some gc =>
      obtain ⟨g, cap⟩ := gc
      rw [hρ] at h3
      obtain ⟨cur, h4, h5, h6, h7, h8, h9⟩ := h3
      refine ⟨cur, ?_, h5, h6, h7, fun i v hv => t.pvr hh.sub fr (h8 i v hv), fun hz => ⟨t.f1 _ (h9 hz).1, fun hk => t.f2 _ ((h9 hz).2 hk)⟩⟩
      cases fz with
      | false => rw [hb rfl g (.of hρ)]; exact h4
      | true => rw [t.blk g (h9 rfl).1]; exact h4
  | gone => trivial

theorem HeapR.step (hh : HeapR k0 w F1 F2 ρ H) (t : Trans w F1 F2 ρ H w' F1' F2' ρ' H')
    (hobj : ∀ h o, H' h = some o → (H h = some o ∧ (o.live → ∀ b, Own ρ h o b → w'.heap[b]? = w.heap[b]?)) ∨ ObR k0 w' F1' F2' ρ' H' h o)
    (hsep : ∀ h h' o o' b, H' h = some o → H' h' = some o' → o.live → o'.live → h ≠ h' → Own ρ' h o b → Own ρ' h' o' b → False)
    (hoff : ∀ h o b, H' h = some o → o.live → Own ρ' h o b → ¬ F1' b)
    (hsub : ∀ b, F2' b → F1' b) (hlt : ∀ b, F1' b → b < w'.heap.size) : HeapR k0 w' F1' F2' ρ' H' := by
  refine ⟨fun h o ho => ?_, hsep, hoff, hsub, hlt⟩
  rcases hobj h o ho with ⟨h1, h2⟩ | h1
  · exact ObR.keep t hh h1 h2
  · exact h1
end
end Go.Proofs.Ytonbbaimkpjcfaa.Ev
/-! ## What each operation of the program comes to is what the reckoner says. No conditions. -/
namespace Go.Proofs.Ytonbbaimkpjcfaa.Ev
open Go
set_option linter.unusedVariables false
set_option linter.unusedSimpArgs false

/-! ### What is known of the types -/
def zeroCell : Value → PV → Bool
  | .int k n, .int k' m => sameKind k k' && decide (n = m)
  | .bool b, .bool c => b == c
  | .string s, .str t => Nat.beq s.data.toList.length 0 && Nat.beq t.data.toList.length 0
  | .pointer none, .nilptr => true
  | .slice none 0 0, .nilsl => true
  | _, _ => false
def zeroCells : List Value → List PV → Bool
  | [], [] => true
  | v :: r, p :: s => zeroCell v p && zeroCells r s
  | _, _ => false
def fieldsOk (P : Program) : List Field → List (Nat × Nat × Bool) → Bool
  | [], [] => true
  | f :: r, (o, n, g) :: s => Nat.beq f.offset o && (match P.info? f.type with | some i => Nat.beq i.size n | none => false) &&
      (match P.underlying f.type with
        | some (.struct _) => g
        | some (.array _ _) => g
        | some _ => !g
        | none => false) && fieldsOk P r s
  | _, _ => false
def kindOk (P : Program) : TypeDesc → TK → Bool
  | .int k, .int k' => sameKind k k'
  | .bool, .bool => true
  | .string, .str => true
  | .slice e, .slice e' => Nat.beq e e'
  | .pointer e, .ptr e' => Nat.beq e e'
  | .struct fs, .struct gs => fieldsOk P fs.toList gs
  | .array n e, .arr n' e' => Nat.beq n n' && Nat.beq e e'
  | .func _ _ _, .func => true
  | _, _ => false
/-- The fields' cells, one behind the other. -/
def eqFs (P : Program) (f : TypeId → Option (List (Nat × TK))) (n : Nat) : List Field → Option (List (Nat × TK))
  | [] => some []
  | x :: r => match f x.type, eqFs P f n r with
    | some a, some b => match x.name != "_" && Nat.ble (x.offset + P.cellsOf x.type) n && a.all (fun p => Nat.blt p.1 (P.cellsOf x.type)) with
      | true => some (a.map (fun p => (x.offset + p.1, p.2)) ++ b)
      | false => none
    | _, _ => none
/-- The cells that an equality of this type looks at. -/
def eqOffs (P : Program) : Nat → TypeId → Option (List (Nat × TK))
  | 0, _ => none
  | d + 1, t => match P.underlying t with
    | some .bool => some [(0, .bool)]
    | some (.int k) => some [(0, .int k)]
    | some .string => some [(0, .str)]
    | some (.struct fs) => match P.stoodInHeld t with
      | true => none
      | false => eqFs P (eqOffs P d) (P.cellsOf t) fs.toList
    | _ => none
def sameLeaves : List (Nat × TK) → List (Nat × TK) → Bool
  | [], [] => true
  | (o, k) :: r, (o', k') :: s => Nat.beq o o' && (match k, k' with
    | .int a, .int b => sameKind a b
    | .bool, .bool => true
    | .str, .str => true
    | _, _ => false) && sameLeaves r s
  | _, _ => false
def eqOk (P : Program) (t : TypeId) (u : TypeDesc) : List (Nat × TK) → Bool
  | [] => true
  | [(_, .slice _)] => true
  | p :: l => (match u with
    | .struct _ => true
    | _ => false) && !P.eqGuardType P.depth t && (match eqOffs P 6 t with
    | some l' => sameLeaves (p :: l) l'
    | none => false)
def tdOk (P : Program) (t : TypeId) (d : TD) : Bool :=
  match P.info? t, P.underlying t with
  | some i, some u => Nat.beq i.size d.size && Nat.beq i.bytes d.bytes && kindOk P u d.k && (match i.zero, d.zero with
    | _, [] => true
    | some z, zs => zeroCells z.cells.toList zs
    | none, _ => false) && eqOk P t u d.eq
  | _, _ => false
def tabOk (P : Program) : Tab → Bool
  | [] => true
  | (t, d) :: r => tdOk P t d && tabOk P r

theorem look_mem {α : Type _} : ∀ {l : List (Nat × α)} {k : Nat} {v : α}, look l k = some v → (k, v) ∈ l
  | [], _, _, h => by simp [look] at h
  | (i, x) :: r, k, v, h => by
    unfold look at h
    cases hb : Nat.beq i k with
    | true =>
      rw [hb] at h
      obtain rfl := Nat.eq_of_beq_eq_true hb
      obtain rfl : x = v := by simpa using h
      simp
    | false =>
      rw [hb] at h
      exact List.mem_cons_of_mem _ (look_mem h)
theorem tabOk_mem {P : Program} : ∀ {T : Tab}, tabOk P T = true → ∀ {t d}, (t, d) ∈ T → tdOk P t d = true
  | [], _, _, _, h => by simp at h
  | (t', d') :: r, h, t, d, hm => by
    simp only [tabOk, Bool.and_eq_true] at h
    rcases List.mem_cons.1 hm with he | he
    · obtain ⟨rfl, rfl⟩ := Prod.mk.inj he
      exact h.1
    · exact tabOk_mem h.2 he
theorem sameKind_eq {k k' : IntKind} (h : sameKind k k' = true) : k = k' := by cases k <;> cases k' <;> first | rfl | simp [sameKind] at h

structure TyOk (P : Program) (t : TypeId) (d : TD) : Prop where
  ex : ∃ i u, P.info? t = some i ∧ P.underlying t = some u ∧ i.size = d.size ∧ i.bytes = d.bytes ∧ kindOk P u d.k = true ∧ (d.zero ≠ [] → ∃ z, i.zero = some z ∧ zeroCells z.cells.toList d.zero = true)
  eq : ∀ u, P.underlying t = some u → eqOk P t u d.eq = true
theorem tyOk {P : Program} {T : Tab} (hT : tabOk P T = true) {t : TypeId} {d : TD} (h : look T t = some d) : TyOk P t d := by
  have h1 := tabOk_mem hT (look_mem h)
  unfold tdOk at h1
  cases hi : P.info? t with
  | none => simp [hi] at h1
  | some i =>
    cases hu : P.underlying t with
    | none => simp [hi, hu] at h1
    | some u =>
      simp only [hi, hu, Bool.and_eq_true] at h1
      refine ⟨⟨i, u, by first | rfl | assumption, by first | rfl | assumption, Nat.eq_of_beq_eq_true h1.1.1.1.1, Nat.eq_of_beq_eq_true h1.1.1.1.2, h1.1.1.2, fun hz => ?_⟩, fun u' hu' => by rw [hu] at hu'; obtain rfl := Option.some.inj hu'; exact h1.2⟩
      have h2 := h1.1.2
      cases hz' : i.zero with
      | none => cases hd : d.zero with
        | nil => exact absurd hd hz
        | cons a b => rw [hz', hd] at h2; simp at h2
      | some z =>
        refine ⟨z, rfl, ?_⟩
        cases hd : d.zero with
        | nil => exact absurd hd hz
        | cons a b => rw [hz', hd] at h2; exact h2
theorem TyOk.slice {P : Program} {t : TypeId} {d : TD} (h : TyOk P t d) {e : TypeId} (hk : d.k = .slice e) : P.underlying t = some (.slice e) := by
  obtain ⟨i, u, _, h2, _, _, h5, _⟩ := h.ex
  rw [hk] at h5
  cases u <;> simp [kindOk] at h5
  rw [h2, h5]
theorem TyOk.arr {P : Program} {t : TypeId} {d : TD} (h : TyOk P t d) {n : Nat} {e : TypeId} (hk : d.k = .arr n e) : P.underlying t = some (.array n e) := by
  obtain ⟨i, u, _, h2, _, _, h5, _⟩ := h.ex
  rw [hk] at h5
  cases u <;> simp [kindOk] at h5
  rw [h2, h5.1, h5.2]
theorem TyOk.ptr {P : Program} {t : TypeId} {d : TD} (h : TyOk P t d) {e : TypeId} (hk : d.k = .ptr e) : P.underlying t = some (.pointer e) := by
  obtain ⟨i, u, _, h2, _, _, h5, _⟩ := h.ex
  rw [hk] at h5
  cases u <;> simp [kindOk] at h5
  rw [h2, h5]
theorem TyOk.int {P : Program} {t : TypeId} {d : TD} (h : TyOk P t d) {k : IntKind} (hk : d.k = .int k) : P.underlying t = some (.int k) := by
  obtain ⟨i, u, _, h2, _, _, h5, _⟩ := h.ex
  rw [hk] at h5
  cases u <;> simp [kindOk] at h5
  rw [h2, sameKind_eq h5]
theorem TyOk.bool {P : Program} {t : TypeId} {d : TD} (h : TyOk P t d) (hk : d.k = .bool) : P.underlying t = some .bool := by
  obtain ⟨i, u, _, h2, _, _, h5, _⟩ := h.ex
  rw [hk] at h5
  cases u <;> simp [kindOk] at h5
  rw [h2]
theorem TyOk.str {P : Program} {t : TypeId} {d : TD} (h : TyOk P t d) (hk : d.k = .str) : P.underlying t = some .string := by
  obtain ⟨i, u, _, h2, _, _, h5, _⟩ := h.ex
  rw [hk] at h5
  cases u <;> simp [kindOk] at h5
  rw [h2]
theorem TyOk.struct {P : Program} {t : TypeId} {d : TD} (h : TyOk P t d) {gs : List (Nat × Nat × Bool)} (hk : d.k = .struct gs) : ∃ fs, P.underlying t = some (.struct fs) ∧ fieldsOk P fs.toList gs = true := by
  obtain ⟨i, u, _, h2, _, _, h5, _⟩ := h.ex
  rw [hk] at h5
  cases u <;> simp [kindOk] at h5
  exact ⟨_, h2, h5⟩
theorem TyOk.sizeOf {P : Program} {t : TypeId} {d : TD} (h : TyOk P t d) (w : World) : (sizeOf t).run P w = .ok d.size w := by
  obtain ⟨i, u, h1, _, h3, _⟩ := h.ex
  simp [Go.sizeOf, typeInfo, h1, h3]
theorem TyOk.info {P : Program} {t : TypeId} {d : TD} (h : TyOk P t d) : ∃ i, P.info? t = some i ∧ i.size = d.size ∧ i.bytes = d.bytes := by
  obtain ⟨i, u, h1, _, h3, h4, _⟩ := h.ex
  exact ⟨i, h1, h3, h4⟩
theorem TyOk.isAgg {P : Program} {t : TypeId} {d : TD} (h : TyOk P t d) (w : World) : (Go.isAgg t).run P w = .ok d.isAgg w := by
  obtain ⟨i, u, _, h2, _, _, h5, _⟩ := h.ex
  unfold Go.isAgg TD.isAgg
  rw [Sem.run_bind, run_underlying h2 w]
  cases hk : d.k <;> cases u <;> simp_all [kindOk]

/-! ### What an operation leaves -/
def upd (H : Hp) (ups : List (Nat × Ob)) : Hp := fun h => match look ups h with
  | some o => some o
  | none => H h
theorem upd_nil (H : Hp) : upd H [] = H := rfl
def LiveB (ρ : Pl) (H : Hp) (b : Nat) : Prop := ∃ h o, H h = some o ∧ o.live ∧ Own ρ h o b

structure Chg (k0 : Nat) (w : World) (F1 F2 : Nat → Prop) (ρ : Pl) (H : Hp) (w' : World) (H' : Hp) (F1' F2' : Nat → Prop) (ρ' : Pl) : Prop where
  trans : Trans w F1 F2 ρ H w' F1' F2' ρ' H'
  heap : HeapR k0 w' F1' F2' ρ' H'
  os : w'.os = w.os
  tape : w'.tape = w.tape
  output : w'.output = w.output
  wr : ∀ b, b < w.heap.size → ¬ LiveB ρ H b → w'.heap[b]? = w.heap[b]?
  g1 : ∀ b, F1' b → F1 b ∨ LiveB ρ H b ∨ w.heap.size ≤ b
  g2 : ∀ b, F2' b → F2 b ∨ LiveB ρ H b ∨ w.heap.size ≤ b
  nw : ∀ h o b, H' h = some o → Own ρ' h o b → (∃ o0, H h = some o0 ∧ Own ρ h o0 b) ∨ LiveB ρ H b ∨ w.heap.size ≤ b
structure OpR (k0 : Nat) (w : World) (F1 F2 : Nat → Prop) (ρ : Pl) (H : Hp) (c : Value) (w' : World) (v : AV) (H' : Hp) (F1' F2' : Nat → Prop) (ρ' : Pl) : Prop where
  chg : Chg k0 w F1 F2 ρ H w' H' F1' F2' ρ'
  avr : AVR w' F1' F2' ρ' H' v c

section
variable {P : Program} {k0 : Nat} {w : World} {F1 F2 : Nat → Prop} {ρ : Pl} {H : Hp}

theorem Trans.refl : Trans w F1 F2 ρ H w F1 F2 ρ H := ⟨Nat.le_refl _, fun _ _ => rfl, fun _ h => h, fun _ h => h, fun _ _ _ => rfl, fun _ _ _ => rfl, fun h o ho => ⟨o, ho, Ob.after_refl o⟩⟩
theorem Chg.refl (hh : HeapR k0 w F1 F2 ρ H) : Chg k0 w F1 F2 ρ H w H F1 F2 ρ :=
  ⟨.refl, hh, rfl, rfl, rfl, fun _ _ _ => rfl, fun _ h => .inl h, fun _ h => .inl h, fun h o b ho hr => .inl ⟨o, ho, hr⟩⟩
theorem OpR.pure (hh : HeapR k0 w F1 F2 ρ H) {c : Value} {v : AV} (h : AVR w F1 F2 ρ H v c) : OpR k0 w F1 F2 ρ H c w v (upd H []) F1 F2 ρ := ⟨.refl hh, h⟩

/-- What the machine does at an operation: a value, or none, in a world that the reckoner's things describe. -/
def VRuns (P : Program) (k0 : Nat) (w : World) (F1 F2 : Nat → Prop) (ρ : Pl) (H : Hp) (s : Sem Value) (v : AV) (ups : List (Nat × Ob)) : Prop :=
  ∃ c w' F1' F2' ρ', s.run P w = .ok c w' ∧ OpR k0 w F1 F2 ρ H c w' v (upd H ups) F1' F2' ρ'
def Runs (P : Program) (k0 : Nat) (w : World) (F1 F2 : Nat → Prop) (ρ : Pl) (H : Hp) (s : Sem Next) (v : AV) (ups : List (Nat × Ob)) : Prop :=
  ∃ n c w' F1' F2' ρ', s.run P w = .ok n w' ∧ (n = .value c ∨ (n = .skip ∧ c = undef)) ∧ OpR k0 w F1 F2 ρ H c w' v (upd H ups) F1' F2' ρ'
theorem Runs.pure (hh : HeapR k0 w F1 F2 ρ H) {s : Sem Next} {c : Value} {v : AV} (hs : s.run P w = .ok (.value c) w) (h : AVR w F1 F2 ρ H v c) : Runs P k0 w F1 F2 ρ H s v [] :=
  ⟨_, c, w, F1, F2, ρ, hs, .inl rfl, OpR.pure hh h⟩

theorem VRuns.pure (hh : HeapR k0 w F1 F2 ρ H) {s : Sem Value} {c : Value} {v : AV} (hs : s.run P w = .ok c w) (h : AVR w F1 F2 ρ H v c) : VRuns P k0 w F1 F2 ρ H s v [] :=
  ⟨c, w, F1, F2, ρ, hs, OpR.pure hh h⟩
theorem VRuns.runs {s : Sem Value} {v : AV} {ups : List (Nat × Ob)} (h : VRuns P k0 w F1 F2 ρ H s v ups) : Runs P k0 w F1 F2 ρ H (do Pure.pure (Next.value (← s)) : Sem Next) v ups := by
  obtain ⟨c, w', F1', F2', ρ', hs, ho⟩ := h
  exact ⟨_, c, w', F1', F2', ρ', by simp [hs], .inl rfl, ho⟩

/-! ### Operands -/
theorem constPV_ok {v : Value} {x : PV} (h : constPV v = some x) (F : Nat → Prop) : PVR w F x v := by
  unfold constPV at h
  split at h <;> first | (obtain rfl := Option.some.inj h; constructor) | simp at h
theorem constPVs_ok : ∀ {vs : List Value} {xs : List PV}, constPVs vs = some xs → ∀ (F : Nat → Prop), xs.length = vs.length ∧ ∀ (i : Nat) (x : PV), xs[i]? = some x → ∃ v : Value, vs[i]? = some v ∧ PVR w F x v
  | [], xs, h, F => by
    obtain rfl : [] = xs := by simpa [constPVs] using h
    exact ⟨rfl, fun i x hx => by simp at hx⟩
  | v :: r, xs, h, F => by
    unfold constPVs at h
    cases hv : constPV v with
    | none => simp [hv] at h
    | some x =>
      cases hr : constPVs r with
      | none => simp [hv, hr] at h
      | some y =>
        simp only [hv, hr, Option.some.injEq] at h
        subst h
        obtain ⟨h1, h2⟩ := constPVs_ok hr F
        refine ⟨by simp [h1], fun i z hz => ?_⟩
        cases i with
        | zero =>
          obtain rfl : x = z := by simpa using hz
          exact ⟨v, by simp, constPV_ok hv F⟩
        | succ i => simpa using h2 i z (by simpa using hz)
theorem getD_of_get {vs : Array Value} {i : Nat} {v : Value} (h : vs.toList[i]? = some v) : vs.getD i undef = v := by
  rw [Array.getElem?_toList] at h
  simp [Array.getD_eq_getD_getElem?, h]
theorem constAV_ok {v : Value} {x : AV} (h : constAV v = some x) : AVR w F1 F2 ρ H x v := by
  unfold constAV at h
  split at h
  · rename_i cs
    cases hc : constPVs cs.toList with
    | none => simp [hc] at h
    | some l =>
      simp only [hc, Option.some.injEq] at h
      subst h
      obtain ⟨h1, h2⟩ := constPVs_ok (w := w) hc F2
      refine .agg _ _ (by simpa using h1.symm) fun i z hz => ?_
      rw [List.getElem?_map] at hz
      cases hl : l[i]? with
      | none => simp [hl] at hz
      | some y =>
        simp only [hl, Option.map_some, Option.some.injEq] at hz
        subst hz
        obtain ⟨u, hu, hp⟩ := h2 i y hl
        rw [getD_of_get hu]
        exact .p true _ _ hp
  · rename_i f a b
    cases ha : a.toList with
    | cons => simp [ha] at h
    | nil => cases hb : b.toList with
      | cons => simp [ha, hb] at h
      | nil =>
        simp only [ha, hb, Option.some.injEq] at h
        subst h
        exact .func _ _ _ _ _ (by simpa using congrArg List.length ha) (fun i z hz => by simp at hz) (by simpa using congrArg List.length hb) (fun i z hz => by simp at hz)
  · cases hc : constPV v with
    | none => simp [hc] at h
    | some y =>
      simp only [hc, Option.some.injEq] at h
      subst h
      exact .p true _ _ (constPV_ok hc F2)

def EnvR (w : World) (F1 F2 : Nat → Prop) (ρ : Pl) (H : Hp) (e : Env) (a : Act) : Prop := ∀ t v, e t = some v → AVR w F1 F2 ρ H v (a.tmps.getD t undef)
theorem evalR_ok {e : Env} {a : Act} (he : EnvR w F1 F2 ρ H e a) {x : Operand} {v : AV} (h : evalR e x = some v) : AVR w F1 F2 ρ H v (a.eval x) := by
  cases x with
  | tmp t => exact he t v h
  | const c => exact constAV_ok h
  | global g => simp [evalR] at h
  | func f =>
    obtain rfl := Option.some.inj h
    exact .func _ _ _ _ _ rfl (fun i z hz => by simp at hz) rfl (fun i z hz => by simp at hz)
theorem evalRs_ok {e : Env} {a : Act} (he : EnvR w F1 F2 ρ H e a) : ∀ {xs : List Operand} {vs : List AV}, evalRs e xs = some vs → vs.length = xs.length ∧ ∀ (i : Nat) (v : AV), vs[i]? = some v → ∃ x : Operand, xs[i]? = some x ∧ AVR w F1 F2 ρ H v (a.eval x)
  | [], vs, h => by
    obtain rfl : [] = vs := by simpa [evalRs] using h
    exact ⟨rfl, fun i v hv => by simp at hv⟩
  | x :: r, vs, h => by
    unfold evalRs at h
    cases h1 : evalR e x with
    | none => simp [h1] at h
    | some b =>
      cases h2 : evalRs e r with
      | none => simp [h1, h2] at h
      | some c =>
        simp only [h1, h2, Option.some.injEq] at h
        subst h
        obtain ⟨h3, h4⟩ := evalRs_ok he h2
        refine ⟨by simp [h3], fun i v hv => ?_⟩
        cases i with
        | zero =>
          obtain rfl : b = v := by simpa using hv
          exact ⟨x, by simp, evalR_ok he h1⟩
        | succ i => simpa using h4 i v (by simpa using hv)

/-! ### Numbers, bools, strings -/
theorem run_vok {s : Sem Value} {c : Value} {w' : World} (h : s.run P w = .ok c w') : (do pure (Next.value (← s)) : Sem Next).run P w = .ok (.value c) w' := by simp [h]

theorem binInt_ok {op : BinOp} {t : TypeId} {k : IntKind} {x y : Int} {X Y : Operand} {cs : List Prop} {v : Option AV} {rd : List Nat} {ups : List (Nat × Ob)}
    (hs : isShift op = false) (h : binInt op k x y = .ok cs v rd ups) (hc : allP cs) :
    ups = [] ∧ ∃ c v', v = some v' ∧ (do eqGuard op t X Y (.int k x) (.int k y); binOp op t (.int k x) (.int k y) : Sem Value).run P w = .ok c w ∧ AVR w F1 F2 ρ H v' c := by
  cases op with
  | quo =>
    simp only [binInt, isI, Step.ok.injEq] at h
    obtain ⟨rfl, rfl, rfl, rfl⟩ := h
    have hy : y ≠ 0 := hc
    exact ⟨rfl, _, _, rfl, by simp [eqGuard, binOp, Op.intDiv, hy], .p true _ _ (.int _ _)⟩
  | rem =>
    simp only [binInt, isI, Step.ok.injEq] at h
    obtain ⟨rfl, rfl, rfl, rfl⟩ := h
    have hy : y ≠ 0 := hc
    exact ⟨rfl, _, _, rfl, by simp [eqGuard, binOp, Op.intDiv, hy], .p true _ _ (.int _ _)⟩
  | shl => simp [isShift] at hs
  | shr => simp [isShift] at hs
  | add => simp only [binInt, ok1, isI, Step.ok.injEq] at h; obtain ⟨rfl, rfl, rfl, rfl⟩ := h; exact ⟨rfl, _, _, rfl, by simp [eqGuard, binOp, Op.intArith], .p true _ _ (.int _ _)⟩
  | sub => simp only [binInt, ok1, isI, Step.ok.injEq] at h; obtain ⟨rfl, rfl, rfl, rfl⟩ := h; exact ⟨rfl, _, _, rfl, by simp [eqGuard, binOp, Op.intArith], .p true _ _ (.int _ _)⟩
  | mul => simp only [binInt, ok1, isI, Step.ok.injEq] at h; obtain ⟨rfl, rfl, rfl, rfl⟩ := h; exact ⟨rfl, _, _, rfl, by simp [eqGuard, binOp, Op.intArith], .p true _ _ (.int _ _)⟩
  | and => simp only [binInt, ok1, isI, Step.ok.injEq] at h; obtain ⟨rfl, rfl, rfl, rfl⟩ := h; exact ⟨rfl, _, _, rfl, by simp [eqGuard, binOp, Op.intBits], .p true _ _ (.int _ _)⟩
  | or => simp only [binInt, ok1, isI, Step.ok.injEq] at h; obtain ⟨rfl, rfl, rfl, rfl⟩ := h; exact ⟨rfl, _, _, rfl, by simp [eqGuard, binOp, Op.intBits], .p true _ _ (.int _ _)⟩
  | xor => simp only [binInt, ok1, isI, Step.ok.injEq] at h; obtain ⟨rfl, rfl, rfl, rfl⟩ := h; exact ⟨rfl, _, _, rfl, by simp [eqGuard, binOp, Op.intBits], .p true _ _ (.int _ _)⟩
  | andNot => simp only [binInt, ok1, isI, Step.ok.injEq] at h; obtain ⟨rfl, rfl, rfl, rfl⟩ := h; exact ⟨rfl, _, _, rfl, by simp [eqGuard, binOp, Op.intBits], .p true _ _ (.int _ _)⟩
  | eql => simp only [binInt, ok1, isB, Step.ok.injEq] at h; obtain ⟨rfl, rfl, rfl, rfl⟩ := h; exact ⟨rfl, _, _, rfl, by simp [eqGuard, binOp, Op.intCmp], .p true _ _ (.bool _)⟩
  | neq => simp only [binInt, ok1, isB, Step.ok.injEq] at h; obtain ⟨rfl, rfl, rfl, rfl⟩ := h; exact ⟨rfl, _, _, rfl, by simp [eqGuard, binOp, Op.intCmp], .p true _ _ (.bool _)⟩
  | lss => simp only [binInt, ok1, isB, Step.ok.injEq] at h; obtain ⟨rfl, rfl, rfl, rfl⟩ := h; exact ⟨rfl, _, _, rfl, by simp [eqGuard, binOp, Op.intCmp], .p true _ _ (.bool _)⟩
  | leq => simp only [binInt, ok1, isB, Step.ok.injEq] at h; obtain ⟨rfl, rfl, rfl, rfl⟩ := h; exact ⟨rfl, _, _, rfl, by simp [eqGuard, binOp, Op.intCmp], .p true _ _ (.bool _)⟩
  | gtr => simp only [binInt, ok1, isB, Step.ok.injEq] at h; obtain ⟨rfl, rfl, rfl, rfl⟩ := h; exact ⟨rfl, _, _, rfl, by simp [eqGuard, binOp, Op.intCmp], .p true _ _ (.bool _)⟩
  | geq => simp only [binInt, ok1, isB, Step.ok.injEq] at h; obtain ⟨rfl, rfl, rfl, rfl⟩ := h; exact ⟨rfl, _, _, rfl, by simp [eqGuard, binOp, Op.intCmp], .p true _ _ (.bool _)⟩
end
end Go.Proofs.Ytonbbaimkpjcfaa.Ev
/-! ## What each operation of the program comes to is what the reckoner says: values. No conditions. -/
namespace Go.Proofs.Ytonbbaimkpjcfaa.Ev
open Go
set_option linter.unusedVariables false
set_option linter.unusedSimpArgs false
section
variable {P : Program} {T : Tab} {k0 : Nat} {w : World} {F1 F2 : Nat → Prop} {ρ : Pl} {H : Hp}

/-- What a step of the reckoner's is good for. -/
def StepOk (P : Program) (k0 : Nat) (w : World) (F1 F2 : Nat → Prop) (ρ : Pl) (H : Hp) (s : Sem Value) : Step → Prop
  | .ok cs (some v) _ ups => allP cs → VRuns P k0 w F1 F2 ρ H s v ups
  | .ok _ none _ _ => False
  | .dem c _ => ∃ b, c b ∧ VRuns P k0 w F1 F2 ρ H s (isB b) []
  | .bad => True
  | .call _ _ => False
theorem StepOk.ok1 (hh : HeapR k0 w F1 F2 ρ H) {s : Sem Value} {c : Value} {v : AV} (hs : s.run P w = .ok c w) (h : AVR w F1 F2 ρ H v c) : StepOk P k0 w F1 F2 ρ H s (ok1 v) := fun _ => VRuns.pure hh hs h

theorem avI {k : IntKind} {n : Int} : AVR w F1 F2 ρ H (isI k n) (.int k n) := .p true _ _ (.int _ _)
theorem avB {b : Bool} : AVR w F1 F2 ρ H (isB b) (.bool b) := .p true _ _ (.bool _)

theorem shiftInt_ok (hh : HeapR k0 w F1 F2 ρ H) (op : BinOp) (t : TypeId) (k k' : IntKind) (x y : Int) (X Y : Operand) :
    StepOk P k0 w F1 F2 ρ H (do eqGuard op t X Y (.int k x) (.int k' y); binOp op t (.int k x) (.int k' y)) (shiftInt op k x y) := by
  cases op <;> first
    | exact trivial
    | (intro hc
       have hy : ¬ y < 0 := by have : 0 ≤ y := hc; omega
       exact VRuns.pure hh (by simp [eqGuard, binOp, Op.shift, hy]) avI)
theorem binInt_step (hh : HeapR k0 w F1 F2 ρ H) (op : BinOp) (t : TypeId) (k : IntKind) (x y : Int) (X Y : Operand) (hs : isShift op = false) :
    StepOk P k0 w F1 F2 ρ H (do eqGuard op t X Y (.int k x) (.int k y); binOp op t (.int k x) (.int k y)) (binInt op k x y) := by
  cases hb : binInt op k x y with
  | bad => trivial
  | ok cs v rd ups =>
    cases v with
    | none =>
      cases op <;> simp [binInt, Ev.ok1, isShift] at hb hs
    | some v =>
      intro hc
      obtain ⟨rfl, c, v', hv, h1, h2⟩ := binInt_ok (t := t) (X := X) (Y := Y) (P := P) (F1 := F1) (F2 := F2) (ρ := ρ) (H := H) (w := w) hs hb hc
      obtain rfl := Option.some.inj hv
      exact VRuns.pure hh h1 h2
  | dem c rd => cases op <;> simp [binInt, Ev.ok1] at hb
  | call Ix r => cases op <;> simp [binInt, Ev.ok1] at hb
theorem binStr_ok (hh : HeapR k0 w F1 F2 ρ H) (op : BinOp) (t : TypeId) (x y : ByteArray) (X Y : Operand) :
    StepOk P k0 w F1 F2 ρ H (do eqGuard op t X Y (.string x) (.string y); binOp op t (.string x) (.string y)) (binStr op x y) := by
  cases op <;> first
    | exact trivial
    | (intro hc
       simp only [allP] at hc
       have hn : ¬ 9223372036854775807 < ((x.size : Int) + (y.size : Int)) := by omega
       exact VRuns.pure hh (by simp [eqGuard, binOp, Op.stringOp, hn]) (.p true _ _ (.str _)))
    | exact StepOk.ok1 hh (by simp [eqGuard, binOp, Op.stringOp, ByteArray.toList_eq]) avB

theorem run_eqB (t : TypeId) (a b : Bool) (hu : P.underlying t = some .bool) : (Op.equal t (.bool a) (.bool b)).run P w = .ok (a == b) w := by
  have h : ∀ d : Nat, (Op.equalIn (d + 1) t (.bool a) (.bool b)).run P w = .ok (a == b) w := fun d => by simp [Op.equalIn, run_underlying hu]
  exact h 9999
theorem run_eqPnn (t e : TypeId) (hu : P.underlying t = some (.pointer e)) : (Op.equal t (.pointer none) (.pointer none)).run P w = .ok true w := by
  have h : ∀ d : Nat, (Op.equalIn (d + 1) t (.pointer none) (.pointer none)).run P w = .ok true w := fun d => by simp [Op.equalIn, run_underlying hu]
  exact h 9999
theorem run_eqPsn (t e : TypeId) (a : Addr) (hu : P.underlying t = some (.pointer e)) : (Op.equal t (.pointer (some a)) (.pointer none)).run P w = .ok false w := by
  have h : ∀ d : Nat, (Op.equalIn (d + 1) t (.pointer (some a)) (.pointer none)).run P w = .ok false w := fun d => by simp [Op.equalIn, run_underlying hu]
  exact h 9999
theorem run_eqSn (t e : TypeId) (A : Option Addr) (n c : Nat) (hu : P.underlying t = some (.slice e)) : (Op.equal t (.slice A n c) (.slice none 0 0)).run P w = .ok A.isNone w := by
  have h : ∀ d : Nat, (Op.equalIn (d + 1) t (.slice A n c) (.slice none 0 0)).run P w = .ok A.isNone w := fun d => by cases A <;> simp [Op.equalIn, run_underlying hu]
  exact h 9999
theorem evalEq_ok (hh : HeapR k0 w F1 F2 ρ H) {t : TypeId} {d : TD} (ht : TyOk P t d) (op : BinOp) {a b : AV} {x y : Value} (X Y : Operand) (ha : AVR w F1 F2 ρ H a x) (hb : AVR w F1 F2 ρ H b y) :
    StepOk P k0 w F1 F2 ρ H (do eqGuard op t X Y x y; binOp op t x y) (evalEq d.k op a b) := by
  unfold evalEq
  split
  · rename_i f1 p f2 q hk
    cases ha with | p _ _ _ ha => cases ha with | bool => cases hb with | p _ _ _ hb => cases hb with | bool =>
    have hu := ht.bool hk
    cases op <;> first
      | exact trivial
      | exact StepOk.ok1 hh (by simp [eqGuard, binOp, run_eqB _ _ _ hu]) avB
  · rename_i e f1 f2 hk
    cases ha with | p _ _ _ ha => cases ha with | nilptr => cases hb with | p _ _ _ hb => cases hb with | nilptr =>
    have hu := ht.ptr hk
    cases op <;> first
      | exact trivial
      | exact StepOk.ok1 hh (by simp [eqGuard, binOp, run_eqPnn _ _ hu]) avB
  · rename_i e h off f2 hk
    cases hb with | p _ _ _ hb => cases hb with | nilptr => cases ha with | ptr h off b cp o h1 h2 =>
    have hu := ht.ptr hk
    cases op <;> first
      | exact trivial
      | exact StepOk.ok1 hh (by simp [eqGuard, binOp, run_eqPsn _ _ _ hu]) avB
  · trivial
theorem nilAsk_ok {a : AV} {x : Value} (ha : AVR w F1 F2 ρ H a x) {c : Bool → Prop} {rd : List Nat} (hn : nilAsk H a = some (c, rd)) : ∃ A n cp, x = .slice A n cp ∧ ∀ q : Bool, (q = true → A = none) → c q := by
  unfold nilAsk at hn
  split at hn
  · obtain ⟨rfl, _⟩ := Prod.mk.inj (Option.some.inj hn)
    cases ha with | p _ _ _ ha => cases ha with | nilsl A => exact ⟨A, 0, 0, rfl, fun _ _ => trivial⟩
  · obtain ⟨rfl, _⟩ := Prod.mk.inj (Option.some.inj hn)
    cases ha with | p _ _ _ ha =>
    cases ha with
    | slnil sz A cap => exact ⟨A, 0, cap, rfl, fun q _ _ => rfl⟩
    | sl sz els ad cap cs => exact ⟨some ad, _, cap, rfl, fun q hq hq' => by cases hq hq'⟩
  · rename_i h
    cases hH : H h with
    | none => simp [hH] at hn
    | some o =>
      cases o with
      | box => simp [hH] at hn
      | gone => simp [hH] at hn
      | tree => simp [hH] at hn
      | row e' sz fr fz els =>
        simp only [hH, Option.some.injEq, Prod.mk.injEq] at hn
        obtain ⟨rfl, _⟩ := hn
        cases ha with | rowf _ _ o ho _ hr hr2 =>
        rw [hH] at ho
        obtain rfl := Option.some.inj ho
        have hs := hr _ _ _ _ _ rfl
        unfold SlV at hs
        cases hρ : ρ h with
        | none =>
          rw [hρ] at hs
          obtain ⟨_, hl, A, rfl⟩ := hs
          exact ⟨A, 0, 0, rfl, fun q _ _ => List.eq_nil_of_length_eq_zero hl⟩
        | some gc =>
          obtain ⟨g, cap⟩ := gc
          rw [hρ] at hs
          obtain ⟨_, A, rfl, hA⟩ := hs
          refine ⟨A, _, _, rfl, fun q hq hq' => ?_⟩
          rcases Nat.eq_zero_or_pos cap with h0 | h0
          · exact List.eq_nil_of_length_eq_zero (by omega)
          · rw [hA h0] at hq
            cases hq hq'
  · simp at hn
theorem evalNil_ok (hT : tabOk P T = true) (hh : HeapR k0 w F1 F2 ρ H) (op : BinOp) (t : TypeId) {a : AV} {x : Value} (X : Operand) (ha : AVR w F1 F2 ρ H a x) {Y : Operand} (hY : isNilConst Y = true) (ac : Act) :
    StepOk P k0 w F1 F2 ρ H (do eqGuard op t X Y x (ac.eval Y); binOp op t x (ac.eval Y)) (evalNil T H op t a) := by
  have hy : ac.eval Y = .slice none 0 0 := by
    unfold isNilConst at hY
    split at hY
    · rfl
    · cases hY
  rw [hy]
  unfold evalNil
  split
  · rename_i d ht
    split
    · rename_i e c rd hk hn
      obtain ⟨A, n, cp, rfl, hq⟩ := nilAsk_ok ha hn
      have hu := (tyOk hT ht).slice hk
      refine ⟨A.isNone, hq _ (fun h => by simpa using h), ?_⟩
      exact VRuns.pure hh (by simp [eqGuard, binOp, run_eqSn _ _ _ _ _ hu]) avB
    · trivial
  · trivial
/-! ### Structs of flat cells -/
def vLeaf (k : TK) (a b : Value) : Option Bool := match k, a, b with
  | .int k, .int k1 n, .int k2 m => if k1 = k ∧ k2 = k then some (n == m) else none
  | .bool, .bool a, .bool b => some (a == b)
  | .str, .string a, .string b => some (a.toList == b.toList)
  | _, _, _ => none
def vLeaves (f g : Nat → Option Value) : List (Nat × TK) → Option Bool
  | [] => some true
  | (o, k) :: r => match f o, g o with
    | some a, some b => match vLeaf k a b, vLeaves f g r with
      | some p, some q => some (p && q)
      | _, _ => none
    | _, _ => none
theorem vLeaves_cons {f g : Nat → Option Value} {o : Nat} {k : TK} {r : List (Nat × TK)} {b : Bool} (h : vLeaves f g ((o, k) :: r) = some b) : ∃ x y p q, f o = some x ∧ g o = some y ∧ vLeaf k x y = some p ∧ vLeaves f g r = some q ∧ b = (p && q) := by
  unfold vLeaves at h
  split at h
  · rename_i x y h1 h2
    split at h
    · rename_i p q h3 h4
      exact ⟨x, y, p, q, h1, h2, h3, h4, (Option.some.inj h).symm⟩
    · cases h
  · cases h
theorem vLeaves_app {f g : Nat → Option Value} : ∀ {a b : List (Nat × TK)} {r : Bool}, vLeaves f g (a ++ b) = some r → ∃ p q, vLeaves f g a = some p ∧ vLeaves f g b = some q ∧ r = (p && q)
  | [], b, r, h => ⟨true, r, rfl, h, by simp⟩
  | (o, k) :: a, b, r, h => by
    obtain ⟨x, y, p, q, h1, h2, h3, h4, rfl⟩ := vLeaves_cons h
    obtain ⟨p', q', h5, h6, rfl⟩ := vLeaves_app h4
    refine ⟨p && p', q', ?_, h6, by rw [Bool.and_assoc]⟩
    unfold vLeaves
    rw [h1, h2]
    simp only [h3, h5]
theorem vLeaves_shift {f g f' g' : Nat → Option Value} {off n : Nat} (hf : ∀ i, i < n → f' i = f (off + i)) (hg : ∀ i, i < n → g' i = g (off + i)) : ∀ (a : List (Nat × TK)), (∀ p ∈ a, p.1 < n) → vLeaves f g (a.map fun p => (off + p.1, p.2)) = vLeaves f' g' a
  | [], _ => rfl
  | (o, k) :: a, h => by
    rw [List.map_cons]
    unfold vLeaves
    rw [hf o (h _ List.mem_cons_self), hg o (h _ List.mem_cons_self), vLeaves_shift hf hg a fun p hp => h p (List.mem_cons_of_mem _ hp)]
/-- Two values of a type, out of cells: their equality. -/
def EqAtO (P : Program) (d : Nat) (t : TypeId) (os : List (Nat × TK)) : Prop := ∀ (w : World) (A B : Array Value) (off : Nat) (r : Bool), off + P.cellsOf t ≤ A.size → off + P.cellsOf t ≤ B.size →
  vLeaves (fun i => A[off + i]?) (fun i => B[off + i]?) os = some r → ∃ a b, (part t A off).run P w = .ok a w ∧ (part t B off).run P w = .ok b w ∧ ∀ k, (Op.equalIn (d + k) t a b).run P w = .ok r w
theorem eqFs_run {P : Program} {d : Nat} {f : TypeId → Option (List (Nat × TK))} (IH : ∀ t os, f t = some os → EqAtO P d t os) (n : Nat) : ∀ (fs : List Field) (os : List (Nat × TK)), eqFs P f n fs = some os →
    ∀ (w : World) (A B : Array Value) (r : Bool), n ≤ A.size → n ≤ B.size → vLeaves (fun i => A[i]?) (fun i => B[i]?) os = some r → ∀ k, (Op.eqFields (d + k) A B fs).run P w = .ok r w
  | [], os, h, w, A, B, r, hA, hB, hr, k => by
    obtain rfl := Option.some.inj h
    obtain rfl := Option.some.inj hr
    simp [Op.eqFields]
  | x :: fs, os, h, w, A, B, r, hA, hB, hr, k => by
    unfold eqFs at h
    split at h
    · rename_i a b ha hb
      split at h
      · rename_i hc
        simp only [Bool.and_eq_true, bne_iff_ne, ne_eq] at hc
        obtain ⟨⟨h1, h2⟩, h3⟩ := hc
        have h2 := Nat.le_of_ble_eq_true h2
        have h3 : ∀ p ∈ a, p.1 < P.cellsOf x.type := fun p hp => Nat.le_of_ble_eq_true (List.all_eq_true.1 h3 p hp)
        obtain rfl := Option.some.inj h
        obtain ⟨p, q, e1, e2, rfl⟩ := vLeaves_app hr
        rw [vLeaves_shift (f' := fun i => A[x.offset + i]?) (g' := fun i => B[x.offset + i]?) (n := P.cellsOf x.type) (fun i _ => rfl) (fun i _ => rfl) a h3] at e1
        obtain ⟨u, v, r1, r2, r3⟩ := IH _ _ ha w A B x.offset p (by omega) (by omega) e1
        have r4 := eqFs_run IH n fs b hb w A B q hA hB e2 k
        simp only [Op.eqFields, h1, ne_eq, not_false_eq_true, if_true, Sem.run_bind, r1, r2, r3 k, Result.andThen_ok]
        cases p
        · simp
        · simpa using r4
      · cases h
    · cases h
theorem eqOffs_run {P : Program} : ∀ (d : Nat) (t : TypeId) (os : List (Nat × TK)), eqOffs P d t = some os → EqAtO P d t os ∧
    ∀ fs, P.underlying t = some (.struct fs) → ∀ (w : World) (A B : Array Value) (r : Bool), P.cellsOf t ≤ A.size → P.cellsOf t ≤ B.size → vLeaves (fun i => A[i]?) (fun i => B[i]?) os = some r → ∀ k, (Op.equalIn (d + k) t (.agg A) (.agg B)).run P w = .ok r w
  | 0, t, os, h => by cases h
  | d + 1, t, os, h => by
    have IH := fun t os (h : eqOffs P d t = some os) => (eqOffs_run d t os h).1
    unfold eqOffs at h
    have one : ∀ {k : TK}, os = [(0, k)] → P.plainKey t = true → (∀ (w : World) (x y : Value) (p : Bool), vLeaf k x y = some p → ∀ k', (Op.equalIn (d + 1 + k') t x y).run P w = .ok p w) → EqAtO P (d + 1) t os := by
      intro k he hp hq w A B off r hA hB hr
      subst he
      obtain ⟨x, y, p, q, h1, h2, h3, h4, rfl⟩ := vLeaves_cons hr
      obtain rfl := Option.some.inj h4
      rw [Bool.and_true]
      exact ⟨x, y, run_part_plain w hp (by simpa using h1), run_part_plain w hp (by simpa using h2), hq w x y p h3⟩
    cases hu : P.underlying t with
    | none => rw [hu] at h; cases h
    | some u =>
      rw [hu] at h
      cases u
      case bool =>
        refine ⟨one (Option.some.inj h).symm (by simp [Program.plainKey, hu]) fun w x y p hl k => ?_, fun fs hfs => by cases hfs⟩
        rw [show d + 1 + k = (d + k) + 1 by omega]
        cases x <;> cases y <;> simp [vLeaf] at hl
        subst hl
        simp [Op.equalIn, run_underlying hu]
      case int q =>
        refine ⟨one (Option.some.inj h).symm (by simp [Program.plainKey, hu]) fun w x y p hl k => ?_, fun fs hfs => by cases hfs⟩
        rw [show d + 1 + k = (d + k) + 1 by omega]
        cases x <;> cases y <;> simp [vLeaf] at hl
        obtain ⟨⟨rfl, rfl⟩, rfl⟩ := hl
        simp [Op.equalIn, run_underlying hu]
      case string =>
        refine ⟨one (Option.some.inj h).symm (by simp [Program.plainKey, hu]) fun w x y p hl k => ?_, fun fs hfs => by cases hfs⟩
        rw [show d + 1 + k = (d + k) + 1 by omega]
        cases x <;> cases y <;> simp [vLeaf] at hl
        subst hl
        exact run_equalIn_string w _ _ _ _ hu
      case struct fs =>
        simp only at h
        cases hst : P.stoodInHeld t with
        | true => rw [hst] at h; cases h
        | false =>
          rw [hst] at h
          simp only at h
          have hfs : P.fieldsOf t = fs := by simp [Program.fieldsOf, hu]
          have top : ∀ (w : World) (A B : Array Value) (r : Bool), P.cellsOf t ≤ A.size → P.cellsOf t ≤ B.size → vLeaves (fun i => A[i]?) (fun i => B[i]?) os = some r → ∀ k, (Op.equalIn (d + 1 + k) t (.agg A) (.agg B)).run P w = .ok r w := by
            intro w A B r hA hB hr k
            rw [show d + 1 + k = (d + k) + 1 by omega, run_equalIn_struct w (d + k) t A B (by rw [hfs]; exact hu) hst, hfs]
            exact eqFs_run IH (P.cellsOf t) fs.toList os h w A B r hA hB hr k
          obtain ⟨i, hi⟩ := info_of_underlying hu
          refine ⟨fun w A B off r hA hB hr => ?_, fun fs' _ => top⟩
          have hx : ∀ (C : Array Value), off + P.cellsOf t ≤ C.size → (part t C off).run P w = .ok (.agg (C.extract off (off + P.cellsOf t))) w := fun C _ => by simp [part, isAgg, run_underlying hu, run_sizeOf w hi]
          refine ⟨_, _, hx A hA, hx B hB, fun k => top w _ _ r (by simp; omega) (by simp; omega) ?_ k⟩
          rw [← hr]
          have hlt : ∀ p ∈ os, p.1 < P.cellsOf t := by
            have : ∀ (l : List Field) (os : List (Nat × TK)), eqFs P (eqOffs P d) (P.cellsOf t) l = some os → ∀ p ∈ os, p.1 < P.cellsOf t := by
              intro l
              induction l with
              | nil => intro os h p hp; obtain rfl := Option.some.inj h; cases hp
              | cons x l ih =>
                intro os h p hp
                unfold eqFs at h
                split at h
                · rename_i a b ha hb
                  split at h
                  · rename_i hc
                    simp only [Bool.and_eq_true, bne_iff_ne, ne_eq] at hc
                    obtain ⟨⟨h1, h2⟩, h3⟩ := hc
                    have h2 := Nat.le_of_ble_eq_true h2
                    obtain rfl := Option.some.inj h
                    rcases List.mem_append.1 hp with hp | hp
                    · obtain ⟨p', hp', rfl⟩ := List.mem_map.1 hp
                      have : p'.1 < P.cellsOf x.type := Nat.le_of_ble_eq_true (List.all_eq_true.1 h3 p' hp')
                      simp only
                      omega
                    · exact ih b hb p hp
                  · cases h
                · cases h
            exact this _ _ h
          have sh := vLeaves_shift (f := fun i => A[off + i]?) (g := fun i => B[off + i]?) (f' := fun i => (A.extract off (off + P.cellsOf t))[i]?) (g' := fun i => (B.extract off (off + P.cellsOf t))[i]?) (off := 0) (n := P.cellsOf t)
            (fun i hi => by rw [Nat.zero_add, Array.getElem?_extract]; rw [if_pos (by omega)]) (fun i hi => by rw [Nat.zero_add, Array.getElem?_extract]; rw [if_pos (by omega)]) os hlt
          rw [← sh]
          congr 1
          simp
      all_goals (cases h; done)
theorem sameLeaves_eq : ∀ {a b : List (Nat × TK)}, sameLeaves a b = true → a = b
  | [], [], _ => rfl
  | [], _ :: _, h => by cases h
  | _ :: _, [], h => by cases h
  | (o, k) :: a, (o', k') :: b, h => by
    simp only [sameLeaves, Bool.and_eq_true] at h
    obtain ⟨⟨h1, h2⟩, h3⟩ := h
    obtain rfl := Nat.eq_of_beq_eq_true h1
    obtain rfl := sameLeaves_eq h3
    split at h2
    · obtain rfl := sameKind_eq h2; rfl
    · rfl
    · rfl
    · cases h2
theorem eqLeaf_v {k : TK} {a b : AV} {x y : Value} {p : Bool} (ha : AVR w F1 F2 ρ H a x) (hb : AVR w F1 F2 ρ H b y) (h : eqLeaf k a b = some p) : vLeaf k x y = some p := by
  unfold eqLeaf at h
  split at h
  · cases ha with | p _ _ _ ha => cases ha with | int => cases hb with | p _ _ _ hb => cases hb with | int =>
    split at h
    · rename_i h1 h2
      obtain rfl := sameKind_eq h1
      obtain rfl := sameKind_eq h2
      simpa [vLeaf] using h
    · cases h
  · cases ha with | p _ _ _ ha => cases ha with | bool => cases hb with | p _ _ _ hb => cases hb with | bool => exact h
  · cases ha with | p _ _ _ ha => cases ha with | str => cases hb with | p _ _ _ hb => cases hb with | str =>
    simpa [vLeaf, ByteArray.toList_eq] using h
  · cases h
theorem eqLeaves_v {xs ys : List AV} {A B : Array Value} (hA : ∀ (i : Nat) (v : AV), xs[i]? = some v → ∃ c, A[i]? = some c ∧ AVR w F1 F2 ρ H v c) (hB : ∀ (i : Nat) (v : AV), ys[i]? = some v → ∃ c, B[i]? = some c ∧ AVR w F1 F2 ρ H v c) :
    ∀ {os : List (Nat × TK)} {r : Bool}, eqLeaves os xs ys = some r → vLeaves (fun i => A[i]?) (fun i => B[i]?) os = some r
  | [], r, h => h
  | (o, k) :: os, r, h => by
    unfold eqLeaves at h
    split at h
    · rename_i a b h1 h2
      split at h
      · rename_i p q h3 h4
        obtain ⟨c, e1, e2⟩ := hA o a h1
        obtain ⟨c', e3, e4⟩ := hB o b h2
        have h5 := eqLeaves_v hA hB h4
        unfold vLeaves
        simp only [e1, e3, eqLeaf_v e2 e4 h3, h5]
        exact h
      · cases h
    · cases h
theorem evalEqS_ok (hT : tabOk P T = true) (hh : HeapR k0 w F1 F2 ρ H) (op : BinOp) (t : TypeId) {xs ys : List AV} {x y : Value} (X Y : Operand) (ha : AVR w F1 F2 ρ H (.agg xs) x) (hb : AVR w F1 F2 ρ H (.agg ys) y) :
    StepOk P k0 w F1 F2 ρ H (do eqGuard op t X Y x y; binOp op t x y) (evalEqS T op t xs ys) := by
  unfold evalEqS
  split
  · rename_i d ht
    split
    · rename_i p0 l heq hsz
      by_cases hsl : ∃ o ie, p0 :: l = [(o, TK.slice ie)]
      · obtain ⟨o, ie, hsl⟩ := hsl
        have hno : eqLeaves (p0 :: l) xs ys = none := by
          rw [hsl]
          unfold eqLeaves
          split
          · have h1 : ∀ a b, eqLeaf (.slice ie) a b = none := fun a b => by cases a <;> cases b <;> rfl
            rw [h1]
          · rfl
        rw [hno]
        trivial
      simp only [Bool.and_eq_true] at hsz
      have s1 := Nat.eq_of_beq_eq_true hsz.1
      have s2 := Nat.eq_of_beq_eq_true hsz.2
      obtain ⟨i, u, hi, hu, hsize, _⟩ := (tyOk hT ht).ex
      have heqk := (tyOk hT ht).eq u hu
      rw [heq] at heqk
      unfold eqOk at heqk
      split at heqk
      · rename_i hh0
        cases hh0
      · rename_i hh0
        exact absurd ⟨_, _, hh0⟩ hsl
      rename_i hh0
      cases hh0
      simp only [Bool.and_eq_true, Bool.not_eq_true'] at heqk
      obtain ⟨⟨hk1, hk2⟩, hk3⟩ := heqk
      obtain ⟨fs, rfl⟩ : ∃ fs, u = .struct fs := by
        split at hk1
        · exact ⟨_, rfl⟩
        · cases hk1
      split at hk3
      · rename_i l' hl'
        obtain rfl := sameLeaves_eq hk3
        have hc : P.cellsOf t = d.size := by simp [Program.cellsOf, hi, hsize]
        cases ha with | agg _ A a1 a2 =>
        cases hb with | agg _ B b1 b2 =>
        have key : ∀ r, eqLeaves (p0 :: l) xs ys = some r → (Op.equal t (.agg A) (.agg B)).run P w = .ok r w := by
          intro r hr
          have hv := eqLeaves_v (A := A) (B := B) (fun i v hv => ⟨A.getD i undef, by
              have hlt := (List.getElem?_eq_some_iff.1 hv).1
              simp [Array.getD_eq_getD_getElem?, show i < A.size by omega], a2 i v hv⟩) (fun i v hv => ⟨B.getD i undef, by
              have hlt := (List.getElem?_eq_some_iff.1 hv).1
              simp [Array.getD_eq_getD_getElem?, show i < B.size by omega], b2 i v hv⟩) hr
          exact (eqOffs_run 6 t _ hl').2 fs hu w A B r (by omega) (by omega) hv 9994
        have hg : ∀ (op : BinOp), (eqGuard op t X Y (.agg A) (.agg B)).run P w = .ok () w := by
          intro op
          unfold eqGuard
          cases op <;> simp [hk2]
        split
        · rename_i r hr
          exact StepOk.ok1 hh (by simp [hg, binOp, key r hr]) avB
        · rename_i r hr
          exact StepOk.ok1 hh (by simp [hg, binOp, key r hr]) avB
        · trivial
      · cases hk3
    · trivial
  · trivial
theorem evalBin_ok (hT : tabOk P T = true) (hh : HeapR k0 w F1 F2 ρ H) (op : BinOp) (t : TypeId) {a b : AV} {x y : Value} (X Y : Operand) (ha : AVR w F1 F2 ρ H a x) (hb : AVR w F1 F2 ρ H b y) :
    StepOk P k0 w F1 F2 ρ H (do eqGuard op t X Y x y; binOp op t x y) (evalBin T op t a b) := by
  unfold evalBin
  split
  · exact evalEqS_ok hT hh op t X Y ha hb
  · rename_i f1 k m f2 k' n
    cases ha with | p _ _ _ ha => cases ha with | int => cases hb with | p _ _ _ hb => cases hb with | int =>
    cases hs : isShift op with
    | true => exact shiftInt_ok hh op t k k' m n X Y
    | false =>
      cases hk : sameKind k k' with
      | false => trivial
      | true =>
        obtain rfl := sameKind_eq hk
        exact binInt_step hh op t k m n X Y hs
  · cases ha with | p _ _ _ ha => cases ha with | str => cases hb with | p _ _ _ hb => cases hb with | str =>
    exact binStr_ok hh op t _ _ X Y
  · split
    · rename_i d ht
      exact evalEq_ok hh (tyOk hT ht) op X Y ha hb
    · trivial
theorem evalUn_ok (hh : HeapR k0 w F1 F2 ρ H) (op : UnOp) {a : AV} {x : Value} (ha : AVR w F1 F2 ρ H a x) : StepOk P k0 w F1 F2 ρ H (Op.unary op x) (evalUn op a) := by
  unfold evalUn
  split
  · cases ha with | p _ _ _ ha => cases ha with | bool =>
    cases op <;> first
      | exact trivial
      | exact StepOk.ok1 hh (by simp [Op.unary]) avB
  · cases ha with | p _ _ _ ha => cases ha with | int =>
    cases op <;> first
      | exact trivial
      | exact StepOk.ok1 hh rfl avI
      | exact StepOk.ok1 hh (by simp [Op.unary, Op.intArith]) avI
  · trivial
theorem evalPick_ok (hh : HeapR k0 w F1 F2 ρ H) {a b c : AV} {x y z : Value} (ha : AVR w F1 F2 ρ H a x) (hb : AVR w F1 F2 ρ H b y) (hc : AVR w F1 F2 ρ H c z) :
    StepOk P k0 w F1 F2 ρ H (do Pure.pure (if ← asBool x then y else z)) (evalPick a b c) := by
  unfold evalPick
  split
  · rename_i f1 p f2 q f3 r
    cases ha with | p _ _ _ ha => cases ha with | bool => cases hb with | p _ _ _ hb => cases hb with | bool => cases hc with | p _ _ _ hc => cases hc with | bool =>
    exact StepOk.ok1 hh (c := .bool (cond p q r)) (by cases p <;> simp [asBool]) avB
  · cases ha with | p _ _ _ ha => cases ha with | bool =>
    split
    · intro _
      exact VRuns.pure hh (c := y) (by simp [asBool]) hb
    · intro _
      exact VRuns.pure hh (c := z) (by simp [asBool]) hc
  · trivial
end
end Go.Proofs.Ytonbbaimkpjcfaa.Ev
/-! ## What each operation of the program comes to is what the reckoner says: loads, cuts, conversions. No conditions. -/
namespace Go.Proofs.Ytonbbaimkpjcfaa.Ev
open Go
set_option linter.unusedVariables false
set_option linter.unusedSimpArgs false
section
variable {P : Program} {T : Tab} {k0 : Nat} {w : World} {F1 F2 : Nat → Prop} {ρ : Pl} {H : Hp}

theorem flagF_sub (hs : ∀ b, F2 b → F1 b) (fr : Bool) : ∀ b, flagF fr F1 F2 b → F1 b := by
  cases fr
  · exact fun _ h => h
  · exact hs
theorem withDfl_eq (T : Tab) (e : TypeId) (K : PV → Step) : withDfl T e K = K (dfl T e) := by
  unfold withDfl dfl
  split
  · split <;> rfl
  · rfl
theorem HeapR.row (hh : HeapR k0 w F1 F2 ρ H) {h : Nat} {e : TypeId} {sz : Nat} {fr fz : Bool} {els : List PV} (ho : H h = some (.row e sz fr fz els)) : ObR k0 w F1 F2 ρ H h (.row e sz fr fz els) := hh.obj h _ ho

/-- A slice of a row of cells shows what the cells say. -/
theorem row_show {F : Nat → Prop} {g cap off n sz : Nat} {e : TypeId} {cur : Array Value} {els : List PV} {fz : Nat × Nat} {c : Value} (hg : w.heap[g]? = some (.cells cur e fz)) (hl : els.length ≤ cap) (hc : cur.size = cap * sz) (he : ∀ x ∈ els, x.cells.length = sz)
    (hv : ∀ i v, (flat els)[i]? = some v → PVR w F v (cur.getD i undef)) (hn : off + n ≤ els.length) (hs : SlV (some (g, cap)) sz off n c) (hF : F g) : PVR w F (.sl sz (cutEls off n els)) c := by
  obtain ⟨h1, A, rfl, hA⟩ := hs
  have hlen : (cutEls off n els).length = n := by simp [cutEls]; omega
  rcases Nat.eq_zero_or_pos n with rfl | hp
  · rw [List.eq_nil_of_length_eq_zero hlen]
    exact .slnil _ _ _
  · rw [hA (by omega)]
    have hce : ∀ x ∈ cutEls off n els, x.cells.length = sz := fun x hx => he x (List.mem_of_mem_drop (List.mem_of_mem_take hx))
    have hfl : flat (cutEls off n els) = ((flat els).drop (off * sz)).take (n * sz) := by
      unfold cutEls
      rw [flat_take (fun x hx => he x (List.mem_of_mem_drop hx)), flat_drop he]
    have hget : ∀ i v, (flat (cutEls off n els))[i]? = some v → i < n * sz ∧ (flat els)[off * sz + i]? = some v := by
      intro i v h
      rw [hfl, List.getElem?_take] at h
      split at h
      · exact ⟨by assumption, by rwa [List.getElem?_drop] at h⟩
      · cases h
    have hh := PVR.sl (w := w) (F := F) sz (cutEls off n els) ⟨g, off * sz, none⟩ (cap - off) (fun i => cur.getD (off * sz + i) undef) rfl hF (by omega) hce
      (fun i hi => by
        rw [flat_length hce, hlen] at hi
        rw [Addr.add_mid]
        have hsz : off * sz + i < cur.size := by
          rw [hc]
          have : off * sz + n * sz ≤ cap * sz := by rw [← Nat.add_mul]; exact Nat.mul_le_mul_right _ h1
          omega
        simp [World.cell?, hg, Array.getD_eq_getD_getElem?, hsz])
      (fun i v h => hv _ v (hget i v h).2)
    rwa [hlen] at hh
theorem cutEls_all (els : List PV) : cutEls 0 els.length els = els := by simp [cutEls]

theorem SlV.zero {r : Option (Nat × Nat)} {sz off : Nat} {c : Value} (h : SlV r sz off 0 c) : ∃ A cap, c = .slice A 0 cap := by
  unfold SlV at h
  cases r with
  | none => obtain ⟨_, _, A, rfl⟩ := h; exact ⟨A, 0, rfl⟩
  | some gc => obtain ⟨g, cap⟩ := gc; obtain ⟨_, A, rfl, _⟩ := h; exact ⟨A, _, rfl⟩

/-- A value looked at as one without places: what it shows lies in F, if the rows that it reads do. -/
theorem viewPV_core (hh : HeapR k0 w F1 F2 ρ H) {a : AV} {c : Value} (ha : AVR w F1 F2 ρ H a c) {fr : Bool} {v : PV} {l : List Nat} (hv : viewPV H k0 a = some (fr, v, l)) (F : Nat → Prop)
    (hp : ∀ fr0 v0, a = .p fr0 v0 → ∀ b, flagF fr0 F1 F2 b → F b) (hR : ∀ h ∈ l, ∀ e sz fr0 fz els, H h = some (.row e sz fr0 fz els) → ∀ b, flagF fr0 F1 F2 b → F b)
    (hl : ∀ h ∈ l, ∀ b cp, ρ h = some (b, cp) → F b) : PVR w F v c := by
  unfold viewPV at hv
  split at hv
  · obtain ⟨rfl, h2⟩ := Prod.mk.inj (Option.some.inj hv)
    obtain ⟨rfl, rfl⟩ := Prod.mk.inj h2
    cases ha with | p _ _ _ ha => exact ha.mono (fun _ _ => rfl) (hp _ _ rfl)
  · rename_i h
    cases hH : H h with
    | none => simp [hH] at hv
    | some o => cases o with
      | box => simp [hH] at hv
      | gone => simp [hH] at hv
      | tree => simp [hH] at hv
      | row e sz fr' fz els =>
        simp only [hH, Option.some.injEq, Prod.mk.injEq] at hv
        obtain ⟨rfl, rfl, rfl⟩ := hv
        cases ha with | rowf _ _ o ho _ hr hr2 =>
        rw [hH] at ho
        obtain rfl := Option.some.inj ho
        have hs := hr _ _ _ _ _ rfl
        obtain ⟨h1, h2, h3⟩ := hh.row hH
        cases hρ : ρ h with
        | none =>
          rw [hρ] at h3 hs
          simp only at h3
          subst h3
          obtain ⟨A, cap, rfl⟩ := hs.zero
          exact .slnil _ _ _
        | some gc =>
          obtain ⟨g, cap⟩ := gc
          rw [hρ] at h3 hs
          obtain ⟨cur, h4, h5, h6, h7, h8, h9⟩ := h3
          have := row_show (F := F) h4 h5 h7 h2 (fun i v hv => (h8 i v hv).mono (fun _ _ => rfl) (hR h (by simp) _ _ _ _ _ hH)) (by omega) hs (hl h (by simp) g cap hρ)
          rwa [cutEls_all] at this
  · rename_i h off n
    cases hH : H h with
    | none => simp [hH] at hv
    | some o => cases o with
      | box => simp [hH] at hv
      | gone => simp [hH] at hv
      | tree => simp [hH] at hv
      | row e sz fr' fz els =>
        simp only [hH, Option.some.injEq, Prod.mk.injEq] at hv
        obtain ⟨rfl, rfl, rfl⟩ := hv
        cases ha with | row _ _ _ _ o ho _ hr =>
        rw [hH] at ho
        obtain rfl := Option.some.inj ho
        obtain ⟨hs, hle⟩ := hr _ _ _ _ _ rfl
        obtain ⟨h1, h2, h3⟩ := hh.row hH
        cases hρ : ρ h with
        | none =>
          rw [hρ] at h3 hs
          simp only at h3
          subst h3
          obtain ⟨rfl, rfl, A, rfl⟩ := hs
          exact .slnil _ _ _
        | some gc =>
          obtain ⟨g, cap⟩ := gc
          rw [hρ] at h3 hs
          obtain ⟨cur, h4, h5, h6, h7, h8, h9⟩ := h3
          exact row_show (F := F) h4 h5 h7 h2 (fun i v hv => (h8 i v hv).mono (fun _ _ => rfl) (hR h (by simp) _ _ _ _ _ hH)) hle hs (hl h (by simp) g cap hρ)
  · cases hv

theorem viewPV_ok (hh : HeapR k0 w F1 F2 ρ H) {a : AV} {c : Value} (ha : AVR w F1 F2 ρ H a c) {fr : Bool} {v : PV} {l : List Nat} (hv : viewPV H k0 a = some (fr, v, l)) (F : Nat → Prop)
    (hF : ∀ b, F1 b → F b) (hl : ∀ h ∈ l, ∀ b cp, ρ h = some (b, cp) → F b) : PVR w F v c :=
  viewPV_core hh ha hv F (fun fr0 _ _ b hb => hF b (flagF_sub hh.sub fr0 b hb)) (fun _ _ _ _ fr0 _ _ _ b hb => hF b (flagF_sub hh.sub fr0 b hb)) hl
theorem viewPV_ok2 (hh : HeapR k0 w F1 F2 ρ H) {a : AV} {c : Value} (ha : AVR w F1 F2 ρ H a c) {fr : Bool} {v : PV} {l : List Nat} (hv : viewPV H k0 a = some (fr, v, l)) (G1 G2 : Nat → Prop)
    (h1 : ∀ b, F1 b → G1 b) (h2 : ∀ b, F2 b → G2 b) (hl1 : ∀ h ∈ l, ∀ b cp, ρ h = some (b, cp) → G1 b) (hl2 : ∀ h ∈ l, k0 ≤ h → ∀ b cp, ρ h = some (b, cp) → G2 b) : PVR w (flagF fr G1 G2) v c := by
  cases fr with
  | false => exact viewPV_ok hh ha hv G1 h1 hl1
  | true =>
    have hv' := hv
    unfold viewPV at hv'
    refine viewPV_core hh ha hv G2 (fun fr0 v0 he b hb => ?_) (fun h hm e sz fr0 fz els hH b hb => ?_) (fun h hm b cp hρ => ?_)
    · subst he
      obtain ⟨rfl, _⟩ := Prod.mk.inj (Option.some.inj hv')
      exact h2 b hb
    · split at hv'
      · obtain ⟨rfl, h3⟩ := Prod.mk.inj (Option.some.inj hv')
        obtain ⟨_, rfl⟩ := Prod.mk.inj h3
        cases hm
      · rename_i h'
        cases hH' : H h' with
        | none => simp [hH'] at hv'
        | some o => cases o with
          | box => simp [hH'] at hv'
          | gone => simp [hH'] at hv'
          | tree => simp [hH'] at hv'
          | row e' sz' fr' fz' els' =>
            simp only [hH', Option.some.injEq, Prod.mk.injEq, Bool.and_eq_true] at hv'
            obtain ⟨⟨rfl, _⟩, _, rfl⟩ := hv'
            obtain rfl : h = h' := by simpa using hm
            rw [hH'] at hH
            obtain ⟨rfl, rfl, rfl, rfl, rfl⟩ := Ob.row.inj (Option.some.inj hH)
            exact h2 b hb
      · rename_i h' off n
        cases hH' : H h' with
        | none => simp [hH'] at hv'
        | some o => cases o with
          | box => simp [hH'] at hv'
          | gone => simp [hH'] at hv'
          | tree => simp [hH'] at hv'
          | row e' sz' fr' fz' els' =>
            simp only [hH', Option.some.injEq, Prod.mk.injEq, Bool.and_eq_true] at hv'
            obtain ⟨⟨rfl, _⟩, _, rfl⟩ := hv'
            obtain rfl : h = h' := by simpa using hm
            rw [hH'] at hH
            obtain ⟨rfl, rfl, rfl, rfl, rfl⟩ := Ob.row.inj (Option.some.inj hH)
            exact h2 b hb
      · cases hv'
    · split at hv'
      · obtain ⟨_, h3⟩ := Prod.mk.inj (Option.some.inj hv')
        obtain ⟨_, rfl⟩ := Prod.mk.inj h3
        cases hm
      · rename_i h'
        cases hH' : H h' with
        | none => simp [hH'] at hv'
        | some o => cases o with
          | box => simp [hH'] at hv'
          | gone => simp [hH'] at hv'
          | tree => simp [hH'] at hv'
          | row e' sz' fr' fz' els' =>
            simp only [hH', Option.some.injEq, Prod.mk.injEq, Bool.and_eq_true] at hv'
            obtain ⟨⟨_, hk⟩, _, rfl⟩ := hv'
            obtain rfl : h = h' := by simpa using hm
            exact hl2 h hm (Nat.le_of_ble_eq_true hk) b cp hρ
      · rename_i h' off n
        cases hH' : H h' with
        | none => simp [hH'] at hv'
        | some o => cases o with
          | box => simp [hH'] at hv'
          | gone => simp [hH'] at hv'
          | tree => simp [hH'] at hv'
          | row e' sz' fr' fz' els' =>
            simp only [hH', Option.some.injEq, Prod.mk.injEq, Bool.and_eq_true] at hv'
            obtain ⟨⟨_, hk⟩, _, rfl⟩ := hv'
            obtain rfl : h = h' := by simpa using hm
            exact hl2 h hm (Nat.le_of_ble_eq_true hk) b cp hρ
      · cases hv'

/-! ### Loads -/
theorem pvr_flag (hs : ∀ b, F2 b → F1 b) {fr : Bool} {v : PV} {c : Value} (h : PVR w (flagF fr F1 F2) v c) : PVR w (flagF (fr || v.flatB) F1 F2) v c := by
  cases fr with
  | true => exact h
  | false =>
    rw [Bool.false_or]
    cases hv : v.flatB with
    | false => exact h
    | true => exact h.flat hv
theorem loadCells_ok (hT : tabOk P T = true) (hh : HeapR k0 w F1 F2 ρ H) {fr : Bool} {t : TypeId} {cs : List PV} {rd : List Nat} {ad : Addr}
    (hc : ∀ i v, cs[i]? = some v → ∃ c, w.cell? (ad.add i) = some c ∧ PVR w (flagF fr F1 F2) v c) : StepOk P k0 w F1 F2 ρ H (Instr.loadAt t (.pointer (some ad))) (loadCells T fr t cs rd) := by
  unfold Ev.loadCells
  split
  · rename_i d ht
    have hty := tyOk hT ht
    split
    · rename_i hagg
      intro hle
      have hle : d.size ≤ cs.length := hle
      have hall : ∀ i, i < d.size → ∃ c, w.cell? (ad.add i) = some c ∧ ∀ v, cs[i]? = some v → PVR w (flagF fr F1 F2) v c := by
        intro i hi
        obtain ⟨c, h1, h2⟩ := hc i cs[i] (by rw [List.getElem?_eq_getElem (by omega)])
        exact ⟨c, h1, fun v hv => by rw [List.getElem?_eq_getElem (by omega)] at hv; obtain rfl := Option.some.inj hv; exact h2⟩
      let f : Nat → Value := fun i => ((w.cell? (ad.add i)).getD undef)
      have hf : ∀ j, j < d.size → w.cell? (ad.add j) = some (f j) := fun j hj => by obtain ⟨c, h1, _⟩ := hall j hj; simp [f, h1]
      have hrun := run_loadCells (P := P) (w := w) ad d.size f hf
      refine VRuns.pure hh (c := .agg ((List.range d.size).map f).toArray) ?_ ?_
      · rw [show Instr.loadAt t (.pointer (some ad)) = loadVar t ad from rfl]
        simp only [loadVar, Sem.run_bind, hty.isAgg, Result.andThen_ok, hagg, if_true, hty.sizeOf, hrun, Sem.run_pure]
      · refine .agg _ _ (by simp; omega) fun i v hv => ?_
        rw [List.getElem?_map, List.getElem?_take] at hv
        split at hv
        · rename_i hi
          cases hci : cs[i]? with
          | none => simp [hci] at hv
          | some x =>
            simp only [hci, Option.map_some, Option.some.injEq] at hv
            subst hv
            obtain ⟨c, h1, h2⟩ := hall i hi
            have : (((List.range d.size).map f).toArray).getD i undef = c := by simp [Array.getD_eq_getD_getElem?, hi, f, h1]
            rw [this]
            exact .p _ _ _ (pvr_flag hh.sub (h2 x hci))
        · simp at hv
    · rename_i hagg
      split
      · rename_i v r
        obtain ⟨c, h1, h2⟩ := hc 0 v (by simp)
        rw [show ad.add 0 = ad by simp [Addr.add]] at h1
        refine fun _ => VRuns.pure hh (c := c) ?_ (.p _ _ _ (pvr_flag hh.sub h2))
        rw [show Instr.loadAt t (.pointer (some ad)) = loadVar t ad from rfl]
        simp only [loadVar, Sem.run_bind, hty.isAgg, Result.andThen_ok, hagg, if_false, Bool.false_eq_true]
        simp [load, Sem.run, h1]
      · trivial
  · trivial
theorem loadEl_ok (hT : tabOk P T = true) (hh : HeapR k0 w F1 F2 ρ H) {fr : Bool} {t : TypeId} {sz off : Nat} {x : PV} {rd : List Nat} {ad : Addr}
    (hc : ∀ i v, (x.cells.drop off)[i]? = some v → ∃ c, w.cell? (ad.add i) = some c ∧ PVR w (flagF fr F1 F2) v c) : StepOk P k0 w F1 F2 ρ H (Instr.loadAt t (.pointer (some ad))) (loadEl T fr t sz off x rd) := by
  unfold loadEl
  split
  · rename_i hb
    simp only [Bool.and_eq_true] at hb
    obtain rfl := Nat.eq_of_beq_eq_true hb.2
    split
    · rename_i d ht
      split
      · rename_i hagg
        intro hx
        have hx : x.cells = [x] := hx
        have h := loadCells_ok (fr := fr) (t := t) (cs := [x]) (rd := rd) hT hh (ad := ad) (by rw [hx] at hc; exact hc)
        unfold Ev.loadCells at h
        rw [ht] at h
        simp only [hagg] at h
        exact h trivial
      · exact loadCells_ok hT hh hc
    · trivial
  · exact loadCells_ok hT hh hc
def updR (ρ : Pl) (h : Nat) (x : Option (Nat × Nat)) : Pl := ⟨fun i => match Nat.beq i h with
  | true => x
  | false => ρ i, ρ.iota⟩
theorem updR_same (h : Nat) (x : Option (Nat × Nat)) : updR ρ h x h = x := by simp [updR]
theorem updR_ne {h i : Nat} (x : Option (Nat × Nat)) (hn : i ≠ h) : updR ρ h x i = ρ i := by
  simp only [updR]
  split
  · rename_i hb; exact absurd (Nat.eq_of_beq_eq_true hb) hn
  · rfl
theorem updR_iota (h : Nat) (x : Option (Nat × Nat)) : (updR ρ h x).iota = ρ.iota := rfl
theorem Own.upd {h i b : Nat} {o : Ob} {x : Option (Nat × Nat)} (hn : i ≠ h) (hr : Own (updR ρ h x) i o b) : Own ρ i o b := hr.cg (updR_ne x hn) rfl
theorem look_cons_same {α : Type _} (h : Nat) (o : α) (r : List (Nat × α)) : look ((h, o) :: r) h = some o := by simp [look]
theorem look_cons_ne {α : Type _} {h i : Nat} (o : α) (r : List (Nat × α)) (hn : h ≠ i) : look ((h, o) :: r) i = look r i := by
  rw [look]
  split
  · rename_i hb; exact absurd (Nat.eq_of_beq_eq_true hb) hn
  · rfl
theorem upd_cons (o : Ob) (h : Nat) (r : List (Nat × Ob)) : upd H ((h, o) :: r) = fun i => if i = h then some o else upd H r i := by
  funext i
  by_cases hi : i = h
  · subst hi
    simp [upd, look_cons_same]
  · simp only [upd, hi, if_false]
    rw [look_cons_ne o r (fun e => hi e.symm)]
theorem tcAt_set {els : List (List TC)} {i j : Nat} {t : TC} (a b : Nat) (hij : (tcAt els i j).isSome = true) : tcAt (els.set i ((els.getD i []).set j t)) a b = if a = i ∧ b = j then some t else tcAt els a b := by
  unfold tcAt at hij ⊢
  cases hx : els[i]? with
  | none => rw [hx] at hij; cases hij
  | some x =>
    rw [hx] at hij
    have hlt : i < els.length := (List.getElem?_eq_some_iff.1 hx).1
    have hg : els.getD i [] = x := by simp [List.getD_eq_getElem?_getD, hx]
    rw [hg, List.getElem?_set]
    by_cases ha : a = i
    · subst ha
      rw [if_pos rfl, if_pos hlt]
      simp only [Option.bind_some, true_and, hx]
      rw [List.getElem?_set]
      by_cases hb : b = j
      · subst hb
        have hjl : b < x.length := by
          rcases Nat.lt_or_ge b x.length with h | h
          · exact h
          · simp [List.getElem?_eq_none h] at hij
        simp [hjl]
      · rw [if_neg (Ne.symm hb), if_neg hb]
    · rw [if_neg (Ne.symm ha), if_neg (fun h => ha h.1)]
/-- A list that a cell owns gets a number of its own. -/
theorem Chg.split (hh : HeapR k0 w F1 F2 ρ H) {nx h e sz ie i j : Nat} {els : List (List TC)} {l : List PV} (hn : H nx = none) (ho : H h = some (.tree e sz ie els)) (hc : tcAt els i j = some (.ow l)) :
    Chg k0 w F1 F2 ρ H w (upd H [(nx, .row ie 1 true false l), (h, .tree e sz ie (els.set i ((els.getD i []).set j (.ref nx))))]) F1 F2 (updR ρ nx (ρ.iota h i j)) ∧
      ∀ g cap cur c, ρ h = some (g, cap) → w.heap[g]? = some (.cells cur e (0, 0)) → c = cur.getD (i * sz + j) undef → AVR w F1 F2 (updR ρ nx (ρ.iota h i j)) (upd H [(nx, .row ie 1 true false l), (h, .tree e sz ie (els.set i ((els.getD i []).set j (.ref nx))))]) (.rowf nx) c := by
  have hne : ∀ i o, H i = some o → i ≠ nx := fun i o hi he => by subst he; rw [hn] at hi; cases hi
  have hhx := hne h _ ho
  generalize hE : els.set i ((els.getD i []).set j (.ref nx)) = E
  have hat : ∀ a b, tcAt E a b = if a = i ∧ b = j then some (.ref nx) else tcAt els a b := fun a b => by rw [← hE]; exact tcAt_set a b (by rw [hc]; rfl)
  have how : ∀ a b l', tcAt E a b = some (.ow l') → tcAt els a b = some (.ow l') ∧ ¬ (a = i ∧ b = j) := by
    intro a b l' hab
    rw [hat] at hab
    split at hab
    · cases hab
    · exact ⟨hab, by assumption⟩
  have hlen : E.length = els.length := by rw [← hE, List.length_set]
  have hH : upd H [(nx, .row ie 1 true false l), (h, .tree e sz ie E)] = fun i => if i = nx then some (.row ie 1 true false l) else if i = h then some (.tree e sz ie E) else H i := by rw [upd_cons, upd_cons]; rfl
  obtain ⟨q1, q2, q3, q4, q5⟩ := hh.obj h _ ho
  have hin : InR w ie (ρ.iota h i j) l = InR w ie (ρ.iota h i j) l := rfl
  have haf : Ob.after (.tree e sz ie els) (.tree e sz ie E) := ⟨fun _ _ _ _ _ h => (by cases h), fun _ => trivial, fun e' sz' ie' els' he => by
    obtain ⟨rfl, rfl, rfl, rfl⟩ := Ob.tree.inj he
    exact ⟨els, rfl, hlen, fun a b l' h => ⟨l', (how a b l' h).1⟩⟩⟩
  have t : Trans w F1 F2 ρ H w F1 F2 (updR ρ nx (ρ.iota h i j)) (upd H [(nx, .row ie 1 true false l), (h, .tree e sz ie E)]) := by
    refine ⟨Nat.le_refl _, fun _ _ => rfl, fun _ h => h, fun _ h => h, fun i o hi => updR_ne _ (hne i o hi), fun _ _ _ => rfl, fun a o ha => ?_⟩
    rw [hH]
    simp only [hne a o ha, if_false]
    by_cases he : a = h
    · subst he
      rw [ho] at ha
      obtain rfl := Option.some.inj ha
      exact ⟨_, by simp, haf⟩
    · exact ⟨o, by simp [he, ha], Ob.after_refl o⟩
  have hcell : ∀ g cap, ρ h = some (g, cap) → ∃ cur, w.heap[g]? = some (.cells cur e (0, 0)) ∧ InR w ie (ρ.iota h i j) l (cur.getD (i * sz + j) undef) := by
    intro g cap hρ
    rw [hρ] at q3
    obtain ⟨cur, r1, _, _, _, r5⟩ := q3
    exact ⟨cur, r1, r5 i j _ hc⟩
  obtain ⟨g, cap, hρ⟩ : ∃ g cap, ρ h = some (g, cap) := by
    cases hρ : ρ h with
    | none =>
      rw [hρ] at q3
      simp only at q3
      subst q3
      cases hc
    | some gc => exact ⟨gc.1, gc.2, rfl⟩
  obtain ⟨cur, hcur, hinr⟩ := hcell g cap hρ
  have hother : ∀ a o, upd H [(nx, .row ie 1 true false l), (h, .tree e sz ie E)] a = some o → a ≠ nx → ∃ o0, H a = some o0 ∧ o0.after o ∧ (a ≠ h → o0 = o) := by
    intro a o ha hax
    rw [hH] at ha
    simp only [hax, if_false] at ha
    by_cases he : a = h
    · subst he
      simp at ha
      subst ha
      exact ⟨_, ho, haf, fun h => absurd rfl h⟩
    · simp [he] at ha
      exact ⟨o, ha, Ob.after_refl o, fun _ => rfl⟩
  have hnx : ∀ o, upd H [(nx, .row ie 1 true false l), (h, .tree e sz ie E)] nx = some o → o = .row ie 1 true false l := by
    intro o ho
    rw [hH] at ho
    simp at ho
    exact ho.symm
  have hown : ∀ b c, ρ.iota h i j = some (b, c) → Own ρ h (.tree e sz ie els) b := fun b c hr => .inr ⟨i, j, l, c, hc, hr⟩
  have hsep : ∀ a o b c, upd H [(nx, .row ie 1 true false l), (h, .tree e sz ie E)] a = some o → o.live → a ≠ nx → Own (updR ρ nx (ρ.iota h i j)) a o b → ρ.iota h i j = some (b, c) → False := by
    intro a o b c ha hl hax hr hb
    replace hr := Own.upd hax hr
    obtain ⟨o0, h1, h2, h3⟩ := hother a o ha hax
    by_cases he : a = h
    · subst he
      rw [hH] at ha
      simp [hax] at ha
      subst ha
      rcases hr with ⟨c', hr⟩ | ⟨i', j', l', c', h4, h5⟩
      · exact q5 i j l b c c' hc hb hr
      · obtain ⟨h6, h7⟩ := how i' j' l' h4
        exact h7 (q4 i' j' i j l' l b c' c h6 hc h5 hb)
    · obtain rfl := h3 he
      exact hh.sep a h o0 _ b h1 ho hl trivial he hr (hown b c hb)
  have havr : ∀ g cap cur c, ρ h = some (g, cap) → w.heap[g]? = some (.cells cur e (0, 0)) → c = cur.getD (i * sz + j) undef → AVR w F1 F2 (updR ρ nx (ρ.iota h i j)) (upd H [(nx, .row ie 1 true false l), (h, .tree e sz ie E)]) (.rowf nx) c := by
    intro g' cap' cur' c h1 h2 h3
    obtain ⟨cur2, h4, h5⟩ := hcell g' cap' h1
    rw [h2] at h4
    obtain rfl := (Obj.cells.inj (Option.some.inj h4)).1
    subst h3
    refine .rowf nx _ (.row ie 1 true false l) (by rw [hH]; simp) h5.2.1 (fun e' sz' fr' fz' els' he => ?_) fun _ _ _ _ he => by cases he
    obtain ⟨rfl, rfl, rfl, rfl, rfl⟩ := Ob.row.inj he
    rw [updR_same]
    exact h5.1
  refine ⟨⟨t, HeapR.step hh t (fun a o ha => ?_) (fun a a' o1 o2 b ha ha' hl1 hl2 hd hr1 hr2 => ?_) (fun a o b ha hl hr => ?_) hh.sub hh.lt, rfl, rfl, rfl, fun _ _ _ => rfl, fun b hb => .inl hb, fun b hb => .inl hb, fun a o b ha hr => ?_⟩, havr⟩
  · by_cases hax : a = nx
    · subst hax
      obtain rfl := hnx o ha
      refine .inr ⟨Nat.one_pos, hinr.2.2.1, ?_⟩
      rw [updR_same]
      have h4 := hinr.2.2.2
      cases hio : ρ.iota h i j with
      | none => rw [hio] at h4; exact h4
      | some gc =>
        obtain ⟨b, cp⟩ := gc
        rw [hio] at h4
        obtain ⟨cur', r1, r2, r3, r4, r5⟩ := h4
        exact ⟨cur', r1, r2, r3, r4, fun i v hv => (r5 i v hv).mono (fun _ hf => hf.elim) (fun _ hf => hf.elim), fun h => by cases h⟩
    · obtain ⟨o0, h1, h2, h3⟩ := hother a o ha hax
      by_cases he : a = h
      · subst he
        rw [hH] at ha
        simp [hax] at ha
        subst ha
        refine .inr ⟨q1, fun x hx => ?_, ?_, ?_, ?_⟩
        · rw [← hE] at hx
          rcases List.mem_or_eq_of_mem_set hx with h | rfl
          · exact q2 x h
          · rw [List.length_set]
            refine q2 _ ?_
            cases hx0 : els[i]? with
            | none => rw [tcAt, hx0] at hc; cases hc
            | some y =>
              have : els.getD i [] = y := by simp [List.getD_eq_getElem?_getD, hx0]
              rw [this]
              exact List.mem_of_getElem? hx0
        · rw [updR_ne _ hax, hρ, updR_iota]
          rw [hρ] at q3
          obtain ⟨cur2, r1, r2, r3, r4, r5⟩ := q3
          refine ⟨cur2, r1, by omega, r3, r4, fun x y u hu => ?_⟩
          rw [hat] at hu
          split at hu
          · rename_i hxy
            obtain ⟨rfl, rfl⟩ := hxy
            obtain rfl := Option.some.inj hu
            exact havr g cap cur2 _ hρ r1 rfl
          · exact TCR.keep t hh.sub (fun _ _ _ _ _ => rfl) (r5 x y u hu)
        · intro i1 j1 i2 j2 l1 l2 b c c' h4 h5
          exact q4 i1 j1 i2 j2 l1 l2 b c c' (how _ _ _ h4).1 (how _ _ _ h5).1
        · intro i1 j1 l1 b c c' h4 h5
          rw [updR_ne _ hax]
          exact q5 i1 j1 l1 b c c' (how _ _ _ h4).1 h5
      · obtain rfl := h3 he
        exact .inl ⟨h1, fun _ _ _ => rfl⟩
  · by_cases hx1 : a = nx
    · subst hx1
      obtain rfl := hnx o1 ha
      obtain ⟨c, hr1⟩ := hr1.row
      rw [updR_same] at hr1
      exact hsep a' o2 b c ha' hl2 (Ne.symm hd) hr2 hr1
    · by_cases hx2 : a' = nx
      · subst hx2
        obtain rfl := hnx o2 ha'
        obtain ⟨c, hr2⟩ := hr2.row
        rw [updR_same] at hr2
        exact hsep a o1 b c ha hl1 hd hr1 hr2
      · obtain ⟨p1, h1, h2, _⟩ := hother a o1 ha hx1
        obtain ⟨p2, h3, h4, _⟩ := hother a' o2 ha' hx2
        exact hh.sep a a' p1 p2 b h1 h3 (h2.2.1 hl1) (h4.2.1 hl2) hd (Own.after h2 (Own.upd hx1 hr1)) (Own.after h4 (Own.upd hx2 hr2))
  · by_cases hax : a = nx
    · subst hax
      obtain rfl := hnx o ha
      obtain ⟨c, hr⟩ := hr.row
      rw [updR_same] at hr
      exact hh.off h _ b ho trivial (hown b c hr)
    · obtain ⟨p1, h1, h2, _⟩ := hother a o ha hax
      exact hh.off a p1 b h1 (h2.2.1 hl) (Own.after h2 (Own.upd hax hr))
  · by_cases hax : a = nx
    · subst hax
      obtain rfl := hnx o ha
      obtain ⟨c, hr⟩ := hr.row
      rw [updR_same] at hr
      exact .inr (.inl ⟨h, _, ho, trivial, hown b c hr⟩)
    · obtain ⟨p1, h1, h2, _⟩ := hother a o ha hax
      exact .inl ⟨p1, h1, Own.after h2 (Own.upd hax hr)⟩
theorem evalLoad_ok (hT : tabOk P T = true) (hh : HeapR k0 w F1 F2 ρ H) {nx : Nat} (hn : H nx = none) (t : TypeId) {a : AV} {x : Value} (ha : AVR w F1 F2 ρ H a x) : StepOk P k0 w F1 F2 ρ H (Instr.loadAt t x) (evalLoad T H nx t a) := by
  unfold evalLoad
  split
  · rename_i h off
    cases ha with | ptr _ _ b cp o ho hr =>
    split
    · rename_i cs d hH ht
      have hty := tyOk hT ht
      obtain ⟨b', cp', cur, ty, h1, h2, h3, h4⟩ := hh.obj h _ hH
      rw [hr] at h1
      obtain ⟨rfl, rfl⟩ := Prod.mk.inj (Option.some.inj h1)
      have hcell : ∀ i, i < cs.length → w.cell? ⟨b, i, none⟩ = some (cur.getD i undef) := fun i hi => by
        simp [World.cell?, h2, Array.getD_eq_getD_getElem?, show i < cur.size by omega]
      split
      · rename_i hagg
        intro hle
        have hle : off + d.size ≤ cs.length := hle
        have hrun := run_loadCells (P := P) (w := w) ⟨b, off, none⟩ d.size (fun j => cur.getD (off + j) undef) (fun j hj => by rw [Addr.add_mid]; exact hcell _ (by omega))
        refine VRuns.pure hh (c := .agg ((List.range d.size).map (fun j => cur.getD (off + j) undef)).toArray) ?_ ?_
        · rw [show Instr.loadAt t (.pointer (some ⟨b, off, none⟩)) = loadVar t ⟨b, off, none⟩ from rfl]
          simp only [loadVar, Sem.run_bind, hty.isAgg, Result.andThen_ok, hagg, if_true, hty.sizeOf, hrun, Sem.run_pure]
        · refine .agg _ _ (by simp; omega) fun i v hv => ?_
          rw [List.getElem?_take] at hv
          split at hv
          · rename_i hi
            rw [List.getElem?_drop] at hv
            have : (((List.range d.size).map (fun j => cur.getD (off + j) undef)).toArray).getD i undef = cur.getD (off + i) undef := by simp [Array.getD_eq_getD_getElem?, hi]
            rw [this]
            exact h4 _ v hv
          · cases hv
      · rename_i hagg
        split
        · rename_i v r hd
          have hv : cs[off]? = some v := by
            have := congrArg (fun l => l[0]?) hd
            simpa [List.getElem?_drop] using this
          have hlt : off < cs.length := by
            rcases Nat.lt_or_ge off cs.length with h | h
            · exact h
            · simp [List.getElem?_eq_none h] at hv
          refine fun _ => VRuns.pure hh (c := cur.getD off undef) ?_ (h4 _ v hv)
          rw [show Instr.loadAt t (.pointer (some ⟨b, off, none⟩)) = loadVar t ⟨b, off, none⟩ from rfl]
          simp only [loadVar, Sem.run_bind, hty.isAgg, Result.andThen_ok, hagg, if_false, Bool.false_eq_true]
          simp [load, Sem.run, hcell off hlt]
        · trivial
    · trivial
  · cases ha with | eptr _ _ ad hsp hf hc => exact loadCells_ok hT hh hc
  · rename_i h i off
    split
    · rename_i e sz fr fz els hH
      rw [withDfl_eq]
      cases ha with | rptr _ _ _ _ o ho _ hr hr2 =>
      rw [hH] at ho
      obtain rfl := Option.some.inj ho
      obtain ⟨hi, g, cap, hρ, rfl⟩ := hr _ _ _ _ _ rfl
      obtain ⟨h1, h2, h3⟩ := hh.row hH
      rw [hρ] at h3
      obtain ⟨cur, h4, h5, h6, h7, h8, h9⟩ := h3
      refine loadEl_ok hT hh fun j v hv => ?_
      rw [List.getElem?_drop] at hv
      have hx : els[i]? = some (els.getD i (dfl T e)) := by simp [List.getD_eq_getElem?_getD, List.getElem?_eq_getElem hi]
      have hj : off + j < sz := by
        rcases Nat.lt_or_ge (off + j) (els.getD i (dfl T e)).cells.length with h | h
        · rwa [h2 _ (List.mem_of_getElem? hx)] at h
        · rw [List.getElem?_eq_none h] at hv
          cases hv
      have hfl := flat_get h2 i (off + j) _ hx hj
      rw [hv] at hfl
      refine ⟨cur.getD (i * sz + (off + j)) undef, ?_, h8 _ _ hfl⟩
      have : i * sz + (off + j) < cur.size := by
        rw [h7]
        have h10 : (i + 1) * sz ≤ cap * sz := Nat.mul_le_mul_right _ (by omega)
        rw [Nat.add_mul] at h10
        omega
      rw [Addr.add_mid, Nat.add_assoc]
      simp [World.cell?, h4, Array.getD_eq_getD_getElem?, this]
    · rename_i e sz ie els hH
      cases ha with | rptr _ _ _ _ o ho _ hr hr2 =>
      rw [hH] at ho
      obtain rfl := Option.some.inj ho
      obtain ⟨hi, g, cap, hρ, rfl⟩ := hr2 _ _ _ _ rfl
      obtain ⟨h1, h2, h3, _, _⟩ := hh.obj _ _ hH
      rw [hρ] at h3
      obtain ⟨cur, h4, h5, h6, h7, h8⟩ := h3
      split
      · rename_i d ht
        have hty := tyOk hT ht
        split
        · rename_i hagg
          have key : ∀ u, (els.getD i [])[off]? = some u → tcAt els i off = some u ∧ (Instr.loadAt t (.pointer (some ⟨g, i * sz + off, none⟩))).run P w = .ok (cur.getD (i * sz + off) undef) w := by
            intro u hu
            have hx : els[i]? = some (els.getD i []) := by simp [List.getD_eq_getElem?_getD, List.getElem?_eq_getElem hi]
            refine ⟨by unfold tcAt; rw [hx]; exact hu, ?_⟩
            have hoff : off < sz := by
              rw [← h2 _ (List.mem_of_getElem? hx)]
              exact (List.getElem?_eq_some_iff.1 hu).1
            have hlt : i * sz + off < cur.size := by
              rw [h7]
              have h10 : (i + 1) * sz ≤ cap * sz := Nat.mul_le_mul_right _ (by omega)
              rw [Nat.add_mul] at h10
              omega
            rw [show Instr.loadAt t (.pointer (some ⟨g, i * sz + off, none⟩)) = loadVar t ⟨g, i * sz + off, none⟩ from rfl]
            simp only [loadVar, Sem.run_bind, hty.isAgg, Result.andThen_ok, hagg, if_false, Bool.false_eq_true]
            simp [load, Sem.run, World.cell?, h4, Array.getD_eq_getD_getElem?, hlt]
          split
          · rename_i v hu
            obtain ⟨k1, k2⟩ := key _ hu
            exact fun _ => VRuns.pure hh k2 (.p true _ _ ((h8 _ _ _ k1).mono (fun _ hf => hf.elim) (fun _ hf => hf.elim)))
          · rename_i l hu
            obtain ⟨k1, k2⟩ := key _ hu
            obtain ⟨r1, r2⟩ := Chg.split hh hn hH k1
            exact fun _ => ⟨_, w, F1, F2, _, k2, r1, r2 g cap cur _ hρ h4 rfl⟩
          · rename_i q hu
            obtain ⟨k1, k2⟩ := key _ hu
            exact fun _ => VRuns.pure hh k2 (h8 _ _ _ k1)
          · trivial
        · trivial
      · trivial
    · trivial
  · trivial
end
end Go.Proofs.Ytonbbaimkpjcfaa.Ev
/-! ## What each operation of the program comes to is what the reckoner says: places, cuts, lengths, conversions. No conditions. -/
namespace Go.Proofs.Ytonbbaimkpjcfaa.Ev
open Go
set_option linter.unusedVariables false
set_option linter.unusedSimpArgs false
section
variable {P : Program} {T : Tab} {k0 : Nat} {w : World} {F1 F2 : Nat → Prop} {ρ : Pl} {H : Hp}

theorem fieldsOk_get : ∀ {fs : List Field} {gs : List (Nat × Nat × Bool)}, fieldsOk P fs gs = true → ∀ {j o n : Nat} {g : Bool}, gs[j]? = some (o, n, g) →
    ∃ f, fs[j]? = some f ∧ f.offset = o ∧ (∀ w, (sizeOf f.type).run P w = .ok n w) ∧ (∀ w, (isAgg f.type).run P w = .ok g w) ∧ ∃ i, P.info? f.type = some i ∧ i.size = n
  | [], [], _, j, o, n, g, h => by simp at h
  | [], _ :: _, h0, _, _, _, _, _ => by simp [fieldsOk] at h0
  | _ :: _, [], h0, _, _, _, _, _ => by simp [fieldsOk] at h0
  | f :: r, (o', n', g') :: s, h0, j, o, n, g, h => by
    simp only [fieldsOk, Bool.and_eq_true] at h0
    cases j with
    | succ j => simpa using fieldsOk_get h0.2 (by simpa using h)
    | zero =>
      obtain ⟨rfl, h2⟩ := Prod.mk.inj (Option.some.inj (by simpa using h : some (o', n', g') = some (o, n, g)))
      obtain ⟨rfl, rfl⟩ := Prod.mk.inj h2
      cases hi : P.info? f.type with
      | none => simp [hi] at h0
      | some i =>
        rw [hi] at h0
        have hn : i.size = n' := Nat.eq_of_beq_eq_true h0.1.1.2
        refine ⟨f, by simp, Nat.eq_of_beq_eq_true h0.1.1.1, fun w => by simp [sizeOf, typeInfo, hi, hn], fun w => ?_, i, hi, hn⟩
        have h3 := h0.1.2
        cases hu : P.underlying f.type with
        | none => simp [hu] at h3
        | some u =>
          rw [hu] at h3
          unfold isAgg
          rw [Sem.run_bind, run_underlying hu w]
          cases u <;> simp_all
theorem evalFieldAddr_ok (hT : tabOk P T = true) (hh : HeapR k0 w F1 F2 ρ H) (s : TypeId) (f : Nat) {a : AV} {x : Value} (ha : AVR w F1 F2 ρ H a x) : StepOk P k0 w F1 F2 ρ H (Instr.fieldAt s x f) (evalFieldAddr T H s f a) := by
  unfold evalFieldAddr
  split
  · rename_i d ht
    have hty := tyOk hT ht
    split
    · rename_i fs hk
      obtain ⟨fields, hu, hf⟩ := hty.struct hk
      split
      · rename_i o n g hg
        obtain ⟨fd, h1, h2, h3, _, _⟩ := fieldsOk_get hf hg
        have h1' : fields[f]? = some fd := by rw [← Array.getElem?_toList]; exact h1
        split
        · trivial
        · rename_i hn0
          have hrun : ∀ ad : Addr, (Instr.fieldAt s (.pointer (some ad)) f).run P w = .ok (.pointer (some (ad.add o))) w := fun ad => by
            simp [Instr.fieldAt, run_underlying hu, h1', Instr.sureAddr, fieldPlace, h3, show ¬ n = 0 from hn0, h2]
          split
          · cases ha with | ptr _ _ b cp ob ho hr =>
            intro _
            exact VRuns.pure hh (hrun _) (by rw [Addr.add_mid]; exact .ptr _ _ b cp ob ho hr)
          · rename_i fr cs
            cases ha with | eptr _ _ ad hsp hF hc =>
            intro _
            refine VRuns.pure hh (hrun ad) (.eptr fr _ _ (add_spot hsp _) (by rw [add_block]; exact hF) fun i v hv => ?_)
            rw [List.getElem?_drop] at hv
            obtain ⟨c, hc1, hc2⟩ := hc _ v hv
            exact ⟨c, by rw [add_add hsp]; exact hc1, hc2⟩
          · rename_i h i off
            split
            · rename_i e sz fr fz els hH
              cases ha with | rptr _ _ _ _ ob ho _ hr hr2 =>
              rw [hH] at ho
              obtain rfl := Option.some.inj ho
              intro _
              obtain ⟨hi, g', cap, hρ, rfl⟩ := hr _ _ _ _ _ rfl
              refine VRuns.pure hh (hrun _) (.rptr _ _ _ _ _ hH ⟨_, rfl⟩ (fun e' sz' fr' fz' els' he => ?_) fun _ _ _ _ he => by cases he)
              obtain ⟨rfl, rfl, rfl, rfl, rfl⟩ := Ob.row.inj he
              exact ⟨hi, g', cap, hρ, by rw [Addr.add_mid, Nat.add_assoc]⟩
            · rename_i e sz ie els hH
              cases ha with | rptr _ _ _ _ ob ho _ hr hr2 =>
              rw [hH] at ho
              obtain rfl := Option.some.inj ho
              intro _
              obtain ⟨hi, g', cap, hρ, rfl⟩ := hr2 _ _ _ _ rfl
              refine VRuns.pure hh (hrun _) (.rptr _ _ _ _ _ hH ⟨_, rfl⟩ (fun _ _ _ _ _ he => by cases he) fun e' sz' ie' els' he => ?_)
              obtain ⟨rfl, rfl, rfl, rfl⟩ := Ob.tree.inj he
              exact ⟨hi, g', cap, hρ, by rw [Addr.add_mid, Nat.add_assoc]⟩
            · trivial
          · trivial
      · trivial
    · trivial
  · trivial

theorem get_take_drop {α : Type _} {l : List α} {o n i : Nat} {v : α} (h : ((l.drop o).take n)[i]? = some v) : i < n ∧ l[o + i]? = some v := by
  rw [List.getElem?_take] at h
  split at h
  · exact ⟨by assumption, by rwa [List.getElem?_drop] at h⟩
  · cases h
theorem evalField_ok (hT : tabOk P T = true) (hh : HeapR k0 w F1 F2 ρ H) (s : TypeId) (f : Nat) {a : AV} {x : Value} (ha : AVR w F1 F2 ρ H a x) : StepOk P k0 w F1 F2 ρ H (Instr.field s x f) (evalField T s f a) := by
  unfold evalField
  split
  · rename_i d cs ht
    have hty := tyOk hT ht
    cases ha with | agg _ vs hsz hv =>
    split
    · rename_i fs hk
      obtain ⟨fields, hu, hf⟩ := hty.struct hk
      split
      · rename_i o n g hg
        obtain ⟨fd, h1, h2, h3, h4, _⟩ := fieldsOk_get hf hg
        have h1' : fields[f]? = some fd := by rw [← Array.getElem?_toList]; exact h1
        subst h2
        split
        · intro hle
          have hle : fd.offset + n ≤ cs.length := hle
          refine VRuns.pure hh (c := .agg (vs.extract fd.offset (fd.offset + n))) ?_ (.agg _ _ (by simp; omega) fun i v hi => ?_)
          · simp [Instr.field, run_underlying hu, h1', part, h4, asAgg, h3]
          · obtain ⟨hi1, hi2⟩ := get_take_drop hi
            have : (vs.extract fd.offset (fd.offset + n)).getD i undef = vs.getD (fd.offset + i) undef := by
              simp only [Array.getD_eq_getD_getElem?, Array.getElem?_extract]
              rw [if_pos (by omega)]
            rw [this]
            exact hv _ v hi2
        · split
          · rename_i v r hd
            have hvo : cs[fd.offset]? = some v := by
              have := congrArg (fun l => l[0]?) hd
              simpa [List.getElem?_drop] using this
            have hlt : fd.offset < cs.length := by
              rcases Nat.lt_or_ge fd.offset cs.length with h | h
              · exact h
              · simp [List.getElem?_eq_none h] at hvo
            intro _
            obtain ⟨c0, hc0⟩ : ∃ c0, vs[fd.offset]? = some c0 := ⟨vs[fd.offset], by rw [Array.getElem?_eq_getElem]⟩
            have hg0 : vs.getD fd.offset undef = c0 := by simp [Array.getD_eq_getD_getElem?, hc0]
            refine VRuns.pure hh (c := c0) ?_ (by rw [← hg0]; exact hv _ v hvo)
            simp [Instr.field, run_underlying hu, h1', part, h4, asAgg, hc0]
          · trivial
      · trivial
    · trivial
  · trivial
theorem szOk_run (hT : tabOk P T = true) {e : TypeId} {sz : Nat} (h : szOk T e sz = true) (w : World) : (sizeOf e).run P w = .ok sz w := by
  unfold szOk at h
  split at h
  · rename_i de hde
    rw [← Nat.eq_of_beq_eq_true h]
    exact (tyOk hT hde).sizeOf w
  · cases h
theorem evalIndexAddr_ok (hT : tabOk P T = true) (hh : HeapR k0 w F1 F2 ρ H) (t : TypeId) {a b : AV} {x y : Value} (ha : AVR w F1 F2 ρ H a x) (hb : AVR w F1 F2 ρ H b y) : StepOk P k0 w F1 F2 ρ H (Instr.indexAt t x y) (evalIndexAddr T H t a b) := by
  unfold evalIndexAddr
  split
  · rename_i d f k i ht
    have hty := tyOk hT ht
    cases hb with | p _ _ _ hb => cases hb with | int =>
    have hrun : ∀ {e : TypeId} (hk : d.k = .slice e) (ad : Addr) (n cap sz : Nat) (hsz : (sizeOf e).run P w = .ok sz w), 0 ≤ i → i < n → (Instr.indexAt t (.slice (some ad) n cap) (.int k i)).run P w = .ok (.pointer (some (ad.add (i.toNat * sz)))) w := by
      intro e hk ad n cap sz hsz h0 h1
      simp [Instr.indexAt, asIntOf, run_underlying (hty.slice hk), h0, h1, hsz]
    split
    · rename_i e fr sz els hk
      split
      · rename_i hsz
        rw [withDfl_eq]
        intro hc
        obtain ⟨h0, h1⟩ : 0 ≤ i ∧ i < els.length := hc
        cases ha with | p _ _ _ ha =>
        cases ha with
        | slnil => simp at h1; omega
        | sl _ _ ad cap cs hsp hF hcap hce hcell hval =>
          have hi : i.toNat < els.length := by omega
          have hx : els[i.toNat]? = some (els.getD i.toNat (dfl T e)) := by simp [List.getD_eq_getElem?_getD, List.getElem?_eq_getElem hi]
          refine VRuns.pure hh (hrun hk ad _ cap sz (szOk_run hT hsz w) h0 h1) (.eptr fr _ _ (add_spot hsp _) (by rw [add_block]; exact hF) fun j v hv => ?_)
          have hj : j < sz := by
            rcases Nat.lt_or_ge j (els.getD i.toNat (dfl T e)).cells.length with h | h
            · rwa [hce _ (List.mem_of_getElem? hx)] at h
            · rw [List.getElem?_eq_none h] at hv
              cases hv
          have hfl := flat_get hce i.toNat j _ hx hj
          rw [hv] at hfl
          refine ⟨cs (i.toNat * sz + j), ?_, hval _ _ hfl⟩
          rw [add_add hsp]
          exact hcell _ (by
            rcases Nat.lt_or_ge (i.toNat * sz + j) (flat els).length with h | h
            · exact h
            · rw [List.getElem?_eq_none h] at hfl
              cases hfl)
      · trivial
    · rename_i e h hk
      split
      · rename_i e' sz fr fz els hH
        split
        · rename_i hsz
          intro hc
          obtain ⟨h0, h1⟩ : 0 ≤ i ∧ i < els.length := hc
          cases ha with | rowf _ _ o ho _ hr hr2 =>
          rw [hH] at ho
          obtain rfl := Option.some.inj ho
          have hs := hr _ _ _ _ _ rfl
          unfold SlV at hs
          cases hρ : ρ h with
          | none => rw [hρ] at hs; obtain ⟨_, h2, _⟩ := hs; omega
          | some gc =>
            obtain ⟨g, cap⟩ := gc
            rw [hρ] at hs
            obtain ⟨h2, A, rfl, hA⟩ := hs
            rw [hA (by omega)]
            refine VRuns.pure hh (hrun hk _ _ _ sz (szOk_run hT hsz w) h0 h1) (.rptr _ _ _ _ _ hH ⟨_, rfl⟩ (fun e2 sz2 fr2 fz2 els2 he => ?_) fun _ _ _ _ he => by cases he)
            obtain ⟨rfl, rfl, rfl, rfl, rfl⟩ := Ob.row.inj he
            exact ⟨by omega, g, cap, hρ, by rw [Addr.add_mid]; simp⟩
        · trivial
      · rename_i e' sz ie els hH
        split
        · rename_i hsz
          intro hc
          obtain ⟨h0, h1⟩ : 0 ≤ i ∧ i < els.length := hc
          cases ha with | rowf _ _ o ho _ hr hr2 =>
          rw [hH] at ho
          obtain rfl := Option.some.inj ho
          have hs := hr2 _ _ _ _ rfl
          unfold SlV at hs
          cases hρ : ρ h with
          | none => rw [hρ] at hs; obtain ⟨_, h2, _⟩ := hs; omega
          | some gc =>
            obtain ⟨g, cap⟩ := gc
            rw [hρ] at hs
            obtain ⟨h2, A, rfl, hA⟩ := hs
            rw [hA (by omega)]
            refine VRuns.pure hh (hrun hk _ _ _ sz (szOk_run hT hsz w) h0 h1) (.rptr _ _ _ _ _ hH ⟨_, rfl⟩ (fun _ _ _ _ _ he => by cases he) fun e2 sz2 ie2 els2 he => ?_)
            obtain ⟨rfl, rfl, rfl, rfl⟩ := Ob.tree.inj he
            exact ⟨by omega, g, cap, hρ, by rw [Addr.add_mid]; simp⟩
        · trivial
      · trivial
    · rename_i e h off n hk
      split
      · rename_i e' sz fr fz els hH
        split
        · rename_i hsz
          intro hc
          obtain ⟨h0, h1⟩ : 0 ≤ i ∧ i < n := hc
          cases ha with | row _ _ _ _ o ho _ hr =>
          rw [hH] at ho
          obtain rfl := Option.some.inj ho
          obtain ⟨hs, hle⟩ := hr _ _ _ _ _ rfl
          unfold SlV at hs
          cases hρ : ρ h with
          | none => rw [hρ] at hs; obtain ⟨_, h2, _⟩ := hs; omega
          | some gc =>
            obtain ⟨g, cap⟩ := gc
            rw [hρ] at hs
            obtain ⟨h2, A, rfl, hA⟩ := hs
            rw [hA (by omega)]
            refine VRuns.pure hh (hrun hk _ _ _ sz (szOk_run hT hsz w) h0 h1) (.rptr _ _ _ _ _ hH ⟨_, rfl⟩ (fun e2 sz2 fr2 fz2 els2 he => ?_) fun _ _ _ _ he => by cases he)
            obtain ⟨rfl, rfl, rfl, rfl, rfl⟩ := Ob.row.inj he
            exact ⟨by omega, g, cap, hρ, by rw [Addr.add_mid, Nat.add_mul]; simp⟩
        · trivial
      · trivial
    · rename_i n e h off hk
      split
      · rename_i de hde
        intro hc
        obtain ⟨h0, h1⟩ : 0 ≤ i ∧ i < n := hc
        cases ha with | ptr _ _ b cp o ho hr =>
        refine VRuns.pure hh (c := .pointer (some ⟨b, off + i.toNat * de.size, none⟩)) ?_ (.ptr _ _ b cp o ho hr)
        simp [Instr.indexAt, asIntOf, run_underlying (hty.arr hk), Instr.sureAddr, h0, h1, (tyOk hT hde).sizeOf w, Addr.add_lit]
      · trivial
    · trivial
  · trivial
theorem evalIndex_ok (hT : tabOk P T = true) (hh : HeapR k0 w F1 F2 ρ H) (t : TypeId) {a b : AV} {x y : Value} (ha : AVR w F1 F2 ρ H a x) (hb : AVR w F1 F2 ρ H b y) : StepOk P k0 w F1 F2 ρ H (Instr.index t x y) (evalIndex T t a b) := by
  unfold evalIndex
  split
  · rename_i d f k i ht
    have hty := tyOk hT ht
    cases hb with | p _ _ _ hb => cases hb with | int =>
    split
    · rename_i f2 s hk
      intro hc
      obtain ⟨h0, h1⟩ : 0 ≤ i ∧ i < s.size := hc
      cases ha with | p _ _ _ ha => cases ha with | str =>
      have hi : i.toNat < s.size := by omega
      refine VRuns.pure hh (c := .int .u8 ((s.data.toList.getD i.toNat 0).toNat)) ?_ (.p true _ _ (.int _ _))
      have h2 : s[i.toNat]? = some (s.data.toList.getD i.toNat 0) := by
        rw [getElem?_pos s i.toNat hi]
        congr 1
        show s.data[i.toNat] = _
        rw [List.getD_eq_getElem?_getD, Array.getElem?_toList, Array.getElem?_eq_getElem hi]
        rfl
      simp only [Instr.index, asIntOf, Sem.run_bind, Sem.run_pure, Result.andThen_ok, run_underlying (hty.str hk), h0, if_true, h2]
    · trivial
  · trivial

/-! ### Cuts -/
def BdR : Option Value → Int → Int → Prop
  | none, d, l => l = d
  | some v, _, l => ∃ k, v = .int k l
def OptR (w : World) (F1 F2 : Nat → Prop) (ρ : Pl) (H : Hp) : Option AV → Option Value → Prop
  | none, none => True
  | some a, some v => AVR w F1 F2 ρ H a v
  | _, _ => False
theorem boundOf_run {X : Option AV} {x : Option Value} (hx : OptR w F1 F2 ρ H X x) {d l : Int} (h : boundOf X d = some l) : BdR x d l := by
  unfold boundOf at h
  split at h
  · cases x with
    | none => exact (Option.some.inj h).symm
    | some v => exact hx.elim
  · cases x with
    | none => exact hx.elim
    | some v =>
      obtain rfl := Option.some.inj h
      cases hx with | p _ _ _ hx => cases hx with | int => exact ⟨_, rfl⟩
  · cases h
theorem run_bounds {lo hi : Option Value} {n cap : Nat} {l h : Int} (isS : Bool) (hlo : BdR lo 0 l) (hhi : BdR hi n h)
    (h0 : 0 ≤ l) (h1 : l ≤ h) (h2 : h ≤ cap) (hn : n ≤ cap) : (Instr.sliceBounds isS n cap lo hi none).run P w = .ok (l.toNat, h.toNat, cap) w := by
  have hb : ∀ (v : Value) (k : IntKind) (i : Int) (y : Nat) (c : BoundsCode), v = .int k i → 0 ≤ i → i ≤ y → (Instr.sliceBound v y c).run P w = .ok i.toNat w := by
    intro v k i y c hv h3 h4
    subst hv
    simp [Instr.sliceBound, asIntOf, h3, h4]
  cases hi with
  | none =>
    have hhi : h = n := hhi
    subst hhi
    cases lo with
    | none =>
      have hlo : l = 0 := hlo
      subst hlo
      simp [Instr.sliceBounds]
    | some v =>
      obtain ⟨k, hk⟩ := hlo
      simp [Instr.sliceBounds, hb v k l n _ hk h0 (by omega)]
  | some u =>
    obtain ⟨k', hk'⟩ := hhi
    cases lo with
    | none =>
      have hlo : l = 0 := hlo
      subst hlo
      simp [Instr.sliceBounds, hb u k' h cap _ hk' (by omega) h2]
    | some v =>
      obtain ⟨k, hk⟩ := hlo
      simp [Instr.sliceBounds, hb u k' h cap _ hk' (by omega) h2, hb v k l h.toNat _ hk h0 (by omega)]
theorem evalSlice_ok (hT : tabOk P T = true) (hh : HeapR k0 w F1 F2 ρ H) (t : TypeId) {a : AV} {x : Value} (ha : AVR w F1 F2 ρ H a x) {LO HI : Option AV} {lo hi : Option Value}
    (hlo : OptR w F1 F2 ρ H LO lo) (hhi : OptR w F1 F2 ρ H HI hi) :
    StepOk P k0 w F1 F2 ρ H (Instr.sliceAt t x lo hi none) (evalSlice T H t a LO HI) := by
  unfold evalSlice
  split
  · rename_i d ht
    have hty := tyOk hT ht
    split
    · rename_i f s hk
      split
      · rename_i l h hl hhh
        intro hc
        obtain ⟨h0, h1, h2⟩ : 0 ≤ l ∧ l ≤ h ∧ h ≤ s.size := hc
        cases ha with | p _ _ _ ha => cases ha with | str =>
        have hb := run_bounds (P := P) (w := w) false (boundOf_run hlo hl) (boundOf_run hhi hhh) h0 h1 h2 (Nat.le_refl _)
        exact VRuns.pure hh (c := .string (s.extract l.toNat h.toNat)) (by simp [Instr.sliceAt, Instr.slice, run_underlying (hty.str hk), hb]) (.p true _ _ (.str _))
      · trivial
    · rename_i e fr sz els hk
      split
      · rename_i l h hsz hl hhh
        intro hc
        obtain ⟨h0, h1, h2⟩ : 0 ≤ l ∧ l ≤ h ∧ h ≤ els.length := hc
        cases ha with | p _ _ _ ha =>
        cases ha with
        | slnil _ A cap =>
          simp at h2
          have hb := run_bounds (P := P) (w := w) (n := 0) (cap := cap) true (boundOf_run hlo hl) (boundOf_run hhi hhh) h0 h1 (by omega) (Nat.zero_le _)
          have hl0 : l.toNat = 0 := by omega
          have hh0 : h.toNat = 0 := by omega
          refine VRuns.pure hh (c := .slice (if cap = l.toNat then A else A.map (·.add (l.toNat * sz))) (h.toNat - l.toNat) (cap - l.toNat)) (by simp [Instr.sliceAt, Instr.slice, run_underlying (hty.slice hk), hb, szOk_run hT hsz]) ?_
          rw [hl0, hh0]
          exact .p fr _ _ (by simpa using PVR.slnil _ _ _)
        | sl _ _ ad cap cs hsp hF hcap hce hcell hval =>
          have hb := run_bounds (P := P) (w := w) (n := els.length) (cap := cap) true (boundOf_run hlo hl) (boundOf_run hhi hhh) h0 h1 (by omega) hcap
          refine VRuns.pure hh (c := .slice (if cap = l.toNat then some ad else some (ad.add (l.toNat * sz))) (h.toNat - l.toNat) (cap - l.toNat)) ?_ (.p fr _ _ ?_)
          · simp only [Instr.sliceAt, Instr.slice, Sem.run_bind, run_underlying (hty.slice hk), Result.andThen_ok, hb, szOk_run hT hsz, Sem.run_pure, Option.map_some]
          · have hln : ((els.take h.toNat).drop l.toNat).length = h.toNat - l.toNat := by simp; omega
            rcases Nat.eq_zero_or_pos (h.toNat - l.toNat) with hz | hz
            · rw [List.eq_nil_of_length_eq_zero (hln.trans hz), hz]
              exact .slnil _ _ _
            · rw [if_neg (by omega)]
              have hce' : ∀ x ∈ (els.take h.toNat).drop l.toNat, x.cells.length = sz := fun x hx => hce x (List.mem_of_mem_take (List.mem_of_mem_drop hx))
              have hfl : flat ((els.take h.toNat).drop l.toNat) = ((flat els).take (h.toNat * sz)).drop (l.toNat * sz) := by
                rw [flat_drop (fun x hx => hce x (List.mem_of_mem_take hx)), flat_take hce]
              have hget : ∀ i v, (flat ((els.take h.toNat).drop l.toNat))[i]? = some v → (flat els)[l.toNat * sz + i]? = some v := by
                intro i v hv
                rw [hfl, List.getElem?_drop, List.getElem?_take] at hv
                split at hv
                · exact hv
                · cases hv
              have hp := PVR.sl (w := w) (F := flagF fr F1 F2) sz ((els.take h.toNat).drop l.toNat) (ad.add (l.toNat * sz)) (cap - l.toNat) (fun i => cs (l.toNat * sz + i)) (add_spot hsp _) (by rw [add_block]; exact hF) (by omega) hce'
                (fun i hi => by
                  rw [add_add hsp]
                  refine hcell _ ?_
                  rw [flat_length hce', hln] at hi
                  rw [flat_length hce]
                  have h3 : h.toNat * sz ≤ els.length * sz := Nat.mul_le_mul_right _ (by omega)
                  have h4 : (h.toNat - l.toNat) * sz + l.toNat * sz = h.toNat * sz := by rw [← Nat.add_mul]; congr 1; omega
                  omega)
                (fun i v hv => hval _ v (hget i v hv))
              rwa [hln] at hp
      · trivial
    · rename_i e fr hk
      split
      · rename_i de l h hde hl hhh
        intro hc
        obtain ⟨h0, h1, h2⟩ : 0 ≤ l ∧ l ≤ h ∧ h ≤ 0 := hc
        cases ha with | p _ _ _ ha => cases ha with | nilsl A =>
        have hb := run_bounds (P := P) (w := w) (n := 0) (cap := 0) true (boundOf_run hlo hl) (boundOf_run hhi hhh) h0 h1 (by omega) (Nat.le_refl _)
        have hl0 : l.toNat = 0 := by omega
        have hh0 : h.toNat = 0 := by omega
        have hs := (tyOk hT hde).sizeOf
        refine VRuns.pure hh (c := .slice (if 0 = l.toNat then A else A.map (·.add (l.toNat * de.size))) (h.toNat - l.toNat) (0 - l.toNat)) (by simp [Instr.sliceAt, Instr.slice, run_underlying (hty.slice hk), hb, hs]) ?_
        rw [hl0, hh0]
        exact .p fr _ _ (.nilsl _)
      · trivial
    · rename_i e r hk
      split
      · rename_i e' sz fr fz els hH
        split
        · rename_i l h hsz hl hhh
          intro hc
          obtain ⟨h0, h1, h2⟩ : 0 ≤ l ∧ l ≤ h ∧ h ≤ els.length := hc
          cases ha with | rowf _ _ o ho _ hr hr2 =>
          rw [hH] at ho
          obtain rfl := Option.some.inj ho
          have hs := hr _ _ _ _ _ rfl
          unfold SlV at hs
          cases hρ : ρ r with
          | none =>
            rw [hρ] at hs
            obtain ⟨_, h3, A, rfl⟩ := hs
            rw [h3] at h2 hhh
            have hb := run_bounds (P := P) (w := w) (n := 0) (cap := 0) true (boundOf_run hlo hl) (boundOf_run hhi hhh) h0 h1 (by omega) (Nat.le_refl _)
            have hl0 : l.toNat = 0 := by omega
            have hh0 : h.toNat = 0 := by omega
            refine VRuns.pure hh (c := .slice (if 0 = l.toNat then A else A.map (·.add (l.toNat * sz))) (h.toNat - l.toNat) (0 - l.toNat)) (by simp [Instr.sliceAt, Instr.slice, run_underlying (hty.slice hk), hb, szOk_run hT hsz]) ?_
            refine .row _ _ _ _ _ hH ⟨_, _, _, rfl⟩ fun e2 sz2 fr2 fz2 els2 he => ?_
            obtain ⟨rfl, rfl, rfl, rfl, rfl⟩ := Ob.row.inj he
            rw [hρ, hl0, hh0]
            exact ⟨⟨rfl, rfl, _, rfl⟩, by omega⟩
          | some gc =>
            obtain ⟨g, cap⟩ := gc
            rw [hρ] at hs
            obtain ⟨h3, A, rfl, hA⟩ := hs
            have hb := run_bounds (P := P) (w := w) (n := els.length) (cap := cap - 0) true (boundOf_run hlo hl) (boundOf_run hhi hhh) h0 h1 (by omega) (by omega)
            refine VRuns.pure hh (c := .slice (if cap - 0 = l.toNat then A else A.map (·.add (l.toNat * sz))) (h.toNat - l.toNat) (cap - 0 - l.toNat)) (by simp only [Nat.sub_zero] at hb; simp [Instr.sliceAt, Instr.slice, run_underlying (hty.slice hk), hb, szOk_run hT hsz]) ?_
            refine .row _ _ _ _ _ hH ⟨_, _, _, rfl⟩ fun e2 sz2 fr2 fz2 els2 he => ?_
            obtain ⟨rfl, rfl, rfl, rfl, rfl⟩ := Ob.row.inj he
            rw [hρ]
            refine ⟨⟨by omega, _, by rw [Nat.sub_zero], fun hlt => ?_⟩, by omega⟩
            rw [if_neg (by omega), hA (by omega), Option.map_some, Addr.add_mid]
            simp
        · trivial
      · trivial
    · rename_i e r off n hk
      split
      · rename_i e' sz fr fz els hH
        split
        · rename_i l h hsz hl hhh
          intro hc
          obtain ⟨h0, h1, h2⟩ : 0 ≤ l ∧ l ≤ h ∧ off + h.toNat ≤ els.length := hc
          cases ha with | row _ _ _ _ o ho _ hr =>
          rw [hH] at ho
          obtain rfl := Option.some.inj ho
          obtain ⟨hs, hle⟩ := hr _ _ _ _ _ rfl
          obtain ⟨q1, q2, q3⟩ := hh.row hH
          unfold SlV at hs
          cases hρ : ρ r with
          | none =>
            rw [hρ] at hs q3
            simp only at q3
            subst q3
            obtain ⟨rfl, rfl, A, rfl⟩ := hs
            simp at h2
            have hb := run_bounds (P := P) (w := w) (n := 0) (cap := 0) true (boundOf_run hlo hl) (boundOf_run hhi hhh) h0 h1 (by omega) (Nat.le_refl _)
            have hl0 : l.toNat = 0 := by omega
            have hh0 : h.toNat = 0 := by omega
            refine VRuns.pure hh (c := .slice (if 0 = l.toNat then A else A.map (·.add (l.toNat * sz))) (h.toNat - l.toNat) (0 - l.toNat)) (by simp [Instr.sliceAt, Instr.slice, run_underlying (hty.slice hk), hb, szOk_run hT hsz]) ?_
            refine .row _ _ _ _ _ hH ⟨_, _, _, rfl⟩ fun e2 sz2 fr2 fz2 els2 he => ?_
            obtain ⟨rfl, rfl, rfl, rfl, rfl⟩ := Ob.row.inj he
            rw [hρ, hl0, hh0]
            exact ⟨⟨rfl, rfl, _, rfl⟩, by omega⟩
          | some gc =>
            obtain ⟨g, cap⟩ := gc
            rw [hρ] at hs q3
            obtain ⟨cur, _, q4, _⟩ := q3
            obtain ⟨h3, A, rfl, hA⟩ := hs
            have hb := run_bounds (P := P) (w := w) (n := n) (cap := cap - off) true (boundOf_run hlo hl) (boundOf_run hhi hhh) h0 h1 (by omega) (by omega)
            refine VRuns.pure hh (c := .slice (if cap - off = l.toNat then A else A.map (·.add (l.toNat * sz))) (h.toNat - l.toNat) (cap - off - l.toNat)) (by simp [Instr.sliceAt, Instr.slice, run_underlying (hty.slice hk), hb, szOk_run hT hsz]) ?_
            refine .row _ _ _ _ _ hH ⟨_, _, _, rfl⟩ fun e2 sz2 fr2 fz2 els2 he => ?_
            obtain ⟨rfl, rfl, rfl, rfl, rfl⟩ := Ob.row.inj he
            rw [hρ]
            refine ⟨⟨by omega, _, by rw [Nat.sub_sub], fun hlt => ?_⟩, by omega⟩
            rw [if_neg (by omega), hA (by omega), Option.map_some, Addr.add_mid, Nat.add_mul]
        · trivial
      · trivial
    · trivial
  · trivial
end
end Go.Proofs.Ytonbbaimkpjcfaa.Ev
