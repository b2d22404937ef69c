/- Arguments that read as data, opened to plain values: numbers, texts, slices and structs of such, to any depth. No conditions. -/
import Derived.ChangeArms
import Derived.OpenShut
import Derived.SizedLaws
import Derived.Deep.Slices
import Derived.WideShapes
import Derived.Test.YtonbbaimkpjcfaaEvDoes
import Derived.Test.YtonbbaimkpjcfaaRows
namespace Go.Proofs.Ytonbbaimkpjcfaa.Ev
open Go Go.ChangeShapes Go.WideShapes
set_option linter.unusedVariables false
theorem list_of {α : Type} {R : Nat → α → Prop} : ∀ n : Nat, (∀ i, i < n → ∃ y, R i y) → ∃ xs : List α, xs.length = n ∧ ∀ i y, xs[i]? = some y → R i y
  | 0, _ => ⟨[], rfl, fun i y h => by simp at h⟩
  | n + 1, h => by
    obtain ⟨xs, hl, hx⟩ := list_of n (fun i hi => h i (by omega))
    obtain ⟨y, hy⟩ := h n (by omega)
    refine ⟨xs ++ [y], by simp [hl], fun i z hz => ?_⟩
    by_cases hi : i < n
    · rw [List.getElem?_append_left (by omega)] at hz
      exact hx i z hz
    · have hlt := (List.getElem?_eq_some_iff.1 hz).1
      rw [List.length_append, hl, List.length_singleton] at hlt
      obtain rfl : i = n := by omega
      rw [List.getElem?_append_right (by omega), hl, Nat.sub_self] at hz
      simp only [List.getElem?_cons_zero, Option.some.injEq] at hz
      subst hz
      exact hy
theorem bulk_one {H : Type} (d : DataW H) : 1 ≤ Rows.uptoBulk d := by
  cases d with
  | lit l => cases l <;> simp [Rows.uptoBulk]
  | nil => simp [Rows.uptoBulk]
  | ptr d => simp [Rows.uptoBulk]
  | slice elems spare => simp [Rows.uptoBulk]
  | agg parts => simp [Rows.uptoBulk]
  | iface t d => simp [Rows.uptoBulk]
  | map entries => simp [Rows.uptoBulk]
  | held h => simp [Rows.uptoBulk]
theorem bulk_sum {H α : Type} {ms : α → Nat} : ∀ {xs : List α} {ds : List (DataW H)}, xs.length = ds.length → (∀ (i : Nat) y d, xs[i]? = some y → ds[i]? = some d → ms y ≤ Rows.uptoBulk d) → (xs.map ms).sum ≤ Rows.uptoBulkAll ds
  | [], [], _, _ => by simp [Rows.uptoBulkAll]
  | [], _ :: _, h, _ => by simp at h
  | _ :: _, [], h, _ => by simp at h
  | x :: xs, d :: ds, h, hm => by
    have h1 := hm 0 x d rfl rfl
    have h2 := bulk_sum (xs := xs) (ds := ds) (by simpa using h) (fun i y e hy he => hm (i + 1) y e (by simpa using hy) (by simpa using he))
    simp only [List.map_cons, List.sum_cons, Rows.uptoBulkAll]
    omega
theorem weights_mem_all {H : Type} {P : Program} {e : TypeId} : ∀ {ds : List (DataW H)} {j : Nat} {d : DataW H}, ds[j]? = some d → ∀ n ∈ d.weights P e, n ∈ DataW.weightsAll P e ds
  | [], _, _, h, _, _ => by simp at h
  | d :: ds, 0, _, h, n, hn => by
    simp only [List.getElem?_cons_zero, Option.some.injEq] at h
    subst h
    simp only [DataW.weightsAll, List.mem_append]
    exact .inl hn
  | d :: ds, j + 1, _, h, n, hn => by
    simp only [DataW.weightsAll, List.mem_append]
    exact .inr (weights_mem_all (by simpa using h) n hn)
def Light {H : Type} (P : Program) (t : TypeId) (d : DataW H) : Prop := ∀ n ∈ d.weights P t, n ≤ 140737488351232
def LtB (w : World) (b : Nat) : Prop := b < w.heap.size
def Cells (w : World) (vs : List PV) (cs : List Value) : Prop := vs.length = cs.length ∧ ∀ (i : Nat) (v : PV), vs[i]? = some v → ∃ c, cs[i]? = some c ∧ PVR w (LtB w) v c
theorem cellsOne {w : World} {v : PV} {c : Value} (h : PVR w (LtB w) v c) : Cells w [v] [c] := ⟨rfl, fun i u hu => by
  cases i with
  | zero => obtain rfl : v = u := by simpa using hu
            exact ⟨c, rfl, h⟩
  | succ i => simp at hu⟩
theorem cellsApp {w : World} {us bs : List PV} {cs ds : List Value} (h : Cells w us cs) (k : Cells w bs ds) : Cells w (us ++ bs) (cs ++ ds) := by
  refine ⟨by simp [h.1, k.1], fun i v hv => ?_⟩
  by_cases hi : i < us.length
  · rw [List.getElem?_append_left hi] at hv
    obtain ⟨c, h1, h2⟩ := h.2 i v hv
    exact ⟨c, by rw [List.getElem?_append_left (by rw [← h.1]; exact hi)]; exact h1, h2⟩
  · rw [List.getElem?_append_right (by omega)] at hv
    obtain ⟨c, h1, h2⟩ := k.2 _ v hv
    exact ⟨c, by rw [List.getElem?_append_right (by rw [← h.1]; omega), ← h.1]; exact h1, h2⟩
/-- An element from its cells. -/
def elOf : List PV → PV
  | [v] => v
  | l => .agg l
theorem elOf_cells {w : World} {vs : List PV} {cs : List Value} (h : Cells w vs cs) : (elOf vs).cells = vs := by
  match vs, h with
  | [], _ => rfl
  | [v], h =>
    obtain ⟨c, _, h2⟩ := h.2 0 v rfl
    exact h2.cells1
  | _ :: _ :: _, _ => rfl
/-- What reads at type t is this value, and is right. -/
structure Opens {α : Type} (P : Program) (t : TypeId) (sz : Nat) (pv : α → List PV) (ok : α → Prop) (ms : α → Nat) : Prop where
  size : P.cellsOf t = sz
  run : ∀ {H : Type} {enc : TypeId × Value → H} {w : World} {base : Nat} {spare : Nat → Bool} {held : Bool} {fuel : Nat} {cs : List Value} {x : DataW H × List MemPlace},
    DataW.trod enc P w base spare held fuel t cs = some x → Light P t x.1 → ∃ y : α, cs.length = sz ∧ Cells w (pv y) cs ∧ ok y ∧ ms y ≤ Rows.uptoBulk x.1
theorem opens_int {P : Program} {t : TypeId} {k : IntKind} (ht : P.underlying t = some (.int k)) (hc : P.cellsOf t = 1) : Opens P t 1 (fun y => [.int k y]) (fun y => (Lit.int k y).wf = true) (fun _ => 1) :=
  ⟨hc, fun h _ => by
    obtain ⟨n, rfl, _, hw⟩ := DataW.trod_int ht h
    exact ⟨n, rfl, cellsOne (.int k n), hw, bulk_one _⟩⟩
theorem opens_bool {P : Program} {t : TypeId} (ht : P.underlying t = some .bool) (hc : P.cellsOf t = 1) : Opens P t 1 (fun y => [.bool y]) (fun _ => True) (fun _ => 1) :=
  ⟨hc, fun h _ => by
    obtain ⟨b, rfl, _⟩ := DataW.trod_bool ht h
    exact ⟨b, rfl, cellsOne (.bool b), trivial, bulk_one _⟩⟩
theorem opens_string {P : Program} {t : TypeId} (ht : P.underlying t = some .string) (hc : P.cellsOf t = 1) : Opens P t 1 (fun s => [.str s]) (fun s => s.size ≤ 140737488351232) (fun s => s.size + 1) :=
  ⟨hc, fun h hl => by
    obtain ⟨s, rfl, rfl, _⟩ := DataW.trod_string ht h
    refine ⟨s, rfl, cellsOne (.str s), ?_, by simp only [Rows.uptoBulk, Array.length_toList]; exact Nat.le_refl _⟩
    have := hl s.data.toList.length (by simp [DataW.weights])
    rwa [Array.length_toList] at this⟩
theorem flat_els {α : Type} {pv : α → List PV} {sz : Nat} : ∀ {xs : List α}, (∀ x ∈ xs, (elOf (pv x)).cells = pv x ∧ (pv x).length = sz) → flat (xs.map fun x => elOf (pv x)) = xs.flatMap pv
  | [], _ => rfl
  | x :: r, h => by
    rw [List.map_cons, flat_cons, List.flatMap_cons, (h x (by simp)).1, flat_els fun y hy => h y (by simp [hy])]
theorem flatMap_get {α : Type} {pv : α → List PV} {sz : Nat} : ∀ {xs : List α}, (∀ x ∈ xs, (pv x).length = sz) → ∀ (i : Nat) (v : PV), (xs.flatMap pv)[i]? = some v → ∃ x, xs[i / sz]? = some x ∧ (pv x)[i % sz]? = some v
  | [], _, i, v, h => by simp at h
  | x :: r, hx, i, v, h => by
    have hl := hx x (by simp)
    rw [List.flatMap_cons] at h
    by_cases hi : i < sz
    · rw [List.getElem?_append_left (by omega)] at h
      exact ⟨x, by rw [Nat.div_eq_of_lt hi]; rfl, by rw [Nat.mod_eq_of_lt hi]; exact h⟩
    · rw [List.getElem?_append_right (by omega), hl] at h
      obtain ⟨y, h1, h2⟩ := flatMap_get (fun y hy => hx y (by simp [hy])) (i - sz) v h
      have hpos : 0 < sz := by
        rcases Nat.eq_zero_or_pos sz with h0 | h0
        · exfalso
          subst h0
          have := List.length_eq_zero_iff.1 (hx y (List.mem_cons_of_mem _ (List.mem_of_getElem? h1)))
          rw [this] at h2
          simp at h2
        · exact h0
      refine ⟨y, ?_, ?_⟩
      · rw [show i / sz = (i - sz) / sz + 1 by
          rw [← Nat.add_div_right _ hpos, Nat.sub_add_cancel (by omega)]]
        simpa using h1
      · rw [show i % sz = (i - sz) % sz by
          rw [← Nat.add_mod_right (i - sz) sz, Nat.sub_add_cancel (by omega)]]
        exact h2
theorem opens_slice {α : Type} {P : Program} {t e : TypeId} {sz : Nat} {pv : α → List PV} {ok : α → Prop} {ms : α → Nat} (ht : P.underlying t = some (.slice e)) (hc : P.cellsOf t = 1) (h : Opens P e sz pv ok ms) {B : Nat} (hB : P.bytesOf e = B) (hpos : 0 < sz) :
    Opens P t 1 (fun xs : List α => [.sl sz (xs.map fun x => elOf (pv x))]) (fun xs => xs.length * B ≤ 140737488351232 ∧ xs.length ≤ 9223372036854775807 ∧ ∀ x ∈ xs, ok x) (fun xs => (xs.map ms).sum + 1) := by
  refine ⟨hc, fun {H enc w base spare held fuel cs x} hr hl => ?_⟩
  rcases DataW.trod_slice ht hr with ⟨rfl, _⟩ | ⟨a, len, cap, elems, rest, n, _, rfl, rfl, _, hlc, hcm, hlen, hel, _⟩
  · exact ⟨[], rfl, cellsOne (.slnil sz none 0), ⟨by simp, by simp, fun x hx => by simp at hx⟩, bulk_one _⟩
  · have hw : ∀ i, i < len → ∃ y, (∃ cs', w.cells? base (a.add (i * P.cellsOf e)) (P.cellsOf e) = some cs' ∧ cs'.length = sz ∧ Cells w (pv y) cs') ∧ ok y ∧ ∀ dd, (elems.map (·.1))[i]? = some dd → ms y ≤ Rows.uptoBulk dd := by
      intro i hi
      have h1 := hel i hi
      rw [List.getElem?_eq_getElem (by omega)] at h1
      obtain ⟨cs', h2, h3⟩ := Option.bind_eq_some_iff.1 h1
      obtain ⟨y, hsz, hy, hok, hms⟩ := h.run h3 (fun m hm => hl m (by
        simp only [DataW.weights, ht, List.mem_cons, List.mem_append]
        exact .inr (.inl (weights_mem_all (j := i) (by rw [List.getElem?_map, List.getElem?_eq_getElem (by omega)]; rfl) m hm))))
      exact ⟨y, ⟨cs', h2, hsz, hy⟩, hok, fun dd hd => by
        rw [List.getElem?_map, List.getElem?_eq_getElem (by omega)] at hd
        obtain rfl := Option.some.inj hd
        exact hms⟩
    obtain ⟨xs, hxl, hx⟩ := list_of len hw
    have hsize : len * B ≤ 140737488351232 := by
      have h1 := hl ((elems.map (·.1)).length * P.bytesOf e + (rest.map (·.1)).length * P.bytesOf e) (by
        simp only [DataW.weights, ht, List.mem_cons]
        exact .inl (Nat.add_mul _ _ _).symm)
      rw [hB, List.length_map, hlen] at h1
      omega
    subst hxl
    have hm : xs.length ≤ 9223372036854775807 := Nat.le_trans hlc hcm
    have hpv : ∀ x ∈ xs, (elOf (pv x)).cells = pv x ∧ (pv x).length = sz := by
      intro x hx'
      obtain ⟨j, hj, rfl⟩ := List.getElem_of_mem hx'
      obtain ⟨⟨cs', h2, h3, h4⟩, _⟩ := hx j _ (List.getElem?_eq_getElem hj)
      exact ⟨elOf_cells h4, h4.1.trans h3⟩
    have hpvr : PVR w (LtB w) (.sl sz (xs.map fun x => elOf (pv x))) (.slice (some a) xs.length cap) := by
      by_cases hx0 : xs = []
      · subst hx0
        exact .slnil sz _ _
      · have hpos' : 0 < xs.length := List.length_pos_iff.2 hx0
        have hcell : ∀ i, i < xs.length * sz → ∃ c, w.cell? (a.add i) = some c ∧ ∀ v, (xs.flatMap pv)[i]? = some v → PVR w (LtB w) v c := by
          intro i hi
          have hj : i / sz < xs.length := Nat.div_lt_of_lt_mul (by rw [Nat.mul_comm]; exact hi)
          obtain ⟨⟨cs', h2, h3, h4⟩, _⟩ := hx (i / sz) _ (List.getElem?_eq_getElem hj)
          obtain ⟨_, h5, h6⟩ := World.cells?_some h2
          have hmod := Nat.mod_lt i hpos
          have h7 := h6 (i % sz) (by rw [h.size]; exact hmod)
          rw [h.size, Addr.add_add, show i / sz * sz + i % sz = i by rw [Nat.mul_comm]; exact Nat.div_add_mod i sz, List.getElem?_eq_getElem (by omega)] at h7
          refine ⟨_, h7, fun v hv => ?_⟩
          obtain ⟨x, h8, h9⟩ := flatMap_get (fun x hx' => (hpv x hx').2) i v hv
          rw [List.getElem?_eq_getElem hj] at h8
          obtain rfl := Option.some.inj h8
          obtain ⟨c, h10, h11⟩ := h4.2 _ v h9
          rw [List.getElem?_eq_getElem (by omega)] at h10
          obtain rfl := Option.some.inj h10
          exact h11
        have h0 := hcell 0 (Nat.mul_pos hpos' hpos)
        obtain ⟨c0, h0, _⟩ := h0
        have ha0 : a.spot = none ∧ a.block < w.heap.size := by
          rw [show a.add 0 = a from rfl] at h0
          unfold World.cell? at h0
          split at h0
          · rename_i heq
            split at h0
            · cases h0
            · rename_i hsp
              exact ⟨by simpa using hsp, (Array.getElem?_eq_some_iff.1 heq).1⟩
          · cases h0
        rw [show xs.length = (xs.map fun x => elOf (pv x)).length by simp]
        have hfl := flat_els hpv
        have hlen2 : (xs.flatMap pv).length = xs.length * sz := by
          rw [← hfl, flat_length (sz := sz) fun e he => ?_]
          · simp
          · obtain ⟨x, h1, rfl⟩ := List.mem_map.1 he
            rw [(hpv x h1).1, (hpv x h1).2]
        refine .sl sz _ a cap (fun i => (w.cell? (a.add i)).getD undef) ha0.1 ha0.2 (by simpa using hlc) (fun e he => ?_) (fun i hi => ?_) (fun i v hv => ?_)
        · obtain ⟨x, h1, rfl⟩ := List.mem_map.1 he
          rw [(hpv x h1).1, (hpv x h1).2]
        · rw [hfl, hlen2] at hi
          obtain ⟨c, h1, _⟩ := hcell i hi
          rw [h1]
          rfl
        · rw [hfl] at hv
          have hi := (List.getElem?_eq_some_iff.1 hv).1
          rw [hlen2] at hi
          obtain ⟨c, h1, h2⟩ := hcell i hi
          rw [h1]
          exact h2 v hv
    refine ⟨xs, rfl, cellsOne hpvr, ⟨hsize, hm, fun x hx' => ?_⟩, ?_⟩
    · obtain ⟨j, hj, rfl⟩ := List.getElem_of_mem hx'
      exact (hx j _ (List.getElem?_eq_getElem hj)).2.1
    · have hb := bulk_sum (ms := ms) (xs := xs) (ds := elems.map (·.1)) (by rw [List.length_map, hlen]) (fun i y dd hy hd => (hx i y hy).2.2 dd hd)
      simp only [Rows.uptoBulk]
      omega
/-- The same, told another way. -/
theorem opens_iso {α β : Type} {P : Program} {t : TypeId} {sz : Nat} {pv : α → List PV} {ok : α → Prop} {ms : α → Nat} (h : Opens P t sz pv ok ms) (f : β → α) (g : α → β) (hg : ∀ y, f (g y) = y) : Opens P t sz (fun y => pv (f y)) (fun y => ok (f y)) (fun y => ms (f y)) :=
  ⟨h.size, fun hr hl => by
    obtain ⟨y, h1, hy, hk, hm⟩ := h.run hr hl
    exact ⟨g y, h1, by rw [hg]; exact hy, by rw [hg]; exact hk, by rw [hg]; exact hm⟩⟩
/-- Right in more, or said otherwise. -/
theorem opens_mono {α : Type} {P : Program} {t : TypeId} {sz : Nat} {pv pv' : α → List PV} {ok ok' : α → Prop} {ms ms' : α → Nat} (h : Opens P t sz pv ok ms) (hp : ∀ y, pv' y = pv y) (hk : ∀ y, ok y → ok' y) (hm : ∀ y, ms' y ≤ ms y) : Opens P t sz pv' ok' ms' :=
  ⟨h.size, fun hr hl => by
    obtain ⟨y, h1, hy, ho, hms⟩ := h.run hr hl
    exact ⟨y, h1, by rw [hp]; exact hy, hk y ho, Nat.le_trans (hm y) hms⟩⟩
/-- Fields that lie one behind the other, from a place on. -/
structure OpensF {α : Type} (P : Program) (fs : List Field) (off sz : Nat) (pv : α → List PV) (ok : α → Prop) (ms : α → Nat) : Prop where
  run : ∀ {H : Type} {enc : TypeId × Value → H} {w : World} {base : Nat} {spare : Nat → Bool} {held : Bool} {n : Nat} {cs : List Value} {xs : List (DataW H × List MemPlace)},
    off + sz ≤ cs.length → (∀ (i : Nat) (f : Field), fs[i]? = some f → DataW.trod enc P w base spare held n f.type ((cs.drop f.offset).take (P.cellsOf f.type)) = xs[i]?) → xs.length = fs.length →
    (∀ m ∈ DataW.weightsEach P (fs.map (·.type)) (xs.map (·.1)), m ≤ 140737488351232) → ∃ y : α, Cells w (pv y) ((cs.drop off).take sz) ∧ ok y ∧ ms y ≤ Rows.uptoBulkAll (xs.map (·.1))
theorem opensF_one {α : Type} {P : Program} {f : Field} {off sz : Nat} {pv : α → List PV} {ok : α → Prop} {ms : α → Nat} (ho : f.offset = off) (h : Opens P f.type sz pv ok ms) : OpensF P [f] off sz pv ok ms := by
  constructor
  intro H enc w base spare held n cs xs hl hr hx hw
  match xs, hx with
  | [x], _ =>
    have h1 := hr 0 f rfl
    rw [ho, h.size] at h1
    obtain ⟨y, _, hy, hok, hms⟩ := h.run h1 (fun m hm => hw m (by simp only [List.map_cons, List.map_nil, DataW.weightsEach, List.mem_append]; exact .inl hm))
    exact ⟨y, hy, hok, by simp only [List.map_cons, List.map_nil, Rows.uptoBulkAll]; omega⟩
theorem opensF_cons {α β : Type} {P : Program} {f : Field} {fs : List Field} {off sa sb : Nat} {a : α → List PV} {b : β → List PV} {oka : α → Prop} {okb : β → Prop} {msa : α → Nat} {msb : β → Nat} (ho : f.offset = off) (h : Opens P f.type sa a oka msa) (hs : OpensF P fs (off + sa) sb b okb msb) :
    OpensF P (f :: fs) off (sa + sb) (fun y : α × β => a y.1 ++ b y.2) (fun y => oka y.1 ∧ okb y.2) (fun y => msa y.1 + msb y.2) := by
  constructor
  intro H enc w base spare held n cs xs hl hr hx hw
  match xs, hx with
  | x :: xs, hx =>
    have h1 := hr 0 f rfl
    rw [ho, h.size] at h1
    obtain ⟨y, _, hy, hok, hm1⟩ := h.run h1 (fun m hm => hw m (by simp only [List.map_cons, DataW.weightsEach, List.mem_append]; exact .inl hm))
    obtain ⟨z, hz, hoz, hm2⟩ := hs.run (by omega) (fun i g hg => hr (i + 1) g (by simpa using hg)) (by simpa using hx) (fun m hm => hw m (by simp only [List.map_cons, DataW.weightsEach, List.mem_append]; exact .inr hm))
    refine ⟨(y, z), ?_, ⟨hok, hoz⟩, by simp only [List.map_cons, Rows.uptoBulkAll]; omega⟩
    have : (cs.drop off).take (sa + sb) = (cs.drop off).take sa ++ (cs.drop (off + sa)).take sb := by rw [List.take_add, List.drop_drop]
    rw [this]
    exact cellsApp hy hz
theorem opens_struct {α : Type} {P : Program} {t : TypeId} {fs : List Field} {sz : Nat} {pv : α → List PV} {ok : α → Prop} {ms : α → Nat} (ht : P.underlying t = some (.struct fs.toArray)) (hc : P.cellsOf t = sz) (h : OpensF P fs 0 sz pv ok ms) : Opens P t sz pv ok (fun y => ms y + 1) :=
  ⟨hc, fun {H enc w base spare held fuel cs x} hr hl => by
    obtain ⟨xs, n, _, rfl, hlen, hxl, hf⟩ := DataW.trod_struct ht hr
    obtain ⟨y, hy, hok, hms⟩ := h.run (n := n) (cs := cs) (xs := xs) (by omega) (fun i f hi => hf i f (by simpa using hi)) (by simpa using hxl) (fun m hm => hl m (by simp only [DataW.weights, ht]; exact hm))
    refine ⟨y, by omega, ?_, hok, by simp only [Rows.uptoBulk]; omega⟩
    rw [List.drop_zero, List.take_of_length_le (by omega)] at hy
    exact hy⟩
/-- An argument that reads. -/
theorem Opens.arg {α : Type} {P : Program} {t : TypeId} {sz : Nat} {pv : α → List PV} {ok : α → Prop} {ms : α → Nat} (h : Opens P t sz pv ok ms) {H : Type} {enc : TypeId × Value → H} {w : World} {base : Nat} {spare : Nat → Bool} {held : Bool} {v : Value} {x : DataW H} {ps : List MemPlace} {ts : List TypeId} {ds : List (DataW H)} {j : Nat}
    (hsz : (DataW.weightsEach P ts ds).all (· ≤ reachBytes) = true) (ht : ts[j]? = some t) (hd : ds[j]? = some x) (hr : DataW.Trod enc P w base spare held t v x ps) : ∃ y : α, Cells w (pv y) v.cells.toList ∧ ok y ∧ ms y ≤ Rows.uptoBulk x := by
  obtain ⟨fuel, hf⟩ := hr
  obtain ⟨y, _, h1⟩ := h.run hf (fun m hm => by exact of_decide_eq_true (List.all_eq_true.1 hsz m (DataW.weights_mem_each ht hd m hm)))
  exact ⟨y, h1⟩
theorem okWide_array {P : Program} {w : World} {r : Reach} {base : Nat} {t e : TypeId} {n : Nat} {v : Value} (ht : P.underlying t = some (.array n e)) (h : Value.okWide P w r base t v) : ∃ cs, v = .agg cs ∧ cs.size = P.cellsOf t := by
  simp only [Value.okWide, ht] at h
  obtain ⟨cs, h1, h2, _⟩ := h
  exact ⟨cs, h1, h2⟩
/-- Two cells of one kind, as an array's. -/
theorem opens_array2 {α : Type} {P : Program} {t e : TypeId} {sz : Nat} {pv : α → List PV} {ok : α → Prop} {ms : α → Nat} (ht : P.underlying t = some (.array 2 e)) (hc : P.cellsOf t = sz + sz) (h : Opens P e sz pv ok ms) : Opens P t (sz + sz) (fun y : α × α => pv y.1 ++ pv y.2) (fun y => ok y.1 ∧ ok y.2) (fun y => ms y.1 + ms y.2 + 1) :=
  ⟨hc, fun {H enc w base spare held fuel cs x} hr hl => by
    obtain ⟨xs, n, _, rfl, hlen, hxl, hf⟩ := DataW.trod_array ht hr
    match xs, hxl with
    | [x0, x1], _ =>
      have h0 := hf 0 (by decide)
      have h1 := hf 1 (by decide)
      rw [h.size] at h0 h1
      have hl' : ∀ m ∈ DataW.weightsAll P e [x0.1, x1.1], m ≤ 140737488351232 := fun m hm => hl m (by simp only [DataW.weights, ht]; exact hm)
      obtain ⟨y, _, hy, hok, hm1⟩ := h.run h0 (fun m hm => hl' m (weights_mem_all (j := 0) rfl m hm))
      obtain ⟨z, _, hz, hoz, hm2⟩ := h.run h1 (fun m hm => hl' m (weights_mem_all (j := 1) rfl m hm))
      refine ⟨(y, z), by omega, ?_, ⟨hok, hoz⟩, by simp only [List.map_cons, List.map_nil, Rows.uptoBulk, Rows.uptoBulkAll]; omega⟩
      rw [Nat.zero_mul, List.drop_zero] at hy
      rw [Nat.one_mul] at hz
      have h2 : (cs.drop sz).take sz = cs.drop sz := List.take_of_length_le (by rw [List.length_drop]; omega)
      rw [h2] at hz
      have := cellsApp hy hz
      rwa [List.take_append_drop] at this⟩
end Go.Proofs.Ytonbbaimkpjcfaa.Ev
