/- Arguments that read as data, opened to kinds: numbers, texts, slices and structs of such, to any depth. No conditions. -/
import Derived.ChangeArms
import Derived.OpenShut
import Derived.SizedLaws
import Derived.Deep.Slices
import Derived.WideShapes
import Derived.Test.YtonbbaimkpjcfaaWWords
import Derived.Test.YtonbbaimkpjcfaaRows
namespace Go.Proofs.Ytonbbaimkpjcfaa.Opens
open Go.RowKit Go.ChangeShapes Go.WideShapes Go.Proofs.YtonbbaimkpjcfaaW.PrintWords

theorem list_of {α : Type} {R : Nat → α → Prop} : ∀ n : Nat, (∀ i, i < n → ∃ y, R i y) → ∃ xs : List α, xs.length = n ∧ ∀ i y, xs[i]? = some y → R i y
  | 0, _ => ⟨[], rfl, fun i y h => by simp at h⟩
  | n + 1, h => by
    obtain ⟨xs, hl, hx⟩ := list_of n (fun i hi => h i (by omega))
    obtain ⟨y, hy⟩ := h n (by omega)
    refine ⟨xs ++ [y], by simp [hl], fun i z hz => ?_⟩
    by_cases hi : i < n
    · rw [List.getElem?_append_left (by omega)] at hz
      exact hx i z hz
    · have hlt := (List.getElem?_eq_some_iff.1 hz).1
      rw [List.length_append, hl, List.length_singleton] at hlt
      obtain rfl : i = n := by omega
      rw [List.getElem?_append_right (by omega), hl, Nat.sub_self] at hz
      simp only [List.getElem?_cons_zero, Option.some.injEq] at hz
      subst hz
      exact hy
theorem bulk_one {H : Type} (d : DataW H) : 1 ≤ Rows.uptoBulk d := by
  cases d with
  | lit l => cases l <;> simp [Rows.uptoBulk]
  | nil => simp [Rows.uptoBulk]
  | ptr d => simp [Rows.uptoBulk]
  | slice elems spare => simp [Rows.uptoBulk]
  | agg parts => simp [Rows.uptoBulk]
  | iface t d => simp [Rows.uptoBulk]
  | map entries => simp [Rows.uptoBulk]
  | held h => simp [Rows.uptoBulk]
theorem bulk_sum {H α : Type} {ms : α → Nat} : ∀ {xs : List α} {ds : List (DataW H)}, xs.length = ds.length → (∀ (i : Nat) y d, xs[i]? = some y → ds[i]? = some d → ms y ≤ Rows.uptoBulk d) → (xs.map ms).sum ≤ Rows.uptoBulkAll ds
  | [], [], _, _ => by simp [Rows.uptoBulkAll]
  | [], _ :: _, h, _ => by simp at h
  | _ :: _, [], h, _ => by simp at h
  | x :: xs, d :: ds, h, hm => by
    have h1 := hm 0 x d rfl rfl
    have h2 := bulk_sum (xs := xs) (ds := ds) (by simpa using h) (fun i y e hy he => hm (i + 1) y e (by simpa using hy) (by simpa using he))
    simp only [List.map_cons, List.sum_cons, Rows.uptoBulkAll]
    omega
theorem weights_mem_all {H : Type} {P : Program} {e : TypeId} : ∀ {ds : List (DataW H)} {j : Nat} {d : DataW H}, ds[j]? = some d → ∀ n ∈ d.weights P e, n ∈ DataW.weightsAll P e ds
  | [], _, _, h, _, _ => by simp at h
  | d :: ds, 0, _, h, n, hn => by
    simp only [List.getElem?_cons_zero, Option.some.injEq] at h
    subst h
    simp only [DataW.weightsAll, List.mem_append]
    exact .inl hn
  | d :: ds, j + 1, _, h, n, hn => by
    simp only [DataW.weightsAll, List.mem_append]
    exact .inr (weights_mem_all (by simpa using h) n hn)
def Light {H : Type} (P : Program) (t : TypeId) (d : DataW H) : Prop := ∀ n ∈ d.weights P t, n ≤ 140737488351232
/-- What reads at type t is of kind d, and is right. -/
structure Opens {α : Type} (P : Program) (t : TypeId) (d : Kd α) (ok : α → Prop) (ms : α → Nat) : Prop where
  sz : P.cellsOf t = d.sz
  run : ∀ {H : Type} {enc : TypeId × Value → H} {w : World} {base : Nat} {spare : Nat → Bool} {held : Bool} {fuel : Nat} {cs : List Value} {x : DataW H × List MemPlace},
    DataW.trod enc P w base spare held fuel t cs = some x → Light P t x.1 → ∃ y : α, d.K w y cs ∧ ok y ∧ ms y ≤ Rows.uptoBulk x.1
theorem opens_int {P : Program} {t : TypeId} {k : IntKind} (ht : P.underlying t = some (.int k)) (hc : P.cellsOf t = 1) : Opens P t (Kd.int k) (fun y => (Lit.int k y).wf = true) (fun _ => 1) :=
  ⟨hc, fun h _ => by
    obtain ⟨n, rfl, _, hw⟩ := DataW.trod_int ht h
    exact ⟨n, rfl, hw, bulk_one _⟩⟩
theorem opens_bool {P : Program} {t : TypeId} (ht : P.underlying t = some .bool) (hc : P.cellsOf t = 1) : Opens P t Kd.bool (fun _ => True) (fun _ => 1) :=
  ⟨hc, fun h _ => by
    obtain ⟨b, rfl, _⟩ := DataW.trod_bool ht h
    exact ⟨b, rfl, trivial, bulk_one _⟩⟩
theorem opens_string {P : Program} {t : TypeId} (ht : P.underlying t = some .string) (hc : P.cellsOf t = 1) : Opens P t Kd.string (fun s => s.size ≤ 140737488351232) (fun s => s.size + 1) :=
  ⟨hc, fun h hl => by
    obtain ⟨s, rfl, rfl, _⟩ := DataW.trod_string ht h
    refine ⟨s, rfl, ?_, by simp only [Rows.uptoBulk, Array.length_toList]; exact Nat.le_refl _⟩
    have := hl s.data.toList.length (by simp [DataW.weights])
    rwa [Array.length_toList] at this⟩
theorem opens_slice {α : Type} {P : Program} {t e : TypeId} {d : Kd α} {ok : α → Prop} {ms : α → Nat} (ht : P.underlying t = some (.slice e)) (hc : P.cellsOf t = 1) (h : Opens P e d ok ms) {B : Nat} (hB : P.bytesOf e = B) :
    Opens P t (Kd.slice e d) (fun xs => xs.length * B ≤ 140737488351232 ∧ xs.length ≤ 9223372036854775807 ∧ ∀ x ∈ xs, ok x) (fun xs => (xs.map ms).sum + 1) := by
  refine ⟨hc, fun {H enc w base spare held fuel cs x} hr hl => ?_⟩
  rcases DataW.trod_slice ht hr with ⟨rfl, _⟩ | ⟨a, len, cap, elems, rest, n, _, rfl, rfl, _, hlc, hcm, hlen, hel, _⟩
  · exact ⟨[], ⟨none, 0, rfl, Nat.le_refl _, Kd.C_nil d w⟩, ⟨by simp, by simp, fun x hx => by simp at hx⟩, bulk_one _⟩
  · have hw : ∀ i, i < len → ∃ y, (∃ cs', w.cells? base (a.add (i * P.cellsOf e)) (P.cellsOf e) = some cs' ∧ d.K w y cs') ∧ ok y ∧ ∀ dd, (elems.map (·.1))[i]? = some dd → ms y ≤ Rows.uptoBulk dd := by
      intro i hi
      have h1 := hel i hi
      rw [List.getElem?_eq_getElem (by omega)] at h1
      obtain ⟨cs', h2, h3⟩ := Option.bind_eq_some_iff.1 h1
      obtain ⟨y, hy, hok, hms⟩ := h.run h3 (fun m hm => hl m (by
        simp only [DataW.weights, ht, List.mem_cons, List.mem_append]
        exact .inr (.inl (weights_mem_all (j := i) (by rw [List.getElem?_map, List.getElem?_eq_getElem (by omega)]; rfl) m hm))))
      exact ⟨y, ⟨cs', h2, hy⟩, hok, fun dd hd => by
        rw [List.getElem?_map, List.getElem?_eq_getElem (by omega)] at hd
        obtain rfl := Option.some.inj hd
        exact hms⟩
    obtain ⟨xs, hxl, hx⟩ := list_of len hw
    have hsize : len * B ≤ 140737488351232 := by
      have h1 := hl ((elems.map (·.1)).length * P.bytesOf e + (rest.map (·.1)).length * P.bytesOf e) (by
        simp only [DataW.weights, ht, List.mem_cons]
        exact .inl (Nat.add_mul _ _ _).symm)
      rw [hB, List.length_map, hlen] at h1
      omega
    subst hxl
    have hm : xs.length ≤ 9223372036854775807 := Nat.le_trans hlc hcm
    refine ⟨xs, ⟨some a, cap, rfl, hlc, rfl, hm, fun _ => ⟨a, rfl, fun j p hj => ?_⟩⟩, ⟨hsize, hm, fun x hx' => ?_⟩, ?_⟩
    · obtain ⟨⟨cs', h2, h3⟩, _⟩ := hx j p hj
      obtain ⟨_, h4, h5⟩ := World.cells?_some h2
      refine ⟨cs', h4.trans h.sz, h3, fun i u hu => ?_⟩
      have h6 : i < cs'.length := (List.getElem?_eq_some_iff.1 hu).1
      rw [← add_add, ← h.sz, h5 i (by omega), hu]
    · obtain ⟨j, hj, rfl⟩ := List.getElem_of_mem hx'
      exact (hx j _ (List.getElem?_eq_getElem hj)).2.1
    · have hb := bulk_sum (ms := ms) (xs := xs) (ds := elems.map (·.1)) (by rw [List.length_map, hlen]) (fun i y dd hy hd => (hx i y hy).2.2 dd hd)
      simp only [Rows.uptoBulk]
      omega
/-- The same kind, told another way. -/
theorem opens_iso {α β : Type} {P : Program} {t : TypeId} {d : Kd α} {ok : α → Prop} {ms : α → Nat} (h : Opens P t d ok ms) (f : β → α) (g : α → β) (hg : ∀ y, f (g y) = y) : Opens P t (Kd.iso d f) (fun y => ok (f y)) (fun y => ms (f y)) :=
  ⟨h.sz, fun hr hl => by
    obtain ⟨y, hy, hk, hm⟩ := h.run hr hl
    refine ⟨g y, ?_, by rw [hg]; exact hk, by rw [hg]; exact hm⟩
    show d.K _ (f (g y)) _
    rw [hg]
    exact hy⟩
/-- Right in more, or said otherwise. -/
theorem opens_mono {α : Type} {P : Program} {t : TypeId} {d : Kd α} {ok ok' : α → Prop} {ms ms' : α → Nat} (h : Opens P t d ok ms) (hk : ∀ y, ok y → ok' y) (hm : ∀ y, ms' y ≤ ms y) : Opens P t d ok' ms' :=
  ⟨h.sz, fun hr hl => by
    obtain ⟨y, hy, ho, hms⟩ := h.run hr hl
    exact ⟨y, hy, hk y ho, Nat.le_trans (hm y) hms⟩⟩
/-- Fields that lie one behind the other, from a place on. -/
structure OpensF {α : Type} (P : Program) (fs : List Field) (off : Nat) (d : Kd α) (ok : α → Prop) (ms : α → Nat) : Prop where
  run : ∀ {H : Type} {enc : TypeId × Value → H} {w : World} {base : Nat} {spare : Nat → Bool} {held : Bool} {n : Nat} {cs : List Value} {xs : List (DataW H × List MemPlace)},
    off + d.sz ≤ cs.length → (∀ (i : Nat) (f : Field), fs[i]? = some f → DataW.trod enc P w base spare held n f.type ((cs.drop f.offset).take (P.cellsOf f.type)) = xs[i]?) → xs.length = fs.length →
    (∀ m ∈ DataW.weightsEach P (fs.map (·.type)) (xs.map (·.1)), m ≤ 140737488351232) → ∃ y : α, d.K w y ((cs.drop off).take d.sz) ∧ ok y ∧ ms y ≤ Rows.uptoBulkAll (xs.map (·.1))
theorem opensF_one {α : Type} {P : Program} {f : Field} {off : Nat} {d : Kd α} {ok : α → Prop} {ms : α → Nat} (ho : f.offset = off) (h : Opens P f.type d ok ms) : OpensF P [f] off d ok ms := by
  constructor
  intro H enc w base spare held n cs xs hl hr hx hw
  match xs, hx with
  | [x], _ =>
    have h1 := hr 0 f rfl
    rw [ho, h.sz] at h1
    obtain ⟨y, hy, hok, hms⟩ := h.run h1 (fun m hm => hw m (by simp only [List.map_cons, List.map_nil, DataW.weightsEach, List.mem_append]; exact .inl hm))
    exact ⟨y, hy, hok, by simp only [List.map_cons, List.map_nil, Rows.uptoBulkAll]; omega⟩
theorem opensF_cons {α β : Type} {P : Program} {f : Field} {fs : List Field} {off : Nat} {a : Kd α} {b : Kd β} {oka : α → Prop} {okb : β → Prop} {msa : α → Nat} {msb : β → Nat} (ho : f.offset = off) (h : Opens P f.type a oka msa) (hs : OpensF P fs (off + a.sz) b okb msb) :
    OpensF P (f :: fs) off (Kd.pair a b) (fun y => oka y.1 ∧ okb y.2) (fun y => msa y.1 + msb y.2) := by
  constructor
  intro H enc w base spare held n cs xs hl hr hx hw
  have hl : off + (a.sz + b.sz) ≤ cs.length := hl
  match xs, hx with
  | x :: xs, hx =>
    have h1 := hr 0 f rfl
    rw [ho, h.sz] at h1
    obtain ⟨y, hy, hok, hm1⟩ := h.run h1 (fun m hm => hw m (by simp only [List.map_cons, DataW.weightsEach, List.mem_append]; exact .inl hm))
    obtain ⟨z, hz, hoz, hm2⟩ := hs.run (by omega) (fun i g hg => hr (i + 1) g (by simpa using hg)) (by simpa using hx) (fun m hm => hw m (by simp only [List.map_cons, DataW.weightsEach, List.mem_append]; exact .inr hm))
    refine ⟨(y, z), ⟨_, _, ?_, hy, hz⟩, ⟨hok, hoz⟩, by simp only [List.map_cons, Rows.uptoBulkAll]; omega⟩
    show (cs.drop off).take (a.sz + b.sz) = _
    rw [List.take_add, List.drop_drop]
theorem opens_struct {α : Type} {P : Program} {t : TypeId} {fs : List Field} {d : Kd α} {ok : α → Prop} {ms : α → Nat} (ht : P.underlying t = some (.struct fs.toArray)) (hc : P.cellsOf t = d.sz) (h : OpensF P fs 0 d ok ms) : Opens P t d ok (fun y => ms y + 1) :=
  ⟨hc, fun {H enc w base spare held fuel cs x} hr hl => by
    obtain ⟨xs, n, _, rfl, hlen, hxl, hf⟩ := DataW.trod_struct ht hr
    obtain ⟨y, hy, hok, hms⟩ := h.run (n := n) (cs := cs) (xs := xs) (by omega) (fun i f hi => hf i f (by simpa using hi)) (by simpa using hxl) (fun m hm => hl m (by simp only [DataW.weights, ht]; exact hm))
    refine ⟨y, ?_, hok, by simp only [Rows.uptoBulk]; omega⟩
    rw [List.drop_zero, List.take_of_length_le (by omega)] at hy
    exact hy⟩
/-- An argument that reads. -/
theorem Opens.arg {α : Type} {P : Program} {t : TypeId} {d : Kd α} {ok : α → Prop} {ms : α → Nat} (h : Opens P t d ok ms) {H : Type} {enc : TypeId × Value → H} {w : World} {base : Nat} {spare : Nat → Bool} {held : Bool} {v : Value} {x : DataW H} {ps : List MemPlace} {ts : List TypeId} {ds : List (DataW H)} {j : Nat}
    (hsz : (DataW.weightsEach P ts ds).all (· ≤ reachBytes) = true) (ht : ts[j]? = some t) (hd : ds[j]? = some x) (hr : DataW.Trod enc P w base spare held t v x ps) : ∃ y : α, d.K w y v.cells.toList ∧ ok y ∧ ms y ≤ Rows.uptoBulk x := by
  obtain ⟨fuel, hf⟩ := hr
  refine h.run hf (fun m hm => ?_)
  exact of_decide_eq_true (List.all_eq_true.1 hsz m (DataW.weights_mem_each ht hd m hm))
theorem okWide_array {P : Program} {w : World} {r : Reach} {base : Nat} {t e : TypeId} {n : Nat} {v : Value} (ht : P.underlying t = some (.array n e)) (h : Value.okWide P w r base t v) : ∃ cs, v = .agg cs ∧ cs.size = P.cellsOf t := by
  simp only [Value.okWide, ht] at h
  obtain ⟨cs, h1, h2, _⟩ := h
  exact ⟨cs, h1, h2⟩
/-- Two cells of one kind, as an array's. -/
theorem opens_array2 {α : Type} {P : Program} {t e : TypeId} {d : Kd α} {ok : α → Prop} {ms : α → Nat} (ht : P.underlying t = some (.array 2 e)) (hc : P.cellsOf t = d.sz + d.sz) (h : Opens P e d ok ms) : Opens P t (Kd.pair d d) (fun y => ok y.1 ∧ ok y.2) (fun y => ms y.1 + ms y.2 + 1) :=
  ⟨hc, fun {H enc w base spare held fuel cs x} hr hl => by
    obtain ⟨xs, n, _, rfl, hlen, hxl, hf⟩ := DataW.trod_array ht hr
    match xs, hxl with
    | [x0, x1], _ =>
      have h0 := hf 0 (by decide)
      have h1 := hf 1 (by decide)
      rw [h.sz] at h0 h1
      have hl' : ∀ m ∈ DataW.weightsAll P e [x0.1, x1.1], m ≤ 140737488351232 := fun m hm => hl m (by simp only [DataW.weights, ht]; exact hm)
      obtain ⟨y, hy, hok, hm1⟩ := h.run h0 (fun m hm => hl' m (weights_mem_all (j := 0) rfl m hm))
      obtain ⟨z, hz, hoz, hm2⟩ := h.run h1 (fun m hm => hl' m (weights_mem_all (j := 1) rfl m hm))
      refine ⟨(y, z), ⟨_, _, ?_, hy, hz⟩, ⟨hok, hoz⟩, by simp only [List.map_cons, List.map_nil, Rows.uptoBulk, Rows.uptoBulkAll]; omega⟩
      rw [Nat.zero_mul, List.drop_zero, Nat.one_mul]
      have h2 : (cs.drop d.sz).take d.sz = cs.drop d.sz := List.take_of_length_le (by rw [List.length_drop]; omega)
      rw [h2, List.take_append_drop]⟩
end Go.Proofs.Ytonbbaimkpjcfaa.Opens
