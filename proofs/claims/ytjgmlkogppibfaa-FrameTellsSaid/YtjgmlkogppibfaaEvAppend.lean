/- What each operation of the program comes to is what the reckoner says: append, copy, store, make. No conditions. -/
import Derived.Deep.DeepAppendWide
import Derived.Test.YtjgmlkogppibfaaEvPut
namespace Go.Proofs.Ytjgmlkogppibfaa.Ev
open Go
set_option linter.unusedVariables false
set_option linter.unusedSimpArgs false
section
variable {P : Program} {T : Tab} {k0 : Nat} {w : World} {F1 F2 : Nat → Prop} {ρ : Nat → Option (Nat × Nat)} {H : Hp}

/-- What is appended, as the machine reads it: cells that show the elements. -/
structure Added (P : Program) (w : World) (sz : Nat) (tx : TypeId) (x : Value) (F : Nat → Prop) (els : List PV) : Prop where
  ex : ∃ news : List Value, Src P sz tx x els.length news w ∧ (∀ y ∈ els, y.cells.length = sz) ∧ ∀ (i : Nat) (v : PV), (flat els)[i]? = some v → ∃ c : Value, news[i]? = some c ∧ PVR w F v c

theorem strEls_cells (s : ByteArray) : ∀ y ∈ strEls s, y.cells.length = 1 := by
  intro y hy
  obtain ⟨b, _, rfl⟩ := List.mem_map.1 hy
  rfl
theorem flat_ones {els : List PV} (h : ∀ y ∈ els, y.cells = [y]) : flat els = els := by
  induction els with
  | nil => rfl
  | cons x l ih => rw [flat_cons, h x (by simp), ih (fun y hy => h y (by simp [hy]))]; rfl
theorem strEls_flat (s : ByteArray) : flat (strEls s) = strEls s := flat_ones fun y hy => by
  obtain ⟨b, _, rfl⟩ := List.mem_map.1 hy
  rfl
theorem strEls_length (s : ByteArray) : (strEls s).length = s.size := by
  unfold strEls
  rw [List.length_map]
  rfl
theorem Added.ofString {tx : TypeId} (hk : P.underlying tx = some .string) (s : ByteArray) (F : Nat → Prop) : Added P w 1 tx (.string s) F (strEls s) := by
  refine ⟨⟨byteCells s, by rw [strEls_length]; exact Src.ofString w hk s, strEls_cells s, fun i v hv => ?_⟩⟩
  rw [strEls_flat] at hv
  unfold strEls at hv
  rw [List.getElem?_map] at hv
  cases hb : s.data.toList[i]? with
  | none => simp [hb] at hv
  | some b =>
    simp only [hb, Option.map_some, Option.some.injEq] at hv
    subst hv
    exact ⟨.int .u8 b.toNat, by unfold byteCells; rw [List.getElem?_map, hb]; rfl, .int _ _⟩
/-- A slice value shows elements. -/
def SlShow (w : World) (F : Nat → Prop) (sz : Nat) (els : List PV) (c : Value) : Prop := ∃ A cap, c = .slice A els.length cap ∧ (els = [] ∨ ∃ ad, A = some ad ∧ ad.spot = none ∧ (∀ e ∈ els, e.cells.length = sz) ∧
  ∃ cs : Nat → Value, (∀ i, i < (flat els).length → w.cell? (ad.add i) = some (cs i)) ∧ ∀ (i : Nat) (v : PV), (flat els)[i]? = some v → PVR w F v (cs i))
theorem SlShow.ofPVR {F : Nat → Prop} {sz : Nat} {els : List PV} {c : Value} (h : PVR w F (.sl sz els) c) : SlShow w F sz els c := by
  cases h with
  | slnil _ A cap => exact ⟨A, cap, rfl, .inl rfl⟩
  | sl _ _ ad cap cs h1 h2 h3 h4 h5 h6 => exact ⟨some ad, cap, rfl, .inr ⟨ad, rfl, h1, h4, cs, h5, h6⟩⟩
theorem SlShow.ofRow {F : Nat → Prop} {g cap off n sz : Nat} {e : TypeId} {cur : Array Value} {els : List PV} {fz : Nat × Nat} {c : Value} (hg : w.heap[g]? = some (.cells cur e fz)) (hl : els.length ≤ cap) (hc : cur.size = cap * sz) (he : ∀ x ∈ els, x.cells.length = sz)
    (hv : ∀ (i : Nat) (v : PV), (flat els)[i]? = some v → PVR w F v (cur.getD i undef)) (hn : off + n ≤ els.length) (hs : SlV (some (g, cap)) sz off n c) : SlShow w F sz (cutEls off n els) c := by
  obtain ⟨h1, A, rfl, hA⟩ := hs
  have hlen : (cutEls off n els).length = n := by simp [cutEls]; omega
  rcases Nat.eq_zero_or_pos n with rfl | hp
  · exact ⟨A, _, by rw [hlen], .inl (List.eq_nil_of_length_eq_zero hlen)⟩
  · have hce : ∀ x ∈ cutEls off n els, x.cells.length = sz := fun x hx => he x (List.mem_of_mem_drop (List.mem_of_mem_take hx))
    have hfl : flat (cutEls off n els) = ((flat els).drop (off * sz)).take (n * sz) := by
      unfold cutEls
      rw [flat_take (fun x hx => he x (List.mem_of_mem_drop hx)), flat_drop he]
    have hget : ∀ (i : Nat) (v : PV), (flat (cutEls off n els))[i]? = some v → i < n * sz ∧ (flat els)[off * sz + i]? = some v := by
      intro i v h
      rw [hfl, List.getElem?_take] at h
      split at h
      · exact ⟨by assumption, by rwa [List.getElem?_drop] at h⟩
      · cases h
    refine ⟨A, _, by rw [hlen], .inr ⟨⟨g, off * sz, none⟩, hA (by omega), rfl, hce, fun i => cur.getD (off * sz + i) undef, fun i hi => ?_, fun i v h => hv _ v (hget i v h).2⟩⟩
    rw [flat_length hce, hlen] at hi
    rw [Addr.add_mid]
    have hsz : off * sz + i < cur.size := by
      rw [hc]
      have : off * sz + n * sz ≤ cap * sz := by rw [← Nat.add_mul]; exact Nat.mul_le_mul_right _ h1
      omega
    simp [World.cell?, hg, Array.getD_eq_getD_getElem?, hsz]
theorem viewShow (hh : HeapR k0 w F1 F2 ρ H) {a : AV} {c : Value} (ha : AVR w F1 F2 ρ H a c) {fr : Bool} {sz : Nat} {els : List PV} {l : List Nat} (hv : viewPV H k0 a = some (fr, .sl sz els, l)) : SlShow w (flagF fr F1 F2) sz els c := by
  unfold viewPV at hv
  split at hv
  · obtain ⟨rfl, h2⟩ := Prod.mk.inj (Option.some.inj hv)
    obtain ⟨rfl, rfl⟩ := Prod.mk.inj h2
    cases ha with | p _ _ _ ha => exact .ofPVR ha
  · rename_i h
    cases hH : H h with
    | none => simp [hH] at hv
    | some o => cases o with
      | box => simp [hH] at hv
      | gone => simp [hH] at hv
      | row e sz' fr' fz els' =>
        simp only [hH, Option.some.injEq, Prod.mk.injEq, PV.sl.injEq] at hv
        obtain ⟨rfl, ⟨rfl, rfl⟩, rfl⟩ := hv
        cases ha with | rowf _ _ o ho _ hr =>
        rw [hH] at ho
        obtain rfl := Option.some.inj ho
        have hs := hr _ _ _ _ _ rfl
        obtain ⟨h1, h2, h3⟩ := hh.row hH
        cases hρ : ρ h with
        | none =>
          rw [hρ] at h3 hs
          simp only at h3
          subst h3
          obtain ⟨A, cap, rfl⟩ := hs.zero
          exact ⟨A, cap, rfl, .inl rfl⟩
        | some gc =>
          obtain ⟨g, cap⟩ := gc
          rw [hρ] at h3 hs
          obtain ⟨cur, h4, h5, h6, h7, h8, h9⟩ := h3
          have := SlShow.ofRow (F := flagF (fr' && Nat.ble k0 h) F1 F2) h4 h5 h7 h2 (fun i v hv => (h8 i v hv).mono (fun _ _ => rfl) (fun b hb => by
            cases fr' with
            | false => exact hb
            | true => cases hk : Nat.ble k0 h with
              | true => exact hb
              | false => exact hh.sub b hb)) (by omega) hs
          rwa [cutEls_all] at this
  · rename_i h off n
    cases hH : H h with
    | none => simp [hH] at hv
    | some o => cases o with
      | box => simp [hH] at hv
      | gone => simp [hH] at hv
      | row e sz' fr' fz els' =>
        simp only [hH, Option.some.injEq, Prod.mk.injEq, PV.sl.injEq] at hv
        obtain ⟨rfl, ⟨rfl, rfl⟩, rfl⟩ := hv
        cases ha with | row _ _ _ _ o ho _ hr =>
        rw [hH] at ho
        obtain rfl := Option.some.inj ho
        obtain ⟨hs, hle⟩ := hr _ _ _ _ _ rfl
        obtain ⟨h1, h2, h3⟩ := hh.row hH
        cases hρ : ρ h with
        | none =>
          rw [hρ] at h3 hs
          simp only at h3
          subst h3
          obtain ⟨rfl, rfl, A, rfl⟩ := hs
          exact ⟨A, 0, rfl, .inl rfl⟩
        | some gc =>
          obtain ⟨g, cap⟩ := gc
          rw [hρ] at h3 hs
          obtain ⟨cur, h4, h5, h6, h7, h8, h9⟩ := h3
          exact SlShow.ofRow (F := flagF (fr' && Nat.ble k0 h) F1 F2) h4 h5 h7 h2 (fun i v hv => (h8 i v hv).mono (fun _ _ => rfl) (fun b hb => by
            cases fr' with
            | false => exact hb
            | true => cases hk : Nat.ble k0 h with
              | true => exact hb
              | false => exact hh.sub b hb)) hle hs
  · cases hv
theorem Added.ofShow {tx e : TypeId} (hk : P.underlying tx = some (.slice e)) {F : Nat → Prop} {sz : Nat} {els : List PV} {c : Value} (h : SlShow w F sz els c) : Added P w sz tx c F els := by
  obtain ⟨A, cap, rfl, h | ⟨ad, rfl, h1, h2, cs, h3, h4⟩⟩ := h
  · subst h
    refine ⟨⟨[], ?_, (fun y hy => absurd hy (by simp)), (fun i v hv => absurd hv (by simp [flat]))⟩⟩
    cases A with
    | none => exact Src.ofNil w hk cap
    | some ad => exact Src.ofSlice w hk ad 0 cap [] (by simp) (fun j u hu => by simp at hu) (fun u hu => by cases hu)
  · have hget : ∀ i, ((List.range (flat els).length).map cs)[i]? = if i < (flat els).length then some (cs i) else none := by
      intro i
      rw [List.getElem?_map]
      by_cases hi : i < (flat els).length
      · rw [if_pos hi, List.getElem?_range hi]; rfl
      · rw [if_neg hi, List.getElem?_eq_none (by simpa using hi)]; rfl
    refine ⟨⟨(List.range (flat els).length).map cs, Src.ofSlice w hk ad els.length cap _ (by rw [List.length_map, List.length_range, flat_length h2]) (fun j u hu => ?_) (fun u hu => ?_), h2, fun i v hv => ?_⟩⟩
    · rw [hget] at hu
      split at hu
      · rename_i hj
        obtain rfl := Option.some.inj hu
        exact h3 j hj
      · cases hu
    · obtain ⟨i, hi, rfl⟩ := List.mem_map.1 hu
      have hi' : i < (flat els).length := by simpa using hi
      exact (h4 i _ (List.getElem?_eq_getElem hi')).one
    · have hi' := (List.getElem?_eq_some_iff.1 hv).1
      exact ⟨cs i, by rw [hget, if_pos hi'], h4 i v hv⟩
theorem Added.ofView (hh : HeapR k0 w F1 F2 ρ H) {tx e : TypeId} (hk : P.underlying tx = some (.slice e)) {a : AV} {x : Value} (ha : AVR w F1 F2 ρ H a x) {sz : Nat} {fr : Bool} {els : List PV} {rd : List Nat}
    (hv : addedEls H k0 sz a = some (fr, els, rd)) : Added P w sz tx x (flagF fr F1 F2) els := by
  unfold addedEls at hv
  cases hvv : viewPV H k0 a with
  | none => simp [hvv] at hv
  | some y =>
    obtain ⟨f, v, l⟩ := y
    rw [hvv] at hv
    cases v with
    | sl sz' els' =>
      simp only at hv
      split at hv
      · rename_i hb
        obtain rfl := Nat.eq_of_beq_eq_true hb
        simp only [Option.some.injEq, Prod.mk.injEq] at hv
        obtain ⟨rfl, rfl, rfl⟩ := hv
        exact .ofShow hk (viewShow hh ha hvv)
      · cases hv
    | nilsl =>
      simp only [Option.some.injEq, Prod.mk.injEq] at hv
      obtain ⟨rfl, rfl, rfl⟩ := hv
      have : ∃ A, x = .slice A 0 0 := by
        unfold viewPV at hvv
        split at hvv
        · obtain ⟨rfl, h2⟩ := Prod.mk.inj (Option.some.inj hvv)
          obtain ⟨rfl, rfl⟩ := Prod.mk.inj h2
          cases ha with | p _ _ _ ha => cases ha with | nilsl A => exact ⟨A, rfl⟩
        · split at hvv <;> simp at hvv
        · split at hvv <;> simp at hvv
        · cases hvv
      obtain ⟨A, rfl⟩ := this
      exact .ofShow (sz := sz) (els := []) hk ⟨A, 0, rfl, .inl rfl⟩
    | int => simp at hv
    | bool => simp at hv
    | str => simp at hv
    | nilptr => simp at hv
    | agg => simp at hv

theorem run_append_zero (t tx ty e : TypeId) (i : TypeInfo) (ht : P.underlying t = some (.slice e)) (hi : P.info? e = some i) (A : Option Addr) (x : Value) (hs : Src P i.size tx x 0 [] w) :
    (Builtin.append_ #[t, tx] ty #[.slice A 0 0, x]).run P w = .ok (.slice A 0 0) w := by
  have hc : (Builtin.firstCells i.size 0 x).run P w = .ok #[] w := by simpa using hs.cells
  rcases hs.kind with ⟨e', hk⟩ | hk <;> cases A <;> simp [Builtin.append_, run_underlying ht, run_underlying hk, sizeOf, typeInfo, hi, hs.len, hc, storeCells]

/-- The end of an append: the new row. -/
theorem avr_rowf {H' : Hp} {ρ' : Nat → Option (Nat × Nat)} {w' : World} {G1 G2 : Nat → Prop} {nx : Nat} {e : TypeId} {sz : Nat} {fr fz : Bool} {els : List PV} (h : H' nx = some (.row e sz fr fz els)) {A : Option Addr} {n cap : Nat} (hs : SlV (ρ' nx) sz 0 els.length (.slice A n cap)) : AVR w' G1 G2 ρ' H' (.rowf nx) (.slice A n cap) :=
  .rowf nx _ _ h ⟨_, _, _, rfl⟩ fun e' sz' fr' fz' els' hx => by
    obtain ⟨rfl, rfl, rfl, rfl, rfl⟩ := Ob.row.inj hx
    exact hs
theorem upd_head (o : Ob) (nx : Nat) (l : List (Nat × Ob)) : upd H ((nx, o) :: l) nx = some o := by simp [upd, look_cons_same]
theorem growslice_fits2 {need old bytes : Nat} (h : old < need) (hb : need * bytes ≤ 140737488355328 ∨ bytes = 1 ∧ need ≤ 141836999983104) : Builtin.nextslicecap need old * bytes ≤ 281474976710656 := by
  rcases hb with hb | ⟨rfl, hb⟩
  · exact growslice_fits h hb
  · exact growslice_fits_wide h (by omega)
/-- Appended to nothing. -/
theorem append_nil (hh : HeapR k0 w F1 F2 ρ H) {ups : List (Nat × Ob)} (hd : Chg k0 w F1 F2 ρ H w (upd H ups) F1 F2 ρ) {nx : Nat} (hn : upd H ups nx = none) {t tx ty e : TypeId} (ht : P.underlying t = some (.slice e)) {i : TypeInfo} (hi : P.info? e = some i) {z : Value} (hz : i.zero = some z) (hzs : z.cells.size = i.size) (hsz : 0 < i.size)
    (A : Option Addr) {x : Value} {fr : Bool} {els : List PV} (ha : Added P w i.size tx x (flagF fr F1 F2) els) (hb : els.length * i.bytes ≤ 140737488355328 ∨ i.bytes = 1 ∧ els.length ≤ 141836999983104) (hm : els.length ≤ 141836999983104) :
    VRuns P k0 w F1 F2 ρ H (Builtin.append_ #[t, tx] ty #[.slice A 0 0, x]) (.rowf nx) ((nx, .row e i.size fr false els) :: ups) := by
  obtain ⟨news, hs, hce, hv⟩ := ha.ex
  by_cases h0 : els.length = 0
  · have he := List.eq_nil_of_length_eq_zero h0
    subst he
    have hnews : news = [] := List.eq_nil_of_length_eq_zero (by simpa using hs.newsLen)
    subst hnews
    have hc := hd.comp (Chg.empty hd.heap hn e hsz fr)
    rw [upd_upd] at hc
    exact ⟨_, _, _, _, _, run_append_zero t tx ty e i ht hi A x hs, hc, avr_rowf (upd_head _ _ _) (by rw [updR_same]; exact ⟨rfl, rfl, A, rfl⟩)⟩
  · have hold : (Builtin.firstCells i.size 0 (.slice A 0 0)).run P w.drew = .ok ([] : List Value).toArray w.drew := by
      cases A with
      | none => exact run_firstCells_none w.drew i.size 0 0 0
      | some ad => exact run_firstCells_some w.drew i.size 0 ad 0 0 [] (by simp) (fun j v hj => by simp at hj)
    have hr := run_append_grow_src (P := P) w t tx ty e i z ht hi hz A 0 0 [] hold x els.length news hs (by omega) (by omega) (growslice_fits2 (by omega) (by simpa using hb))
    simp only [Nat.zero_add, List.nil_append] at hr
    have hcap := grownCap_ge w els.length 0 e
    have hcm : grownCap w els.length 0 e ≤ maxLen := grownCap_le_maxLen w _ _ e (by unfold maxLen; omega)
    have hd2 := hd.comp (Chg.drew hd.heap)
    have hnr := Chg.newRow (w := w.drew) (nx := nx) (cap := grownCap w els.length 0 e) (sz := i.size) (fr := fr) (els := els) (e := e) (w' := w.drew.alloc (.cells (news.toArray ++ Builtin.zeroCells z.cells (grownCap w els.length 0 e - els.length)) e)) hd2.heap hn rfl rfl rfl rfl hsz hce hcap hcm
      (by simp only [Array.size_append, List.size_toArray, size_zeroCells, hzs, hs.newsLen, ← Nat.add_mul]; congr 1; omega)
      (fun j v hj => by
        obtain ⟨c, h3, h4⟩ := hv j v hj
        have hlt := (List.getElem?_eq_some_iff.1 h3).1
        rw [getD_of_getA (by rw [Array.getElem?_append_left (by simpa using hlt)]; simpa using h3)]
        exact PVR.mono (w := w) (w' := w.drew) (fun _ _ => rfl) (fun _ h => h) h4)
    have hc := hd2.comp hnr
    rw [upd_upd] at hc
    exact ⟨_, _, _, _, _, hr, hc, avr_rowf (upd_head _ _ _) (by rw [updR_same]; exact ⟨by omega, _, rfl, fun _ => by simp⟩)⟩
/-- Appended to a row. -/
theorem append_row (hh : HeapR k0 w F1 F2 ρ H) {nx h g cap : Nat} (hn : H nx = none) {t tx ty e : TypeId} (ht : P.underlying t = some (.slice e)) {i : TypeInfo} (hi : P.info? e = some i) {z : Value} (hz : i.zero = some z) (hzs : z.cells.size = i.size) (hsz : 0 < i.size)
    {fr f2 : Bool} {els0 els els2 : List PV} (ho : H h = some (.row e i.size fr false els0)) (hρ : ρ h = some (g, cap)) (hcap0 : 0 < cap) (hle : els.length ≤ cap) (hce : ∀ y ∈ els, y.cells.length = i.size)
    {cur : Array Value} (hg : w.heap[g]? = some (.cells cur e (0, 0))) (hcm : cap ≤ maxLen) (hcs : cur.size = cap * i.size) (hv : ∀ (j : Nat) (v : PV), (flat els)[j]? = some v → PVR w (flagF fr F1 F2) v (cur.getD j undef))
    {x : Value} (ha : Added P w i.size tx x (flagF f2 F1 F2) els2) (hb : (els.length + els2.length) * i.bytes ≤ 140737488355328 ∨ i.bytes = 1 ∧ els.length + els2.length ≤ 141836999983104) (hm : els.length + els2.length ≤ 141836999983104) :
    VRuns P k0 w F1 F2 ρ H (Builtin.append_ #[t, tx] ty #[.slice (some ⟨g, 0, none⟩) els.length cap, x]) (.rowf nx) [(nx, .row e i.size (fr && f2) false (els ++ els2)), (h, .gone)] := by
  obtain ⟨news, hs, hce2, hv2⟩ := ha.ex
  have hce' : ∀ y ∈ els ++ els2, y.cells.length = i.size := fun y hy => by
    rcases List.mem_append.1 hy with h | h
    · exact hce y h
    · exact hce2 y h
  have hfl := flat_length hce
  have hfr1 : ∀ b, flagF fr F1 F2 b → flagF (fr && f2) F1 F2 b := by
    intro b hb
    cases fr with
    | false => exact hb
    | true => cases f2 with
      | true => exact hb
      | false => exact hh.sub b hb
  have hfr2 : ∀ b, flagF f2 F1 F2 b → flagF (fr && f2) F1 F2 b := by
    intro b hb
    cases fr with
    | false => cases f2 with
      | true => exact hh.sub b hb
      | false => exact hb
    | true => exact hb
  have hsub : els.length * i.size ≤ cap * i.size := Nat.mul_le_mul_right _ hle
  by_cases hroom : els.length + els2.length ≤ cap
  · have hsub2 : els.length * i.size + els2.length * i.size ≤ cap * i.size := by rw [← Nat.add_mul]; exact Nat.mul_le_mul_right _ hroom
    have hnl := hs.newsLen
    have hr := run_append_room_src (P := P) w t tx ty e i ht hi g 0 els.length cap x els2.length news hs hroom
      (fun j hj => by simp [World.cell?, hg, show els.length * i.size + j < cur.size by omega]) (fun j hj => by simp [World.frozen?, hg])
    obtain ⟨cur', q1, q2, q3, q4, q5, q6, q7, q8⟩ := setCells_heap g news (0 + els.length * i.size) w cur e (0, 0) hg (by omega)
    have hc := Chg.take (nx := nx) (ob := .row e i.size (fr && f2) false (els ++ els2)) hh hn ho hρ q4 q5 q6 q7 q8 rfl (fun tr => ⟨hsz, hce', by
      rw [updR_same]
      refine ⟨cur', q1, by simp; omega, hcm, by rw [q2, hcs], fun j v hj => ?_, fun h => by cases h⟩
      rw [flat_append] at hj
      rw [Array.getD_eq_getD_getElem?, q3 j]
      rcases Nat.lt_or_ge j (flat els).length with hlt | hge
      · rw [List.getElem?_append_left hlt] at hj
        rw [if_neg (by omega), ← Array.getD_eq_getD_getElem?]
        exact tr.pvr hh.sub _ ((hv j v hj).mono (fun _ _ => rfl) hfr1)
      · rw [List.getElem?_append_right hge] at hj
        obtain ⟨c, h3, h4⟩ := hv2 _ v hj
        have hlt := (List.getElem?_eq_some_iff.1 h3).1
        rw [if_pos (by omega), show j - (0 + els.length * i.size) = j - (flat els).length by omega, h3]
        exact tr.pvr hh.sub _ (h4.mono (fun _ _ => rfl) hfr2)⟩)
    exact ⟨_, _, _, _, _, hr, hc, avr_rowf (upd_head _ _ _) (by rw [updR_same]; exact ⟨by simp; omega, some ⟨g, 0, none⟩, by simp, fun _ => by simp⟩)⟩
  · have hold : (Builtin.firstCells i.size els.length (.slice (some ⟨g, 0, none⟩) els.length cap)).run P w.drew = .ok ((cur.toList.take (els.length * i.size))).toArray w.drew :=
      run_firstCells_some w.drew i.size els.length ⟨g, 0, none⟩ els.length cap _ (by simp; omega) (fun j v hj => by
        rw [List.getElem?_take] at hj
        split at hj
        · rw [Addr.add_mid]
          simp only [Nat.zero_add, World.cell?_drew]
          simp only [World.cell?, hg]
          simpa using hj
        · cases hj)
    have hr := run_append_grow_src (P := P) w t tx ty e i z ht hi hz (some ⟨g, 0, none⟩) els.length cap _ hold x els2.length news hs (by omega) (by omega) (growslice_fits2 (by omega) hb)
    have hcap := grownCap_ge w (els.length + els2.length) cap e
    have hcm2 : grownCap w (els.length + els2.length) cap e ≤ maxLen := grownCap_le_maxLen w _ _ e (by unfold maxLen; omega)
    have hnl := hs.newsLen
    have htk : (cur.toList.take (els.length * i.size)).length = els.length * i.size := by simp; omega
    have hd := Chg.drop hh h ho
    have hn' : upd H [(h, .gone)] nx = none := by
      rw [upd_cons]
      have : nx ≠ h := fun he => by subst he; rw [hn] at ho; cases ho
      simp [this]
      exact hn
    have hd2 := hd.comp (Chg.drew hd.heap)
    have hnr := Chg.newRow (w := w.drew) (nx := nx) (cap := grownCap w (els.length + els2.length) cap e) (sz := i.size) (fr := fr && f2) (els := els ++ els2) (e := e)
      (w' := w.drew.alloc (.cells ((cur.toList.take (els.length * i.size) ++ news).toArray ++ Builtin.zeroCells z.cells (grownCap w (els.length + els2.length) cap e - (els.length + els2.length))) e)) hd2.heap hn' rfl rfl rfl rfl hsz hce' (by simpa using hcap) hcm2
      (by simp only [Array.size_append, List.size_toArray, List.length_append, htk, size_zeroCells, hzs, hnl, ← Nat.add_mul]; congr 1; omega)
      (fun j v hj => by
        rw [flat_append] at hj
        have key : ∃ c, (cur.toList.take (els.length * i.size) ++ news)[j]? = some c ∧ PVR w (flagF (fr && f2) F1 F2) v c := by
          rcases Nat.lt_or_ge j (flat els).length with hlt | hge
          · rw [List.getElem?_append_left hlt] at hj
            refine ⟨cur.getD j undef, ?_, (hv j v hj).mono (fun _ _ => rfl) hfr1⟩
            rw [List.getElem?_append_left (by omega), List.getElem?_take, if_pos (by omega)]
            simp [Array.getD_eq_getD_getElem?, show j < cur.size by omega]
          · rw [List.getElem?_append_right hge] at hj
            obtain ⟨c, h3, h4⟩ := hv2 _ v hj
            refine ⟨c, ?_, h4.mono (fun _ _ => rfl) hfr2⟩
            rw [List.getElem?_append_right (by omega), htk, ← hfl]
            exact h3
        obtain ⟨c, h3, h4⟩ := key
        have hlt := (List.getElem?_eq_some_iff.1 h3).1
        rw [getD_of_getA (by rw [Array.getElem?_append_left (by simpa using hlt)]; simpa using h3)]
        exact PVR.mono (w := w) (w' := w.drew) (fun _ _ => rfl) (fun _ h => h) h4)
    have hc := hd2.comp hnr
    rw [upd_upd] at hc
    exact ⟨_, _, _, _, _, hr, hc, avr_rowf (upd_head _ _ _) (by rw [updR_same]; exact ⟨by simp; omega, some ⟨w.heap.size, 0, none⟩, by simp, fun _ => by simp⟩)⟩
end
end Go.Proofs.Ytjgmlkogppibfaa.Ev
