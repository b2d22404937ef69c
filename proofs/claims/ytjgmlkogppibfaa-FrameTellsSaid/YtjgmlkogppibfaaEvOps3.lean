/- What each operation of the program comes to is what the reckoner says: loads, cuts, conversions. No conditions. -/
import Derived.Test.YtjgmlkogppibfaaEvOps2
namespace Go.Proofs.Ytjgmlkogppibfaa.Ev
open Go
set_option linter.unusedVariables false
set_option linter.unusedSimpArgs false
section
variable {P : Program} {T : Tab} {k0 : Nat} {w : World} {F1 F2 : Nat → Prop} {ρ : Nat → Option (Nat × Nat)} {H : Hp}

theorem flagF_sub (hs : ∀ b, F2 b → F1 b) (fr : Bool) : ∀ b, flagF fr F1 F2 b → F1 b := by
  cases fr
  · exact fun _ h => h
  · exact hs
theorem withDfl_eq (T : Tab) (e : TypeId) (K : PV → Step) : withDfl T e K = K (dfl T e) := by
  unfold withDfl dfl
  split
  · split <;> rfl
  · rfl
theorem HeapR.row (hh : HeapR k0 w F1 F2 ρ H) {h : Nat} {e : TypeId} {sz : Nat} {fr fz : Bool} {els : List PV} (ho : H h = some (.row e sz fr fz els)) : ObR k0 w F1 F2 ρ H h (.row e sz fr fz els) := hh.obj h _ ho

/-- A slice of a row of cells shows what the cells say. -/
theorem row_show {F : Nat → Prop} {g cap off n sz : Nat} {e : TypeId} {cur : Array Value} {els : List PV} {fz : Nat × Nat} {c : Value} (hg : w.heap[g]? = some (.cells cur e fz)) (hl : els.length ≤ cap) (hc : cur.size = cap * sz) (he : ∀ x ∈ els, x.cells.length = sz)
    (hv : ∀ i v, (flat els)[i]? = some v → PVR w F v (cur.getD i undef)) (hn : off + n ≤ els.length) (hs : SlV (some (g, cap)) sz off n c) (hF : F g) : PVR w F (.sl sz (cutEls off n els)) c := by
  obtain ⟨h1, A, rfl, hA⟩ := hs
  have hlen : (cutEls off n els).length = n := by simp [cutEls]; omega
  rcases Nat.eq_zero_or_pos n with rfl | hp
  · rw [List.eq_nil_of_length_eq_zero hlen]
    exact .slnil _ _ _
  · rw [hA (by omega)]
    have hce : ∀ x ∈ cutEls off n els, x.cells.length = sz := fun x hx => he x (List.mem_of_mem_drop (List.mem_of_mem_take hx))
    have hfl : flat (cutEls off n els) = ((flat els).drop (off * sz)).take (n * sz) := by
      unfold cutEls
      rw [flat_take (fun x hx => he x (List.mem_of_mem_drop hx)), flat_drop he]
    have hget : ∀ i v, (flat (cutEls off n els))[i]? = some v → i < n * sz ∧ (flat els)[off * sz + i]? = some v := by
      intro i v h
      rw [hfl, List.getElem?_take] at h
      split at h
      · exact ⟨by assumption, by rwa [List.getElem?_drop] at h⟩
      · cases h
    have hh := PVR.sl (w := w) (F := F) sz (cutEls off n els) ⟨g, off * sz, none⟩ (cap - off) (fun i => cur.getD (off * sz + i) undef) rfl hF (by omega) hce
      (fun i hi => by
        rw [flat_length hce, hlen] at hi
        rw [Addr.add_mid]
        have hsz : off * sz + i < cur.size := by
          rw [hc]
          have : off * sz + n * sz ≤ cap * sz := by rw [← Nat.add_mul]; exact Nat.mul_le_mul_right _ h1
          omega
        simp [World.cell?, hg, Array.getD_eq_getD_getElem?, hsz])
      (fun i v h => hv _ v (hget i v h).2)
    rwa [hlen] at hh
theorem cutEls_all (els : List PV) : cutEls 0 els.length els = els := by simp [cutEls]

theorem SlV.zero {r : Option (Nat × Nat)} {sz off : Nat} {c : Value} (h : SlV r sz off 0 c) : ∃ A cap, c = .slice A 0 cap := by
  unfold SlV at h
  cases r with
  | none => obtain ⟨_, _, A, rfl⟩ := h; exact ⟨A, 0, rfl⟩
  | some gc => obtain ⟨g, cap⟩ := gc; obtain ⟨_, A, rfl, _⟩ := h; exact ⟨A, _, rfl⟩

/-- A value looked at as one without places: what it shows lies in F, if the rows that it reads do. -/
theorem viewPV_core (hh : HeapR k0 w F1 F2 ρ H) {a : AV} {c : Value} (ha : AVR w F1 F2 ρ H a c) {fr : Bool} {v : PV} {l : List Nat} (hv : viewPV H k0 a = some (fr, v, l)) (F : Nat → Prop)
    (hp : ∀ fr0 v0, a = .p fr0 v0 → ∀ b, flagF fr0 F1 F2 b → F b) (hR : ∀ h ∈ l, ∀ e sz fr0 fz els, H h = some (.row e sz fr0 fz els) → ∀ b, flagF fr0 F1 F2 b → F b)
    (hl : ∀ h ∈ l, ∀ b cp, ρ h = some (b, cp) → F b) : PVR w F v c := by
  unfold viewPV at hv
  split at hv
  · obtain ⟨rfl, h2⟩ := Prod.mk.inj (Option.some.inj hv)
    obtain ⟨rfl, rfl⟩ := Prod.mk.inj h2
    cases ha with | p _ _ _ ha => exact ha.mono (fun _ _ => rfl) (hp _ _ rfl)
  · rename_i h
    cases hH : H h with
    | none => simp [hH] at hv
    | some o => cases o with
      | box => simp [hH] at hv
      | gone => simp [hH] at hv
      | row e sz fr' fz els =>
        simp only [hH, Option.some.injEq, Prod.mk.injEq] at hv
        obtain ⟨rfl, rfl, rfl⟩ := hv
        cases ha with | rowf _ _ o ho _ hr =>
        rw [hH] at ho
        obtain rfl := Option.some.inj ho
        have hs := hr _ _ _ _ _ rfl
        obtain ⟨h1, h2, h3⟩ := hh.row hH
        cases hρ : ρ h with
        | none =>
          rw [hρ] at h3 hs
          simp only at h3
          subst h3
          obtain ⟨A, cap, rfl⟩ := hs.zero
          exact .slnil _ _ _
        | some gc =>
          obtain ⟨g, cap⟩ := gc
          rw [hρ] at h3 hs
          obtain ⟨cur, h4, h5, h6, h7, h8, h9⟩ := h3
          have := row_show (F := F) h4 h5 h7 h2 (fun i v hv => (h8 i v hv).mono (fun _ _ => rfl) (hR h (by simp) _ _ _ _ _ hH)) (by omega) hs (hl h (by simp) g cap hρ)
          rwa [cutEls_all] at this
  · rename_i h off n
    cases hH : H h with
    | none => simp [hH] at hv
    | some o => cases o with
      | box => simp [hH] at hv
      | gone => simp [hH] at hv
      | row e sz fr' fz els =>
        simp only [hH, Option.some.injEq, Prod.mk.injEq] at hv
        obtain ⟨rfl, rfl, rfl⟩ := hv
        cases ha with | row _ _ _ _ o ho _ hr =>
        rw [hH] at ho
        obtain rfl := Option.some.inj ho
        obtain ⟨hs, hle⟩ := hr _ _ _ _ _ rfl
        obtain ⟨h1, h2, h3⟩ := hh.row hH
        cases hρ : ρ h with
        | none =>
          rw [hρ] at h3 hs
          simp only at h3
          subst h3
          obtain ⟨rfl, rfl, A, rfl⟩ := hs
          exact .slnil _ _ _
        | some gc =>
          obtain ⟨g, cap⟩ := gc
          rw [hρ] at h3 hs
          obtain ⟨cur, h4, h5, h6, h7, h8, h9⟩ := h3
          exact row_show (F := F) h4 h5 h7 h2 (fun i v hv => (h8 i v hv).mono (fun _ _ => rfl) (hR h (by simp) _ _ _ _ _ hH)) hle hs (hl h (by simp) g cap hρ)
  · cases hv

theorem viewPV_ok (hh : HeapR k0 w F1 F2 ρ H) {a : AV} {c : Value} (ha : AVR w F1 F2 ρ H a c) {fr : Bool} {v : PV} {l : List Nat} (hv : viewPV H k0 a = some (fr, v, l)) (F : Nat → Prop)
    (hF : ∀ b, F1 b → F b) (hl : ∀ h ∈ l, ∀ b cp, ρ h = some (b, cp) → F b) : PVR w F v c :=
  viewPV_core hh ha hv F (fun fr0 _ _ b hb => hF b (flagF_sub hh.sub fr0 b hb)) (fun _ _ _ _ fr0 _ _ _ b hb => hF b (flagF_sub hh.sub fr0 b hb)) hl
theorem viewPV_ok2 (hh : HeapR k0 w F1 F2 ρ H) {a : AV} {c : Value} (ha : AVR w F1 F2 ρ H a c) {fr : Bool} {v : PV} {l : List Nat} (hv : viewPV H k0 a = some (fr, v, l)) (G1 G2 : Nat → Prop)
    (h1 : ∀ b, F1 b → G1 b) (h2 : ∀ b, F2 b → G2 b) (hl1 : ∀ h ∈ l, ∀ b cp, ρ h = some (b, cp) → G1 b) (hl2 : ∀ h ∈ l, k0 ≤ h → ∀ b cp, ρ h = some (b, cp) → G2 b) : PVR w (flagF fr G1 G2) v c := by
  cases fr with
  | false => exact viewPV_ok hh ha hv G1 h1 hl1
  | true =>
    have hv' := hv
    unfold viewPV at hv'
    refine viewPV_core hh ha hv G2 (fun fr0 v0 he b hb => ?_) (fun h hm e sz fr0 fz els hH b hb => ?_) (fun h hm b cp hρ => ?_)
    · subst he
      obtain ⟨rfl, _⟩ := Prod.mk.inj (Option.some.inj hv')
      exact h2 b hb
    · split at hv'
      · obtain ⟨rfl, h3⟩ := Prod.mk.inj (Option.some.inj hv')
        obtain ⟨_, rfl⟩ := Prod.mk.inj h3
        cases hm
      · rename_i h'
        cases hH' : H h' with
        | none => simp [hH'] at hv'
        | some o => cases o with
          | box => simp [hH'] at hv'
          | gone => simp [hH'] at hv'
          | row e' sz' fr' fz' els' =>
            simp only [hH', Option.some.injEq, Prod.mk.injEq, Bool.and_eq_true] at hv'
            obtain ⟨⟨rfl, _⟩, _, rfl⟩ := hv'
            obtain rfl : h = h' := by simpa using hm
            rw [hH'] at hH
            obtain ⟨rfl, rfl, rfl, rfl, rfl⟩ := Ob.row.inj (Option.some.inj hH)
            exact h2 b hb
      · rename_i h' off n
        cases hH' : H h' with
        | none => simp [hH'] at hv'
        | some o => cases o with
          | box => simp [hH'] at hv'
          | gone => simp [hH'] at hv'
          | row e' sz' fr' fz' els' =>
            simp only [hH', Option.some.injEq, Prod.mk.injEq, Bool.and_eq_true] at hv'
            obtain ⟨⟨rfl, _⟩, _, rfl⟩ := hv'
            obtain rfl : h = h' := by simpa using hm
            rw [hH'] at hH
            obtain ⟨rfl, rfl, rfl, rfl, rfl⟩ := Ob.row.inj (Option.some.inj hH)
            exact h2 b hb
      · cases hv'
    · split at hv'
      · obtain ⟨_, h3⟩ := Prod.mk.inj (Option.some.inj hv')
        obtain ⟨_, rfl⟩ := Prod.mk.inj h3
        cases hm
      · rename_i h'
        cases hH' : H h' with
        | none => simp [hH'] at hv'
        | some o => cases o with
          | box => simp [hH'] at hv'
          | gone => simp [hH'] at hv'
          | row e' sz' fr' fz' els' =>
            simp only [hH', Option.some.injEq, Prod.mk.injEq, Bool.and_eq_true] at hv'
            obtain ⟨⟨_, hk⟩, _, rfl⟩ := hv'
            obtain rfl : h = h' := by simpa using hm
            exact hl2 h hm (Nat.le_of_ble_eq_true hk) b cp hρ
      · rename_i h' off n
        cases hH' : H h' with
        | none => simp [hH'] at hv'
        | some o => cases o with
          | box => simp [hH'] at hv'
          | gone => simp [hH'] at hv'
          | row e' sz' fr' fz' els' =>
            simp only [hH', Option.some.injEq, Prod.mk.injEq, Bool.and_eq_true] at hv'
            obtain ⟨⟨_, hk⟩, _, rfl⟩ := hv'
            obtain rfl : h = h' := by simpa using hm
            exact hl2 h hm (Nat.le_of_ble_eq_true hk) b cp hρ
      · cases hv'

/-! ### Loads -/
theorem pvr_flag (hs : ∀ b, F2 b → F1 b) {fr : Bool} {v : PV} {c : Value} (h : PVR w (flagF fr F1 F2) v c) : PVR w (flagF (fr || v.flatB) F1 F2) v c := by
  cases fr with
  | true => exact h
  | false =>
    rw [Bool.false_or]
    cases hv : v.flatB with
    | false => exact h
    | true => exact h.flat hv
theorem loadCells_ok (hT : tabOk P T = true) (hh : HeapR k0 w F1 F2 ρ H) {fr : Bool} {t : TypeId} {cs : List PV} {rd : List Nat} {ad : Addr}
    (hc : ∀ i v, cs[i]? = some v → ∃ c, w.cell? (ad.add i) = some c ∧ PVR w (flagF fr F1 F2) v c) : StepOk P k0 w F1 F2 ρ H (Instr.loadAt t (.pointer (some ad))) (loadCells T fr t cs rd) := by
  unfold Ev.loadCells
  split
  · rename_i d ht
    have hty := tyOk hT ht
    split
    · rename_i hagg
      intro hle
      have hle : d.size ≤ cs.length := hle
      have hall : ∀ i, i < d.size → ∃ c, w.cell? (ad.add i) = some c ∧ ∀ v, cs[i]? = some v → PVR w (flagF fr F1 F2) v c := by
        intro i hi
        obtain ⟨c, h1, h2⟩ := hc i cs[i] (by rw [List.getElem?_eq_getElem (by omega)])
        exact ⟨c, h1, fun v hv => by rw [List.getElem?_eq_getElem (by omega)] at hv; obtain rfl := Option.some.inj hv; exact h2⟩
      let f : Nat → Value := fun i => ((w.cell? (ad.add i)).getD undef)
      have hf : ∀ j, j < d.size → w.cell? (ad.add j) = some (f j) := fun j hj => by obtain ⟨c, h1, _⟩ := hall j hj; simp [f, h1]
      have hrun := run_loadCells (P := P) (w := w) ad d.size f hf
      refine VRuns.pure hh (c := .agg ((List.range d.size).map f).toArray) ?_ ?_
      · rw [show Instr.loadAt t (.pointer (some ad)) = loadVar t ad from rfl]
        simp only [loadVar, Sem.run_bind, hty.isAgg, Result.andThen_ok, hagg, if_true, hty.sizeOf, hrun, Sem.run_pure]
      · refine .agg _ _ (by simp; omega) fun i v hv => ?_
        rw [List.getElem?_map, List.getElem?_take] at hv
        split at hv
        · rename_i hi
          cases hci : cs[i]? with
          | none => simp [hci] at hv
          | some x =>
            simp only [hci, Option.map_some, Option.some.injEq] at hv
            subst hv
            obtain ⟨c, h1, h2⟩ := hall i hi
            have : (((List.range d.size).map f).toArray).getD i undef = c := by simp [Array.getD_eq_getD_getElem?, hi, f, h1]
            rw [this]
            exact .p _ _ _ (pvr_flag hh.sub (h2 x hci))
        · simp at hv
    · rename_i hagg
      split
      · rename_i v r
        obtain ⟨c, h1, h2⟩ := hc 0 v (by simp)
        rw [show ad.add 0 = ad by simp [Addr.add]] at h1
        refine fun _ => VRuns.pure hh (c := c) ?_ (.p _ _ _ (pvr_flag hh.sub h2))
        rw [show Instr.loadAt t (.pointer (some ad)) = loadVar t ad from rfl]
        simp only [loadVar, Sem.run_bind, hty.isAgg, Result.andThen_ok, hagg, if_false, Bool.false_eq_true]
        simp [load, Sem.run, h1]
      · trivial
  · trivial
theorem loadEl_ok (hT : tabOk P T = true) (hh : HeapR k0 w F1 F2 ρ H) {fr : Bool} {t : TypeId} {sz off : Nat} {x : PV} {rd : List Nat} {ad : Addr}
    (hc : ∀ i v, (x.cells.drop off)[i]? = some v → ∃ c, w.cell? (ad.add i) = some c ∧ PVR w (flagF fr F1 F2) v c) : StepOk P k0 w F1 F2 ρ H (Instr.loadAt t (.pointer (some ad))) (loadEl T fr t sz off x rd) := by
  unfold loadEl
  split
  · rename_i hb
    simp only [Bool.and_eq_true] at hb
    obtain rfl := Nat.eq_of_beq_eq_true hb.2
    split
    · rename_i d ht
      split
      · rename_i hagg
        intro hx
        have hx : x.cells = [x] := hx
        have h := loadCells_ok (fr := fr) (t := t) (cs := [x]) (rd := rd) hT hh (ad := ad) (by rw [hx] at hc; exact hc)
        unfold Ev.loadCells at h
        rw [ht] at h
        simp only [hagg] at h
        exact h trivial
      · exact loadCells_ok hT hh hc
    · trivial
  · exact loadCells_ok hT hh hc
theorem evalLoad_ok (hT : tabOk P T = true) (hh : HeapR k0 w F1 F2 ρ H) (t : TypeId) {a : AV} {x : Value} (ha : AVR w F1 F2 ρ H a x) : StepOk P k0 w F1 F2 ρ H (Instr.loadAt t x) (evalLoad T H t a) := by
  unfold evalLoad
  split
  · rename_i h off
    cases ha with | ptr _ _ b cp o ho hr =>
    split
    · rename_i cs d hH ht
      have hty := tyOk hT ht
      obtain ⟨b', cp', cur, ty, h1, h2, h3, h4⟩ := hh.obj h _ hH
      rw [hr] at h1
      obtain ⟨rfl, rfl⟩ := Prod.mk.inj (Option.some.inj h1)
      have hcell : ∀ i, i < cs.length → w.cell? ⟨b, i, none⟩ = some (cur.getD i undef) := fun i hi => by
        simp [World.cell?, h2, Array.getD_eq_getD_getElem?, show i < cur.size by omega]
      split
      · rename_i hagg
        intro hle
        have hle : off + d.size ≤ cs.length := hle
        have hrun := run_loadCells (P := P) (w := w) ⟨b, off, none⟩ d.size (fun j => cur.getD (off + j) undef) (fun j hj => by rw [Addr.add_mid]; exact hcell _ (by omega))
        refine VRuns.pure hh (c := .agg ((List.range d.size).map (fun j => cur.getD (off + j) undef)).toArray) ?_ ?_
        · rw [show Instr.loadAt t (.pointer (some ⟨b, off, none⟩)) = loadVar t ⟨b, off, none⟩ from rfl]
          simp only [loadVar, Sem.run_bind, hty.isAgg, Result.andThen_ok, hagg, if_true, hty.sizeOf, hrun, Sem.run_pure]
        · refine .agg _ _ (by simp; omega) fun i v hv => ?_
          rw [List.getElem?_take] at hv
          split at hv
          · rename_i hi
            rw [List.getElem?_drop] at hv
            have : (((List.range d.size).map (fun j => cur.getD (off + j) undef)).toArray).getD i undef = cur.getD (off + i) undef := by simp [Array.getD_eq_getD_getElem?, hi]
            rw [this]
            exact h4 _ v hv
          · cases hv
      · rename_i hagg
        split
        · rename_i v r hd
          have hv : cs[off]? = some v := by
            have := congrArg (fun l => l[0]?) hd
            simpa [List.getElem?_drop] using this
          have hlt : off < cs.length := by
            rcases Nat.lt_or_ge off cs.length with h | h
            · exact h
            · simp [List.getElem?_eq_none h] at hv
          refine fun _ => VRuns.pure hh (c := cur.getD off undef) ?_ (h4 _ v hv)
          rw [show Instr.loadAt t (.pointer (some ⟨b, off, none⟩)) = loadVar t ⟨b, off, none⟩ from rfl]
          simp only [loadVar, Sem.run_bind, hty.isAgg, Result.andThen_ok, hagg, if_false, Bool.false_eq_true]
          simp [load, Sem.run, hcell off hlt]
        · trivial
    · trivial
  · cases ha with | eptr _ _ ad hsp hf hc => exact loadCells_ok hT hh hc
  · rename_i h i off
    split
    · rename_i e sz fr fz els hH
      rw [withDfl_eq]
      cases ha with | rptr _ _ _ _ o ho _ hr =>
      rw [hH] at ho
      obtain rfl := Option.some.inj ho
      obtain ⟨hi, g, cap, hρ, rfl⟩ := hr _ _ _ _ _ rfl
      obtain ⟨h1, h2, h3⟩ := hh.row hH
      rw [hρ] at h3
      obtain ⟨cur, h4, h5, h6, h7, h8, h9⟩ := h3
      refine loadEl_ok hT hh fun j v hv => ?_
      rw [List.getElem?_drop] at hv
      have hx : els[i]? = some (els.getD i (dfl T e)) := by simp [List.getD_eq_getElem?_getD, List.getElem?_eq_getElem hi]
      have hj : off + j < sz := by
        rcases Nat.lt_or_ge (off + j) (els.getD i (dfl T e)).cells.length with h | h
        · rwa [h2 _ (List.mem_of_getElem? hx)] at h
        · rw [List.getElem?_eq_none h] at hv
          cases hv
      have hfl := flat_get h2 i (off + j) _ hx hj
      rw [hv] at hfl
      refine ⟨cur.getD (i * sz + (off + j)) undef, ?_, h8 _ _ hfl⟩
      have : i * sz + (off + j) < cur.size := by
        rw [h7]
        have h10 : (i + 1) * sz ≤ cap * sz := Nat.mul_le_mul_right _ (by omega)
        rw [Nat.add_mul] at h10
        omega
      rw [Addr.add_mid, Nat.add_assoc]
      simp [World.cell?, h4, Array.getD_eq_getD_getElem?, this]
    · trivial
  · trivial
end
end Go.Proofs.Ytjgmlkogppibfaa.Ev
