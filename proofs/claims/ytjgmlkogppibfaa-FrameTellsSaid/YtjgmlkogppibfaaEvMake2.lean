/- What each operation of the program comes to is what the reckoner says: slices made. No conditions. -/
import Derived.Test.YtjgmlkogppibfaaEvMake
namespace Go.Proofs.Ytjgmlkogppibfaa.Ev
open Go
set_option linter.unusedVariables false
set_option linter.unusedSimpArgs false
section
variable {P : Program} {T : Tab} {k0 : Nat} {w : World} {F1 F2 : Nat → Prop} {ρ : Nat → Option (Nat × Nat)} {H : Hp}

theorem flat_flatV {F : Nat → Prop} : ∀ {els : List PV} {cvs : List Value}, cvs.length = els.length → (∀ (i : Nat) (x : PV), els[i]? = some x → ∃ c : Value, cvs[i]? = some c ∧ ElR w F x c) →
    ∀ (i : Nat) (v : PV), (flat els)[i]? = some v → ∃ c : Value, (flatV cvs)[i]? = some c ∧ PVR w F v c
  | [], _, _, _, i, v, h => by simp [flat] at h
  | x :: l, [], hl, _, _, _, _ => by simp at hl
  | x :: l, c :: r, hl, he, i, v, h => by
    obtain ⟨c', h1, h2⟩ := he 0 x (by simp)
    obtain rfl : c = c' := by simpa using h1
    have hfv : flatV (c :: r) = c.cells.toList ++ flatV r := by simp [flatV]
    rw [flat_cons] at h
    rw [hfv]
    rcases Nat.lt_or_ge i x.cells.length with hi | hi
    · rw [List.getElem?_append_left hi] at h
      have hs : i < c.cells.size := by rw [h2.1]; exact hi
      refine ⟨c.cells.getD i undef, ?_, h2.2 i v h⟩
      rw [List.getElem?_append_left (by simpa using hs)]
      simp [Array.getD_eq_getD_getElem?, hs]
    · rw [List.getElem?_append_right hi] at h
      obtain ⟨c2, h3, h4⟩ := flat_flatV (els := l) (cvs := r) (by simpa using hl) (fun j y hy => by simpa using he (j + 1) y (by simpa using hy)) _ v h
      refine ⟨c2, ?_, h4⟩
      rw [List.getElem?_append_right (by simp [h2.1, hi]), Array.length_toList, h2.1]
      exact h3
theorem lensAre_ok {sz : Nat} : ∀ {els : List PV}, lensAre sz els = true → ∀ x ∈ els, x.cells.length = sz
  | [], _, x, hx => by simp at hx
  | y :: r, h, x, hx => by
    simp only [lensAre, Bool.and_eq_true] at h
    rcases List.mem_cons.1 hx with rfl | h2
    · exact Nat.eq_of_beq_eq_true h.1
    · exact lensAre_ok h.2 x h2
theorem upd_upd (o : Ob) (nx : Nat) (l : List (Nat × Ob)) : upd (upd H l) [(nx, o)] = upd H ((nx, o) :: l) := by
  rw [upd_cons, upd_cons]
  rfl
theorem getD_of_getA {vs : Array Value} {i : Nat} {v : Value} (h : vs[i]? = some v) : vs.getD i undef = v := by simp [Array.getD_eq_getD_getElem?, h]

/-- A new row, behind rows that are written no more. -/
theorem Chg.newRow (hh : HeapR k0 w F1 F2 ρ H) {nx : Nat} (hn : H nx = none) {w' : World} {cur : Array Value} {e : TypeId} (hw : w'.heap = w.heap.push (.cells cur e)) (h1 : w'.os = w.os) (h2 : w'.tape = w.tape) (h3 : w'.output = w.output)
    (cap sz : Nat) (fr : Bool) {els : List PV} (hsz : 0 < sz) (hce : ∀ x ∈ els, x.cells.length = sz) (hcap : els.length ≤ cap) (hmax : cap ≤ maxLen) (hcur : cur.size = cap * sz)
    (hv : ∀ i v, (flat els)[i]? = some v → PVR w (flagF fr F1 F2) v (cur.getD i undef)) :
    Chg k0 w F1 F2 ρ H w' (upd H [(nx, .row e sz fr false els)]) F1 F2 (updR ρ nx (some (w.heap.size, cap))) := by
  refine Chg.alloc hh hn hw h1 h2 h3 cap fun tr => ⟨hsz, hce, ?_⟩
  rw [updR_same]
  exact ⟨cur, by rw [hw]; simp, hcap, hmax, hcur, fun i v hi => tr.pvr hh.sub fr (hv i v hi), fun h => by cases h⟩
theorem buildSlice_ok (hT : tabOk P T = true) (hh : HeapR k0 w F1 F2 ρ H) {e : Env} {a : Act} (he : EnvR w F1 F2 ρ H e a) {nx : Nat} (hn : H nx = none) (t : TypeId) (len : Nat) (parts : Array (Nat × Operand)) {ps : List (Nat × AV)} (hps : evalParts e parts.toList = some ps) :
    StepOk P k0 w F1 F2 ρ H (Instr.buildSlice t len (parts.map fun (i, x) => (i, a.eval x))) (evalBuildSlice T H k0 nx t len ps) := by
  unfold evalBuildSlice
  split
  · rename_i d ht
    have hty := tyOk hT ht
    split
    · rename_i el hk
      split
      · rename_i de vs hde hvs
        have hte := tyOk hT hde
        split
        · rename_i fr els rd hlen hview
          split
          · rename_i hb
            simp only [Bool.and_eq_true] at hb
            obtain ⟨⟨⟨⟨hb1, hb2⟩, hb3⟩, hb4⟩, hb5⟩ := hb
            intro _
            have hlen := Nat.eq_of_beq_eq_true hlen
            have hsmall := Nat.le_of_ble_eq_true hb3
            have hpos := Nat.le_of_ble_eq_true hb4
            have hz : de.zero ≠ [] := by intro h0; rw [h0] at hb5; simp at hb5
            obtain ⟨z, _, ⟨ie, hie, hiz⟩, hz2, hz3⟩ := hte.zeroRun (w := w) hz F2
            obtain ⟨ie', hie', hsize, hbytes⟩ := hte.info
            rw [hie] at hie'
            obtain rfl := Option.some.inj hie'
            obtain ⟨hl1, hl2⟩ := evalParts_ok he hps
            obtain ⟨ho1, ho2⟩ := inOrder_ok hvs
            let cvs : List Value := parts.toList.map fun x => a.eval x.2
            have hcl : cvs.length = len := by
              show (parts.toList.map fun x => a.eval x.2).length = len
              rw [List.length_map]
              omega
            have hget : ∀ (i : Nat) (v : AV), vs[i]? = some v → ∃ c : Value, cvs[i]? = some c ∧ AVR w F1 F2 ρ H v c := by
              intro i v hv
              have hi : i < ps.length := by rw [← ho1]; exact (List.getElem?_eq_some_iff.1 hv).1
              rcases hp : ps[i] with ⟨j, u⟩
              have hp' : ps[i]? = some (j, u) := by rw [List.getElem?_eq_getElem hi, hp]
              obtain ⟨_, h4⟩ := ho2 i j u hp'
              rw [hv] at h4
              obtain rfl := Option.some.inj h4
              obtain ⟨x, h5, h6⟩ := hl2 i j v hp'
              exact ⟨a.eval x, by simp [cvs, h5], h6⟩
            have hparts : (parts.map fun (i, x) => (i, a.eval x)).toList = (cvs.zipIdx 0).map fun x => (x.2, x.1) := by
              apply List.ext_getElem?
              intro i
              rw [Array.toList_map, List.getElem?_map, List.getElem?_map, List.getElem?_zipIdx]
              simp only [cvs, List.getElem?_map]
              rcases Nat.lt_or_ge i parts.toList.length with hi | hi
              · rcases hx : parts.toList[i] with ⟨j, x⟩
                have hx' : parts.toList[i]? = some (j, x) := by rw [List.getElem?_eq_getElem hi, hx]
                have hi2 : i < ps.length := by omega
                rcases hp : ps[i] with ⟨j', u⟩
                have hp' : ps[i]? = some (j', u) := by rw [List.getElem?_eq_getElem hi2, hp]
                obtain ⟨h3, _⟩ := ho2 i j' u hp'
                obtain ⟨x', h4, _⟩ := hl2 i j' u hp'
                rw [hx'] at h4
                obtain ⟨rfl, rfl⟩ := Prod.mk.inj (Option.some.inj h4)
                rw [hx']
                simp
                omega
              · rw [List.getElem?_eq_none hi]
                rfl
            have hfz := Chg.freeze hh rd
            have hG : ∀ b, (F2 b ∨ ∃ h ∈ rd, k0 ≤ h ∧ RowB ρ H h b) → (F1 b ∨ ∃ h ∈ rd, RowB ρ H h b) := fun b hb => hfz.heap.sub b hb
            have hrowb : ∀ h ∈ rd, ∀ b cp, ρ h = some (b, cp) → RowB ρ H h b := by
              intro h hm b cp hr
              obtain ⟨e0, sz0, fr0, fz0, els0, h0⟩ := viewEls_rows hview h hm
              exact ⟨e0, sz0, fr0, fz0, els0, cp, h0, hr⟩
            obtain ⟨hel1, hel2⟩ := viewEls_ok hh (fun b => F1 b ∨ ∃ h ∈ rd, RowB ρ H h b) (fun b => F2 b ∨ ∃ h ∈ rd, k0 ≤ h ∧ RowB ρ H h b) (fun b h => .inl h) (fun b h => .inl h) hG hview cvs (by omega) hget
              (fun h hm b cp hr => .inr ⟨h, hm, hrowb h hm b cp hr⟩) (fun h hm hk b cp hr => .inr ⟨h, hm, hk, hrowb h hm b cp hr⟩)
            have hce := lensAre_ok hb1
            have hcs : ∀ c ∈ cvs, c.cells.size = de.size := by
              intro c hc
              obtain ⟨i, hi⟩ := List.mem_iff_getElem?.1 hc
              have hi' : i < els.length := by rw [hel1, hlen, ← hcl]; exact (List.getElem?_eq_some_iff.1 hi).1
              obtain ⟨c', h3, h4⟩ := hel2 i els[i] (by rw [List.getElem?_eq_getElem])
              rw [hi] at h3
              obtain rfl := Option.some.inj h3
              rw [h4.1]
              exact hce _ (List.getElem_mem _)
            have hflat := flat_flatV (w := w) (els := els) (cvs := cvs) (by omega) hel2
            have hrun : ∃ cells : Array Value, (Instr.buildSlice t len (parts.map fun (i, x) => (i, a.eval x))).run P w = .ok (.slice (some ⟨w.heap.size, 0, none⟩) len len) (w.alloc (.cells cells el)) ∧ cells.size = len * de.size ∧ ∀ k, k < len * de.size → cells[k]? = (flatV cvs)[k]? := by
              by_cases h0 : len = 0
              · subst h0
                have hp0 : (parts.map fun (i, x) => (i, a.eval x)).toList = [] := by rw [hparts, List.eq_nil_of_length_eq_zero hcl]; rfl
                have hp1 : (parts.map fun (i, x) => (i, a.eval x)) = #[] := Array.ext' hp0
                refine ⟨#[], ?_, by simp, fun k hk => by simp at hk⟩
                rw [hp1]
                simp [Instr.buildSlice, run_underlying (hty.slice hk), hte.sizeOf, hp0, Instr.fill, newRow, newObj, Sem.run, Array.range_zero']
              · obtain ⟨cells, hf1, hf2, hf3⟩ := fill_seq de.size cvs 0 ((Array.range (len * ie.size)).map (z.cells[· % z.cells.size]!)) hcs (by simp [hsize, hcl])
                refine ⟨cells, run_buildSlice w t el len _ cells ie z (hty.slice hk) hie hiz (by rw [hsize]; omega) (by rw [hsize]; exact Nat.mul_ne_zero h0 (by omega)) (by rw [hparts, hsize]; rw [hsize] at hf1; exact hf1), by rw [hf2]; simp [hsize], fun k hk => ?_⟩
                rw [hf3 k, if_pos (by simp [hcl, hk])]
                simp
            obtain ⟨cells, hr1, hr2, hr3⟩ := hrun
            have hnr := Chg.newRow (w' := w.alloc (.cells cells el)) (cap := len) (sz := de.size) (fr := fr) (els := els) (cur := cells) (e := el) (nx := nx) hfz.heap (by rw [upd_freeze]; split <;> simp [hn]) rfl rfl rfl rfl hpos hce (by omega) (by unfold maxLen; have := Nat.le_mul_of_pos_right len hpos; omega) hr2
              (fun i v hi => by
                obtain ⟨c, h3, h4⟩ := hflat i v hi
                have hlt : i < len * de.size := by
                  have := (List.getElem?_eq_some_iff.1 hi).1
                  rw [flat_length hce, hel1, hlen] at this
                  exact this
                rw [getD_of_getA ((hr3 i hlt).trans h3)]
                exact h4)
            have hcomp := hfz.comp hnr
            rw [upd_upd] at hcomp
            refine ⟨_, _, _, _, _, hr1, hcomp, .rowf nx _ (.row el de.size fr false els) (by simp [upd, look_cons_same]) ⟨_, _, _, rfl⟩ fun e' sz' fr' fz' els' hx => ?_⟩
            obtain ⟨rfl, rfl, rfl, rfl, rfl⟩ := Ob.row.inj hx
            rw [updR_same]
            exact ⟨by omega, _, by rw [hel1, hlen]; rfl, fun _ => by simp⟩
          · trivial
        · trivial
      · trivial
    · trivial
  · trivial
end
end Go.Proofs.Ytjgmlkogppibfaa.Ev
