/- What each operation of the program comes to is what the reckoner says: make, copy, stores, conversions. No conditions. -/
import Derived.Test.YtjgmlkogppibfaaEvAppend2
namespace Go.Proofs.Ytjgmlkogppibfaa.Ev
open Go
set_option linter.unusedVariables false
set_option linter.unusedSimpArgs false
section
variable {P : Program} {T : Tab} {k0 : Nat} {w : World} {F1 F2 : Nat → Prop} {ρ : Nat → Option (Nat × Nat)} {H : Hp}

theorem evalMake_ok (hT : tabOk P T = true) (hh : HeapR k0 w F1 F2 ρ H) {nx : Nat} (hn : H nx = none) (t : TypeId) {a b : AV} {x y : Value} (ha : AVR w F1 F2 ρ H a x) (hb : AVR w F1 F2 ρ H b y) :
    StepOk P k0 w F1 F2 ρ H (Instr.makeSlice t x y) (evalMake T nx t a b) := by
  unfold evalMake
  split
  · rename_i f1 k1 l f2 k2 c
    cases ha with | p _ _ _ ha => cases ha with | int => cases hb with | p _ _ _ hb => cases hb with | int =>
    split
    · rename_i d ht
      split
      · rename_i e hk
        split
        · rename_i de hde
          split
          · rename_i hcond
            simp only [Bool.and_eq_true] at hcond
            have hsz : 0 < de.size := Nat.le_of_ble_eq_true hcond.1
            have hzl := Nat.eq_of_beq_eq_true hcond.2
            intro hc
            obtain ⟨⟨h0, h1⟩, h2, h3⟩ : (0 ≤ l ∧ l ≤ c) ∧ c * de.bytes ≤ 140737488355328 ∧ c ≤ 140737488355328 := hc
            have hte := tyOk hT hde
            have hz : de.zero ≠ [] := by intro h0; rw [h0] at hzl; simp at hzl; omega
            obtain ⟨z, _, ⟨i, hi, hiz⟩, hz2, hz3⟩ := hte.zeroRun (w := w) hz F2
            obtain ⟨i', hi', hsize, hbytes⟩ := hte.info
            rw [hi] at hi'
            obtain rfl := Option.some.inj hi'
            have hr := run_make (P := P) w t e i z ((tyOk hT ht).slice hk) hi hiz k1 k2 l c h0 h1 (by rw [hbytes, Int.mul_comm]; omega) (by omega)
            obtain ⟨hce, hzv⟩ := zeros_show (w := w) (F := flagF true F1 F2) hsz hzl hz2 hz3 c.toNat
            have hnr := Chg.newRow (nx := nx) (cap := c.toNat) (sz := de.size) (fr := true) (els := List.replicate c.toNat (match de.zero with | [x] => x | zs => PV.agg zs)) (e := e) (w' := w.alloc (.cells (madeCells z.cells (c.toNat * i.size)) e)) hh hn rfl rfl rfl rfl hsz hce (by simp) (by unfold maxLen; omega)
              (by rw [size_madeCells, hsize]) (fun j v hj => by
                obtain ⟨h4, h5⟩ := hzv j v hj
                rw [getD_of_getA (v := z.cells[j % z.cells.size]!) (by unfold madeCells; simp [hsize, h4])]
                exact h5)
            refine ⟨_, _, _, _, _, hr, hnr, .row nx _ _ _ _ (upd_head _ _ _) ⟨_, _, _, rfl⟩ fun e' sz' fr' fz' els' hx => ?_⟩
            obtain ⟨rfl, rfl, rfl, rfl, rfl⟩ := Ob.row.inj hx
            rw [updR_same]
            exact ⟨⟨by omega, some ⟨w.heap.size, 0, none⟩, by simp, fun _ => by simp⟩, by simp; omega⟩
          · trivial
        · trivial
      · trivial
    · trivial
  · trivial
/-- A store. -/
def StOk (P : Program) (k0 : Nat) (w : World) (F1 F2 : Nat → Prop) (ρ : Nat → Option (Nat × Nat)) (H : Hp) (s : Sem Unit) : Step → Prop
  | .ok cs none _ ups => allP cs → ∃ w' F1' F2' ρ', s.run P w = .ok () w' ∧ Chg k0 w F1 F2 ρ H w' (upd H ups) F1' F2' ρ'
  | .bad => True
  | _ => False
theorem run_storeAt {t : TypeId} {b off : Nat} {c : Value} {cur : Array Value} {ty : TypeId} (hg : w.heap[b]? = some (.cells cur ty (0, 0))) {n : Nat} (hs : (sizeOf t).run P w = .ok n w) (hc : c.cells.size = n) (hle : off + n ≤ cur.size) (h1 : ∀ v ∈ c.cells.toList, v.oneCell' = true) :
    (Instr.storeAt t (.pointer (some ⟨b, off, none⟩)) c).run P w = .ok () (w.setCells b off c.cells.toList) := by
  have := run_storeCells_cells (P := P) b off c.cells.toList 0 w (fun j hj => by simp at hj; simp [World.cell?, hg, show off + j < cur.size by omega]) (fun j hj => by simp [World.frozen?, hg]) h1
  simp only [Nat.add_zero] at this
  simp [Instr.storeAt, Instr.sureAddr, storeVar, hs, hc, this]
theorem cells_ones {a : AV} {c : Value} (ha : AVR w F1 F2 ρ H a c) (h : a.cells.all AV.one = true) : ∀ v ∈ c.cells.toList, v.oneCell' = true := by
  obtain ⟨h1, h2⟩ := avr_cells ha
  intro v hv
  obtain ⟨i, hi⟩ := List.mem_iff_getElem?.1 hv
  have hlt := (List.getElem?_eq_some_iff.1 hi).1
  have hlt2 : i < a.cells.length := by rw [← h1]; simpa using hlt
  have h3 := h2 i _ (List.getElem?_eq_getElem hlt2)
  rw [getD_of_get hi] at h3
  exact (cells_one h3 (List.all_eq_true.1 h _ (List.getElem_mem hlt2))).1
theorem evalStore_ok (hT : tabOk P T = true) (hh : HeapR k0 w F1 F2 ρ H) (t : TypeId) {a v : AV} {x y : Value} (ha : AVR w F1 F2 ρ H a x) (hv : AVR w F1 F2 ρ H v y) : StOk P k0 w F1 F2 ρ H (Instr.storeAt t x y) (evalStore T H t a v) := by
  unfold evalStore
  split
  · rename_i h off
    cases ha with | ptr _ _ b cp o ho hr =>
    split
    · rename_i cs d hH ht
      split
      · rename_i hones
        intro hc
        obtain ⟨h1, h2⟩ : off + d.size ≤ cs.length ∧ v.cells.length = d.size := hc
        obtain ⟨b', cp', cur, ty, q1, q2, q3, q4⟩ := hh.obj h _ hH
        rw [hr] at q1
        obtain ⟨rfl, rfl⟩ := Prod.mk.inj (Option.some.inj q1)
        obtain ⟨e1, e2⟩ := avr_cells hv
        have hrun := run_storeAt (P := P) (t := t) (off := off) q2 ((tyOk hT ht).sizeOf w) (by omega) (by omega) (cells_ones hv hones)
        obtain ⟨cur', r1, r2, r3, r4, r5, r6, r7, r8⟩ := setCells_heap b y.cells.toList off w cur ty (0, 0) q2 (by simp; omega)
        refine ⟨_, _, _, _, hrun, Chg.put (ob := .box (setMany cs off v.cells)) hh hH trivial hr r4 r5 r6 r7 r8 trivial ⟨fun _ _ _ _ _ h => (by cases h), fun h => h⟩ fun tr => ⟨b, cp, cur', ty, hr, r1, by rw [r2, setMany_length]; exact q3, fun i u hu => ?_⟩⟩
        rw [setMany_get _ _ _ _ (by omega)] at hu
        rw [Array.getD_eq_getD_getElem?, r3 i]
        by_cases hi : off ≤ i ∧ i < off + v.cells.length
        · rw [if_pos hi] at hu
          rw [if_pos (by simp; omega)]
          have := e2 _ u hu
          rw [Array.getD_eq_getD_getElem?] at this
          simp only [Array.getElem?_toList]
          exact this.mono tr hh.sub
        · rw [if_neg hi] at hu
          rw [if_neg (by simp; omega), ← Array.getD_eq_getD_getElem?]
          exact (q4 i u hu).mono tr hh.sub
      · trivial
    · trivial
  · rename_i h i
    split
    · rename_i e fr els f wv d hH ht
      split
      · rename_i hd1
        intro _
        have hd1 := Nat.eq_of_beq_eq_true hd1
        cases ha with | rptr _ _ _ _ o ho _ hr =>
        rw [hH] at ho
        obtain rfl := Option.some.inj ho
        obtain ⟨hi, g, cap, hρ, rfl⟩ := hr _ _ _ _ _ rfl
        obtain ⟨_, q1, q2⟩ := hh.row hH
        rw [hρ] at q2
        obtain ⟨cur, q3, q4, q5, q6, q7, _⟩ := q2
        cases hv with | p _ _ _ hv =>
        have hcell : wv.cells = [wv] := hv.cells1
        have hvc := hv.vcells
        have hrun := run_storeAt (P := P) (t := t) (off := i * 1 + 0) (c := y) q3 ((tyOk hT ht).sizeOf w) (by rw [hvc, hd1]; rfl) (by omega) (by rw [hvc]; intro v hv'; simp at hv'; subst hv'; exact hv.one)
        rw [hvc] at hrun
        obtain ⟨cur', r1, r2, r3, r4, r5, r6, r7, r8⟩ := setCells_heap g [y] (i * 1 + 0) w cur e (0, 0) q3 (by simp; omega)
        have hall : ∀ x ∈ els.set i wv, x.cells.length = 1 := by
          intro x hx
          rcases List.mem_or_eq_of_mem_set hx with h | h
          · exact q1 x h
          · rw [h, hcell]; rfl
        have hone : ∀ {l : List PV} {cc : Array Value} {F : Nat → Prop}, (∀ x ∈ l, x.cells.length = 1) → (∀ (j : Nat) (v : PV), (flat l)[j]? = some v → PVR w F v (cc.getD j undef)) → ∀ x ∈ l, x.cells.length = 1 := fun h _ => h
        refine ⟨_, _, _, _, hrun, Chg.put (ob := .row e 1 (fr && f) false (els.set i wv)) hh hH rfl hρ r4 r5 r6 r7 r8 rfl ⟨fun e' sz' fr' fz' els' hx => ?_, fun h => rfl⟩ fun tr => ⟨by omega, hall, ?_⟩⟩
        · obtain ⟨rfl, rfl, rfl, rfl, rfl⟩ := Ob.row.inj hx
          exact ⟨_, _, _, rfl, by simp⟩
        · rw [hρ]
          refine ⟨cur', r1, by simpa using q4, q5, by rw [r2]; exact q6, fun j u hj => ?_, fun h => by cases h⟩
          have hjl := (List.getElem?_eq_some_iff.1 hj).1
          rw [flat_length hall, List.length_set, Nat.mul_one] at hjl
          have hset : (els.set i wv)[j]? = some ((els.set i wv).getD j .nilsl) := by simp [List.getD_eq_getElem?_getD, List.getElem?_eq_getElem (show j < (els.set i wv).length by simpa using hjl)]
          have hfg := flat_get hall j 0 _ hset (by omega)
          rw [Nat.mul_one, Nat.add_zero, hj] at hfg
          rw [Array.getD_eq_getD_getElem?, r3 j]
          have hfl : ∀ (q' : Bool), (q' = true ∨ (fr && f) = false) → ∀ b, flagF q' F1 F2 b → flagF (fr && f) F1 F2 b := by
            intro q' hq b hb
            cases hff : (fr && f) with
            | false => exact flagF_sub hh.sub q' b hb
            | true =>
              rcases hq with rfl | hq
              · exact hb
              · rw [hff] at hq; cases hq
          by_cases hij : j = i
          · subst hij
            rw [if_pos (by simp)]
            have hx : (els.set j wv).getD j .nilsl = wv := by simp [List.getD_eq_getElem?_getD, hi]
            rw [hx, hcell] at hfg
            obtain rfl : u = wv := by simpa using hfg
            rw [show j - (j * 1 + 0) = 0 by omega, List.getElem?_cons_zero, Option.getD_some]
            exact tr.pvr hh.sub _ (hv.mono (fun _ _ => rfl) (hfl f (by cases fr <;> cases f <;> simp)))
          · rw [if_neg (by simp; omega), ← Array.getD_eq_getD_getElem?]
            have hx : els[j]? = some ((els.set i wv).getD j .nilsl) := by
              rw [List.getElem?_set, if_neg (Ne.symm hij)] at hset
              exact hset
            have hfg2 := flat_get q1 j 0 _ hx (by omega)
            rw [Nat.mul_one, Nat.add_zero, ← hfg] at hfg2
            exact tr.pvr hh.sub _ ((q7 j u hfg2).mono (fun _ _ => rfl) (hfl fr (by cases fr <;> cases f <;> simp)))
      · trivial
    · trivial
  · trivial
theorem evalCopy_ok (hT : tabOk P T = true) (hh : HeapR k0 w F1 F2 ρ H) (t t2 ty : TypeId) {a b : AV} {x y : Value} (ha : AVR w F1 F2 ρ H a x) (hb : AVR w F1 F2 ρ H b y) :
    StepOk P k0 w F1 F2 ρ H (Builtin.copy_ #[t, t2] ty #[x, y]) (evalCopy T H k0 t t2 a b) := by
  unfold evalCopy
  split
  · rename_i d d2 ht ht2
    split
    · rename_i e e2 hk hk2
      split
      · rename_i h n f2 els2 rd2 hsz hview
        split
        · rename_i e' fr els hH
          intro hc
          have hc : els2.all (fun v => Nat.beq v.cells.length 1) = true := hc
          have hce2 : ∀ v ∈ els2, v.cells.length = 1 := fun v hv => Nat.eq_of_beq_eq_true (List.all_eq_true.1 hc v hv)
          cases ha with | row _ _ _ _ o ho _ hr =>
          rw [hH] at ho
          obtain rfl := Option.some.inj ho
          obtain ⟨hs, hle⟩ := hr _ _ _ _ _ rfl
          obtain ⟨_, q1, q2⟩ := hh.row hH
          obtain ⟨B, cap2, rfl, hshow⟩ := viewShow hh hb hview
          have hty := (tyOk hT ht).slice hk
          have hsi : (P.info? e).map (·.size) = some 1 := by
            unfold szOk at hsz
            split at hsz
            · rename_i de hde
              obtain ⟨i, h1, h2, _⟩ := (tyOk hT hde).info
              rw [h1, Option.map_some, h2, Nat.eq_of_beq_eq_true hsz]
            · cases hsz
          have hfl1 : ∀ (q' : Bool), (q' = true ∨ (fr && f2) = false) → ∀ b, flagF q' F1 F2 b → flagF (fr && f2) F1 F2 b := by
            intro q' hq b hb
            cases hff : (fr && f2) with
            | false => exact flagF_sub hh.sub q' b hb
            | true =>
              rcases hq with rfl | hq
              · exact hb
              · rw [hff] at hq; cases hq
          have hzero : ∀ (A : Option Addr) (cp : Nat), min els2.length n = 0 → (Builtin.copy_ #[t, t2] ty #[.slice A n cp, .slice B els2.length cap2]).run P w = .ok (.int .i64 ((min els2.length n : Nat) : Int)) w := by
            intro A cp hm
            rw [hm]
            exact run_copy_none w t t2 ty e A B n cp els2.length cap2 hty hsi hm
          cases hρ : ρ h with
          | none =>
            rw [hρ] at hs q2
            simp only at q2
            subst q2
            obtain ⟨_, rfl, A, rfl⟩ := hs
            have hm : min els2.length 0 = 0 := by omega
            rw [hm]
            simp only [List.take_zero, List.drop_zero, List.nil_append]
            have hp := Chg.step1 hh hH (ob := .row e' 1 (fr && f2) false []) rfl (fun tr => ⟨by omega, fun x hx => absurd hx (by simp), by rw [hρ]⟩) ⟨fun e1 s1 f1 z1 l1 hx => by obtain ⟨rfl, rfl, rfl, rfl, rfl⟩ := Ob.row.inj hx; exact ⟨_, _, _, rfl, rfl⟩, fun _ => rfl⟩
            exact ⟨_, _, _, _, _, by simpa [hm] using hzero A 0 hm, hp, avI⟩
          | some gc =>
            obtain ⟨g, cap⟩ := gc
            rw [hρ] at hs q2
            obtain ⟨hcap, A, rfl, hA⟩ := hs
            obtain ⟨cur, q3, q4, q5, q6, q7, _⟩ := q2
            have hmn : min els2.length n ≤ els.length := by omega
            have hall : ∀ x ∈ els2.take (min els2.length n) ++ els.drop (min els2.length n), x.cells.length = 1 := by
              intro x hx
              rcases List.mem_append.1 hx with h | h
              · exact hce2 x (List.mem_of_mem_take h)
              · exact q1 x (List.mem_of_mem_drop h)
            have hlen : (els2.take (min els2.length n) ++ els.drop (min els2.length n)).length = els.length := by simp; omega
            have haf : Ob.after (.row e' 1 fr false els) (.row e' 1 (fr && f2) false (els2.take (min els2.length n) ++ els.drop (min els2.length n))) :=
              ⟨fun e1 s1 f1 z1 l1 hx => by obtain ⟨rfl, rfl, rfl, rfl, rfl⟩ := Ob.row.inj hx; exact ⟨_, _, _, rfl, hlen⟩, fun _ => rfl⟩
            by_cases hm : min els2.length n = 0
            · have hp := Chg.step1 hh hH (ob := .row e' 1 (fr && f2) false (els2.take (min els2.length n) ++ els.drop (min els2.length n))) rfl (fun tr => ⟨by omega, hall, by
                rw [hρ]
                refine ⟨cur, q3, by rw [hlen]; exact q4, q5, q6, fun j v hj => ?_, fun h => by cases h⟩
                rw [hm] at hj
                simp only [List.take_zero, List.drop_zero, List.nil_append] at hj
                exact tr.pvr hh.sub _ ((q7 j v hj).mono (fun _ _ => rfl) (hfl1 fr (by cases fr <;> cases f2 <;> simp)))⟩) haf
              exact ⟨_, _, _, _, _, hzero A _ hm, hp, avI⟩
            · rw [hA (by omega)]
              rcases hshow with rfl | ⟨ad, rfl, hsp, hse, csrc, hs1, hs2⟩
              · simp at hm
              · have hfl2 := flat_length hse
                have hget : ∀ i, ((List.range (min els2.length n)).map csrc)[i]? = if i < min els2.length n then some (csrc i) else none := by
                  intro i
                  rw [List.getElem?_map]
                  by_cases hi : i < min els2.length n
                  · rw [if_pos hi, List.getElem?_range hi]; rfl
                  · rw [if_neg hi, List.getElem?_eq_none (by simpa using hi)]; rfl
                have hlc : ((List.range (min els2.length n)).map csrc).length = min els2.length n := by simp
                have hone : ∀ v ∈ (List.range (min els2.length n)).map csrc, v.oneCell' = true := by
                  intro v hv
                  obtain ⟨i, hi, rfl⟩ := List.mem_map.1 hv
                  have hi' : i < (flat els2).length := by rw [hfl2]; have := List.mem_range.1 hi; omega
                  exact (hs2 i _ (List.getElem?_eq_getElem hi')).one
                have hrun := run_copy_cells (P := P) (ty := ty) w t t2 e g (0 * 1) n (cap - 0) ad els2.length cap2 ((List.range (min els2.length n)).map csrc) hty hsi hlc
                  (fun j v hj => by
                    rw [hget] at hj
                    split at hj
                    · obtain rfl := Option.some.inj hj
                      exact hs1 j (by rw [hfl2]; omega)
                    · cases hj)
                  (fun j hj => by rw [hlc] at hj; simp [World.cell?, q3, show j < cur.size by omega]) (fun j hj => by simp [World.frozen?, q3]) hone
                rw [hlc] at hrun
                obtain ⟨cur', r1, r2, r3, r4, r5, r6, r7, r8⟩ := setCells_heap g ((List.range (min els2.length n)).map csrc) (0 * 1) w cur e' (0, 0) q3 (by rw [hlc]; omega)
                refine ⟨_, _, _, _, _, hrun, Chg.put (ob := .row e' 1 (fr && f2) false (els2.take (min els2.length n) ++ els.drop (min els2.length n))) hh hH rfl hρ r4 r5 r6 r7 r8 rfl haf (fun tr => ⟨by omega, hall, ?_⟩), avI⟩
                rw [hρ]
                refine ⟨cur', r1, by rw [hlen]; exact q4, q5, by rw [r2]; exact q6, fun j u hj => ?_, fun h => by cases h⟩
                have hones : ∀ {l : List PV}, (∀ x ∈ l, x.cells.length = 1) → ∀ (j : Nat) (u : PV), (flat l)[j]? = some u → ∃ x, l[j]? = some x ∧ x.cells[0]? = some u := by
                  intro l hl j u hj
                  have hjl := (List.getElem?_eq_some_iff.1 hj).1
                  rw [flat_length hl, Nat.mul_one] at hjl
                  have h1 := flat_get hl j 0 l[j] (List.getElem?_eq_getElem hjl) (by omega)
                  rw [Nat.mul_one, Nat.add_zero, hj] at h1
                  exact ⟨l[j], List.getElem?_eq_getElem hjl, h1.symm⟩
                have hback : ∀ {l : List PV}, (∀ x ∈ l, x.cells.length = 1) → ∀ (j : Nat) (x u : PV), l[j]? = some x → x.cells[0]? = some u → (flat l)[j]? = some u := by
                  intro l hl j x u h1 h2
                  have h3 := flat_get hl j 0 x h1 (by omega)
                  rw [Nat.mul_one, Nat.add_zero, h2] at h3
                  exact h3
                obtain ⟨x, hx1, hx2⟩ := hones hall j u hj
                rw [Array.getD_eq_getD_getElem?, r3 j, hlc]
                by_cases hjm : j < min els2.length n
                · rw [if_pos (by omega)]
                  rw [List.getElem?_append_left (by simp; omega), List.getElem?_take, if_pos hjm] at hx1
                  have h3 := hs2 j u (hback hse j x u hx1 hx2)
                  rw [show j - 0 * 1 = j by omega, hget, if_pos hjm]
                  exact tr.pvr hh.sub _ (h3.mono (fun _ _ => rfl) (hfl1 f2 (by cases fr <;> cases f2 <;> simp)))
                · rw [if_neg (by omega), ← Array.getD_eq_getD_getElem?]
                  rw [List.getElem?_append_right (by simp; omega), List.getElem?_drop] at hx1
                  have hj2 : min els2.length n + (j - (els2.take (min els2.length n)).length) = j := by simp; omega
                  rw [hj2] at hx1
                  exact tr.pvr hh.sub _ ((q7 j u (hback q1 j x u hx1 hx2)).mono (fun _ _ => rfl) (hfl1 fr (by cases fr <;> cases f2 <;> simp)))
        · trivial
      · trivial
    · trivial
  · trivial

/-! ### Conversions -/
theorem elsStr_ok {els : List PV} (hb : ∀ v ∈ els, v.isByte) : ∃ ns : List Int, els = ns.map (PV.int .u8) ∧ elsStr els = ns.foldl (fun r n => r.push (UInt8.ofNat n.toNat)) ByteArray.empty := by
  have h1 : ∃ ns : List Int, els = ns.map (PV.int .u8) := by
    induction els with
    | nil => exact ⟨[], rfl⟩
    | cons x l ih =>
      obtain ⟨ns, rfl⟩ := ih (fun v hv => hb v (by simp [hv]))
      have hx := hb x (by simp)
      unfold PV.isByte at hx
      split at hx
      · rename_i n
        exact ⟨n :: ns, rfl⟩
      · exact hx.elim
  obtain ⟨ns, rfl⟩ := h1
  refine ⟨ns, rfl, ?_⟩
  have key : ∀ (ns : List Int) (s : ByteArray), ns.foldl (fun r n => r.push (UInt8.ofNat n.toNat)) s = ⟨s.data ++ (ns.map fun n => UInt8.ofNat n.toNat).toArray⟩ := by
    intro ns
    induction ns with
    | nil => intro s; simp
    | cons n r ih =>
      intro s
      rw [List.foldl_cons, ih]
      congr 1
      show (s.push _).data ++ _ = _
      rw [show (s.push (UInt8.ofNat n.toNat)).data = s.data.push (UInt8.ofNat n.toNat) from rfl]
      apply Array.ext'
      simp
  rw [key]
  unfold elsStr
  congr 1
  apply Array.ext'
  simp [PV.toByte]
theorem conv_str (hh : HeapR k0 w F1 F2 ρ H) {x : Value} {els : List PV} {F : Nat → Prop} (hs : SlShow w F 1 els x) (hb : ∀ v ∈ els, v.isByte) : (Conv.bytesToString x).run P w = .ok (.string (elsStr els)) w := by
  obtain ⟨ns, rfl, h2⟩ := elsStr_ok hb
  rw [h2]
  obtain ⟨A, cap, rfl, h | ⟨ad, rfl, h3, h4, cs, h5, h6⟩⟩ := hs
  · have hns : ns = [] := by simpa using h
    subst hns
    cases A with
    | none => rfl
    | some ad =>
      have hl : (Go.loadCells ad 0).run P w = .ok (([] : List Int).map (Value.int .u8)).toArray w := by simpa using run_loadCells_list (P := P) w ad [] (by simp)
      exact run_bytesToString w ad 0 cap [] hl
  · have hfl : flat (ns.map (PV.int .u8)) = ns.map (PV.int .u8) := flat_ones fun y hy => by
      obtain ⟨n, _, rfl⟩ := List.mem_map.1 hy
      rfl
    rw [hfl] at h5 h6
    have hl := run_loadCells_list (P := P) w ad (ns.map (Value.int .u8)) (fun j v hj => by
      rw [List.getElem?_map] at hj
      cases hn : ns[j]? with
      | none => simp [hn] at hj
      | some n =>
        simp only [hn, Option.map_some, Option.some.injEq] at hj
        subst hj
        have hlt := (List.getElem?_eq_some_iff.1 hn).1
        rw [h5 j (by simpa using hlt)]
        have := h6 j (.int .u8 n) (by simp [hn])
        cases hcj : cs j <;> rw [hcj] at this <;> cases this
        rfl)
    rw [List.length_map] at hl
    rw [List.length_map]
    exact run_bytesToString w ad ns.length cap ns hl
theorem Chg.stringBytes (hh : HeapR k0 w F1 F2 ρ H) {w' : World} {cur : Array Value} {e : TypeId} {fz : Nat × Nat} (hw : w'.heap = w.heap.push (.cells cur e fz)) (h1 : w'.os = w.os) (h2 : w'.tape = w.tape) (h3 : w'.output = w.output) :
    Chg k0 w F1 F2 ρ H w' H (fun b => F1 b ∨ b = w.heap.size) (fun b => F2 b ∨ b = w.heap.size) ρ := by
  have hold : ∀ b, b < w.heap.size → w'.heap[b]? = w.heap[b]? := fun b hb => by rw [hw, Array.getElem?_push, if_neg (by omega)]
  have t : Trans w F1 F2 ρ H w' (fun b => F1 b ∨ b = w.heap.size) (fun b => F2 b ∨ b = w.heap.size) ρ H :=
    ⟨by rw [hw]; simp, fun b hb => hold b (hh.lt b hb), fun _ h => .inl h, fun _ h => .inl h, fun _ _ _ => rfl, fun h o ho => ⟨o, ho, Ob.after_refl o⟩⟩
  refine ⟨t, HeapR.step hh t (fun h o ho => .inl ⟨ho, fun hl b c hr => hold b (hh.blk_lt ho hl hr)⟩) hh.sep (fun h o b c ho hl hr => ?_) (fun b hb => hb.imp (hh.sub b) id) (fun b hb => ?_), h1, h2, h3, fun b hb _ => hold b hb, fun b hb => ?_, fun b hb => ?_, fun h o b c ho _ => .inl ⟨o, ho⟩⟩
  · rintro (h4 | rfl)
    · exact hh.off h o b c ho hl hr h4
    · have := hh.blk_lt ho hl hr
      omega
  · rw [hw]
    rcases hb with h | rfl
    · have := hh.lt b h
      simp
      omega
    · simp
  · rcases hb with h | rfl
    · exact .inl h
    · exact .inr (.inr (Nat.le_refl _))
  · rcases hb with h | rfl
    · exact .inl h
    · exact .inr (.inr (Nat.le_refl _))
theorem run_stringToBytes (e : TypeId) (s : ByteArray) (hs : s.size ≤ 9223372036854775807) : ∃ w' cur fz cap, (Conv.stringToBytes e s).run P w = .ok (.slice (some ⟨w.heap.size, 0, none⟩) s.size cap) w' ∧ w'.heap = w.heap.push (.cells cur e fz) ∧ w'.os = w.os ∧ w'.tape = w.tape ∧ w'.output = w.output ∧ s.size ≤ cap ∧
    ∀ i, i < s.size → cur[i]? = some (.int .u8 (s.data.toList.getD i 0).toNat) := by
  let cells : Array Value := (s.data.map fun b => Value.int .u8 b.toNat) ++ Array.replicate (grownCap w s.size 0 e - s.size) (.int .u8 0)
  have hsh : (w.drew.alloc (.cells cells e)).shape? w.heap.size = some (e, cells.size) := by
    have := heap_alloc_new w.drew (.cells cells e)
    simp only [World.size_drew] at this
    unfold World.shape?
    rw [this]
  have hr : (Conv.stringToBytes e s).run P w = .ok (.slice (some ⟨w.heap.size, 0, none⟩) s.size (grownCap w s.size 0 e)) ((w.drew.alloc (.cells cells e)).freeze ⟨w.heap.size, cells.size, none⟩ 1) := by
    unfold Conv.stringToBytes
    simp only [choose, Sem.run_bind, Sem.run, Question.forced, Bool.false_eq_true, if_false, World.drew_eq, Result.andThen_ok]
    simp only [newRow, newObj, Sem.run_bind, Sem.run, Result.andThen_ok, World.alloc_eq, markStringish, shape, freeze, World.size_drew]
    have h2 : (w.drew.alloc (.cells ((s.data.map fun b => Value.int .u8 b.toNat) ++ Array.replicate ((Question.appendCap s.size 0 e).cut (w.tape w.drawn (.appendCap s.size 0 e)) - s.size) (.int .u8 0)) e)).shape? w.heap.size = some (e, cells.size) := hsh
    simp only [Sem.run_pure, Result.andThen_ok, Sem.run_bind, Sem.run, h2]
    rfl
  refine ⟨_, cells, (cells.size, cells.size + 1), _, hr, ?_, rfl, rfl, rfl, grownCap_ge w s.size 0 e, fun i hi => ?_⟩
  · simp only [World.freeze, Nat.succ_ne_zero, if_false]
    apply Array.ext_getElem?
    intro i
    show ((w.heap.push (.cells cells e)).modify w.heap.size _)[i]? = _
    rw [Array.getElem?_modify, Array.getElem?_push, Array.getElem?_push]
    by_cases hi : w.heap.size = i
    · subst hi
      rw [if_pos rfl, if_pos rfl, if_pos rfl]
      simp
    · rw [if_neg hi, if_neg (Ne.symm hi), if_neg (Ne.symm hi)]
  · show ((s.data.map fun b => Value.int .u8 b.toNat) ++ _)[i]? = _
    have hi' : i < s.data.size := hi
    rw [Array.getElem?_append_left (by simpa using hi')]
    rw [Array.getElem?_map, Array.getElem?_eq_getElem hi', List.getD_eq_getElem?_getD, Array.getElem?_toList, Array.getElem?_eq_getElem hi']
    rfl
theorem Chg.mark (hh : HeapR k0 w F1 F2 ρ H) {h g cap : Nat} {e : TypeId} {sz : Nat} {fr : Bool} {els : List PV} (ho : H h = some (.row e sz fr false els)) (hρ : ρ h = some (g, cap)) {w' : World}
    (hw : ∀ b, b ≠ g → w'.heap[b]? = w.heap[b]?) (hs : w'.heap.size = w.heap.size) (h1 : w'.os = w.os) (h2 : w'.tape = w.tape) (h3 : w'.output = w.output) :
    Chg k0 w F1 F2 ρ H w' (upd H [(h, .gone)]) (fun b => F1 b ∨ b = g) (fun b => F2 b ∨ b = g) ρ := by
  have hH : upd H [(h, .gone)] = fun i => if i = h then some .gone else H i := by rw [upd_cons]; rfl
  have hgF : ¬ F1 g := hh.off h _ g cap ho rfl hρ
  have hF : ∀ b, F1 b → b ≠ g := fun b hb he => by subst he; exact hgF hb
  have hlg : LiveB ρ H g := ⟨h, _, cap, ho, rfl, hρ⟩
  have hgs : g < w.heap.size := hh.blk_lt ho rfl hρ
  have t : Trans w F1 F2 ρ H w' (fun b => F1 b ∨ b = g) (fun b => F2 b ∨ b = g) ρ (upd H [(h, .gone)]) := by
    refine ⟨Nat.le_of_eq hs.symm, fun b hb => hw b (hF b hb), fun _ h => .inl h, fun _ h => .inl h, fun _ _ _ => rfl, fun i o' hi => ?_⟩
    rw [hH]
    by_cases he : i = h
    · exact ⟨.gone, by simp [he], fun _ _ _ _ _ h => (by cases h), fun h => h.elim⟩
    · exact ⟨o', by simp [he, hi], Ob.after_refl o'⟩
  have hget : ∀ i o', upd H [(h, .gone)] i = some o' → o'.live → H i = some o' ∧ i ≠ h := by
    intro i o' hi hl'
    rw [hH] at hi
    by_cases he : i = h
    · simp [he] at hi
      subst hi
      cases hl'
    · exact ⟨by simpa [he] using hi, he⟩
  refine ⟨t, HeapR.step hh t (fun i o' hi => ?_) (fun i i' o1 o2 b c c' hi1 hi2 hl1 hl2 hd hr1 hr2 => hh.sep i i' o1 o2 b c c' (hget _ _ hi1 hl1).1 (hget _ _ hi2 hl2).1 hl1 hl2 hd hr1 hr2) (fun i o' b c hi hol' hr => ?_) (fun b hb => hb.imp (hh.sub b) id) (fun b hb => ?_),
    h1, h2, h3, fun b hb hnl => hw b (fun he => hnl (he ▸ hlg)), fun b hb => ?_, fun b hb => ?_, fun i o' b c hi hr => ?_⟩
  · rw [hH] at hi
    by_cases he : i = h
    · simp [he] at hi
      subst hi
      exact .inr trivial
    · simp [he] at hi
      exact .inl ⟨hi, fun hl' b c hr => hw b (fun hb => by subst hb; exact hh.sep i h _ _ b c cap hi ho hl' rfl he hr hρ)⟩
  · obtain ⟨h4, h5⟩ := hget i o' hi hol'
    rintro (h6 | rfl)
    · exact hh.off i o' b c h4 hol' hr h6
    · exact hh.sep i h _ _ b c cap h4 ho hol' rfl h5 hr hρ
  · rw [hs]
    rcases hb with h | rfl
    · exact hh.lt b h
    · exact hgs
  · rcases hb with h | rfl
    · exact .inl h
    · exact .inr (.inl hlg)
  · rcases hb with h | rfl
    · exact .inl h
    · exact .inr (.inl hlg)
  · rw [hH] at hi
    by_cases he : i = h
    · subst he
      exact .inl ⟨_, ho⟩
    · simp [he] at hi
      exact .inl ⟨o', hi⟩
theorem run_convBytes {t e : TypeId} (ht : P.underlying t = some (.slice e)) (he : P.underlying e = some (.int .u8)) {g : Nat} {cur : Array Value} {e2 : TypeId} (hg : w.heap[g]? = some (.cells cur e2 (0, 0))) (n c : Nat) :
    ∃ w', (convert t t (.slice (some ⟨g, 0, none⟩) n c)).run P w = .ok (.slice (some ⟨g, 0, none⟩) n c) w' ∧ (∀ b, b ≠ g → w'.heap[b]? = w.heap[b]?) ∧ w'.heap.size = w.heap.size ∧ w'.os = w.os ∧ w'.tape = w.tape ∧ w'.output = w.output ∧ ∃ fz, w'.heap[g]? = some (.cells cur e2 fz) := by
  have hsh : w.shape? g = some (e2, cur.size) := by unfold World.shape?; rw [hg]
  refine ⟨w.freeze ⟨g, cur.size, none⟩ 1, ?_, fun b hb => ?_, ?_, rfl, rfl, rfl, (cur.size, cur.size + 1), ?_⟩
  · simp [convert, run_underlying ht, run_underlying he, markStringish, hsh]
  · simp only [World.freeze, Nat.succ_ne_zero, if_false]
    rw [Array.getElem?_modify, if_neg (Ne.symm hb)]
  · simp [World.freeze]
  · simp only [World.freeze, Nat.succ_ne_zero, if_false]
    rw [Array.getElem?_modify, if_pos rfl, hg]
    rfl
theorem evalConv_ok (hT : tabOk P T = true) (hh : HeapR k0 w F1 F2 ρ H) (dst src : TypeId) {a : AV} {x : Value} (ha : AVR w F1 F2 ρ H a x) : StepOk P k0 w F1 F2 ρ H (convert src dst x) (evalConv T H k0 dst src a) := by
  unfold evalConv
  split
  · rename_i d s hd hs
    have htd := tyOk hT hd
    have hts := tyOk hT hs
    split
    · rename_i k k2 f k3 n hk1 hk2
      cases ha with | p _ _ _ ha => cases ha with | int =>
      exact StepOk.ok1 hh (by simp [convert, run_underlying (htd.int hk1), run_underlying (hts.int hk2), Conv.intToInt]) avI
    · rename_i f b hk1 hk2
      cases ha with | p _ _ _ ha => cases ha with | str =>
      exact StepOk.ok1 hh (by simp [convert, run_underlying (htd.str hk1), run_underlying (hts.str hk2)]) (.p _ _ _ (.str _))
    · rename_i e f b hk1 hk2
      cases ha with | p _ _ _ ha => cases ha with | str =>
      split
      · rename_i de hde
        split
        · rename_i hke
          intro hc
          have hc : b.size ≤ 140737488355328 := hc
          have hte := (tyOk hT hde).int hke
          obtain ⟨w', cur, fz, cap, h1, h2, h3, h4, h5, h6, h7⟩ := run_stringToBytes (P := P) (w := w) e b (by omega)
          have hcg := Chg.stringBytes hh h2 h3 h4 h5
          refine ⟨_, _, _, _, _, by simp [convert, run_underlying (htd.slice hk1), run_underlying (hts.str hk2), run_underlying hte]; exact h1, hcg, .p true _ _ ?_⟩
          have hfl := strEls_flat b
          have := PVR.sl (w := w') (F := fun x => F2 x ∨ x = w.heap.size) 1 (strEls b) ⟨w.heap.size, 0, none⟩ cap (fun i => .int .u8 (b.data.toList.getD i 0).toNat) rfl (.inr rfl) (by rw [strEls_length]; exact h6) (strEls_cells b)
            (fun i hi => by
              rw [hfl, strEls_length] at hi
              rw [Addr.add_mid]
              simp only [World.cell?, h2, Nat.zero_add]
              simpa using h7 i hi)
            (fun i v hv => by
              rw [hfl] at hv
              unfold strEls at hv
              rw [List.getElem?_map] at hv
              cases hbi : b.data.toList[i]? with
              | none => simp [hbi] at hv
              | some y =>
                simp only [hbi, Option.map_some, Option.some.injEq] at hv
                subst hv
                have : b.data.toList.getD i 0 = y := by simp only [List.getD_eq_getElem?_getD, hbi, Option.getD_some]
                rw [this]
                exact .int _ _)
          rwa [strEls_length] at this
        · trivial
      · trivial
    · rename_i e x' hk1 hk2
      split
      · rename_i de f els rd hde hview
        split
        · rename_i hke
          intro hb
          have hb : ∀ v ∈ els, v.isByte := hb
          have hte := (tyOk hT hde).int hke
          have hsh := viewShow hh ha hview
          have hr := conv_str (P := P) hh hsh hb
          obtain ⟨A, cap, rfl, _⟩ := hsh
          exact VRuns.pure hh (by simp only [convert, Sem.run_bind, run_underlying (htd.str hk1), run_underlying (hts.slice hk2), run_underlying hte, Result.andThen_ok]; exact hr) (.p true _ _ (.str _))
        · trivial
      · rename_i de f rd hde hview
        split
        · rename_i hke
          intro _
          have hte := (tyOk hT hde).int hke
          have : ∃ A, x = .slice A 0 0 := by
            unfold viewPV at hview
            split at hview
            · obtain ⟨rfl, h2⟩ := Prod.mk.inj (Option.some.inj hview)
              obtain ⟨rfl, rfl⟩ := Prod.mk.inj h2
              cases ha with | p _ _ _ ha => cases ha with | nilsl A => exact ⟨A, rfl⟩
            · split at hview <;> simp at hview
            · split at hview <;> simp at hview
            · cases hview
          obtain ⟨A, rfl⟩ := this
          have hr := conv_str (P := P) (F := F1) (els := []) hh ⟨A, 0, rfl, .inl rfl⟩ (fun v hv => by cases hv)
          exact VRuns.pure hh (by simp only [convert, Sem.run_bind, run_underlying (htd.str hk1), run_underlying (hts.slice hk2), run_underlying hte, Result.andThen_ok]; exact hr) (.p true _ _ (.str _))
        · trivial
      · trivial
    · rename_i e2 e h hk1 hk2
      split
      · rename_i de e' fr els hde ho
        split
        · rename_i hke hbq
          intro hpos
          have hpos : 0 < els.length := hpos
          obtain rfl : src = dst := Nat.eq_of_beq_eq_true hbq
          have hte := (tyOk hT hde).int hke
          cases ha with | rowf _ _ o ho2 hsl hr =>
          rw [ho] at ho2
          obtain rfl := Option.some.inj ho2
          have hsv := hr _ _ _ _ _ rfl
          obtain ⟨r1, r2, r3⟩ := hh.row ho
          cases hρ : ρ h with
          | none => rw [hρ] at r3; subst r3; cases hpos
          | some gc =>
            obtain ⟨g, cap⟩ := gc
            rw [hρ] at r3 hsv
            obtain ⟨cur, q1, q2, q3, q4, q5, q6⟩ := r3
            obtain ⟨_, A, rfl, hA⟩ := hsv
            obtain rfl := hA (by omega)
            rw [Nat.zero_mul]
            obtain ⟨w', c1, c2, c3, c4, c5, c6, fz, c7⟩ := run_convBytes (P := P) (w := w) (hts.slice hk2) hte q1 els.length (cap - 0)
            have hcg := Chg.mark hh ho hρ c2 c3 c4 c5 c6
            refine ⟨_, _, _, _, _, c1, hcg, .p fr _ _ ?_⟩
            have hfl : (flat els).length = els.length := by rw [flat_length r2, Nat.mul_one]
            have := PVR.sl (w := w') (F := flagF fr (fun b => F1 b ∨ b = g) (fun b => F2 b ∨ b = g)) 1 els ⟨g, 0, none⟩ (cap - 0) (fun i => cur.getD i undef) rfl (by cases fr <;> exact .inr rfl) (by omega) r2
              (fun i hi => by
                rw [Addr.add_mid]
                rw [hfl] at hi
                simp only [World.cell?, c7, Nat.zero_add]
                have hi2 : i < cur.size := by rw [q4]; omega
                simp [Array.getElem?_eq_getElem hi2, Array.getD_eq_getD_getElem?])
              (fun i v hv => hcg.trans.pvr hh.sub fr (q5 i v hv))
            exact this
        · trivial
      · trivial
    · trivial
  · trivial
/-! ### The builtins -/
theorem lenOf_ok (hh : HeapR k0 w F1 F2 ρ H) {a : AV} {x : Value} (ha : AVR w F1 F2 ρ H a x) {n : Nat} {rd : List Nat} (h : Ev.lenOf H a = some (n, rd)) : (∃ A c, x = .slice A n c) ∨ ∃ s : ByteArray, x = .string s ∧ n = s.size := by
  unfold Ev.lenOf at h
  split at h
  · simp only [Option.some.injEq, Prod.mk.injEq] at h
    obtain ⟨rfl, _⟩ := h
    cases ha with | p _ _ _ ha =>
    cases ha with
    | slnil _ A c => exact .inl ⟨A, c, rfl⟩
    | sl _ _ ad c => exact .inl ⟨some ad, c, rfl⟩
  · simp only [Option.some.injEq, Prod.mk.injEq] at h
    obtain ⟨rfl, _⟩ := h
    cases ha with | p _ _ _ ha => cases ha with | nilsl A => exact .inl ⟨A, 0, rfl⟩
  · simp only [Option.some.injEq, Prod.mk.injEq] at h
    obtain ⟨rfl, _⟩ := h
    cases ha with | p _ _ _ ha => cases ha with | str => exact .inr ⟨_, rfl, rfl⟩
  · rename_i q
    cases hH : H q with
    | none => simp [hH] at h
    | some o => cases o with
      | box => simp [hH] at h
      | gone => simp [hH] at h
      | row e sz fr fz els =>
        simp only [hH, Option.some.injEq, Prod.mk.injEq] at h
        obtain ⟨rfl, _⟩ := h
        cases ha with | rowf _ _ o ho _ hr =>
        rw [hH] at ho
        obtain rfl := Option.some.inj ho
        have hs := hr _ _ _ _ _ rfl
        unfold SlV at hs
        split at hs
        · obtain ⟨_, hl, A, rfl⟩ := hs
          exact .inl ⟨A, 0, by rw [hl]⟩
        · obtain ⟨_, A, rfl, _⟩ := hs
          exact .inl ⟨A, _, rfl⟩
  · rename_i q off m
    cases hH : H q with
    | none => simp [hH] at h
    | some o => cases o with
      | box => simp [hH] at h
      | gone => simp [hH] at h
      | row e sz fr fz els =>
        simp only [hH, Option.some.injEq, Prod.mk.injEq] at h
        obtain ⟨rfl, _⟩ := h
        cases ha with | row _ _ _ _ o ho _ hr =>
        rw [hH] at ho
        obtain rfl := Option.some.inj ho
        obtain ⟨hs, _⟩ := hr _ _ _ _ _ rfl
        unfold SlV at hs
        split at hs
        · obtain ⟨_, rfl, A, rfl⟩ := hs
          exact .inl ⟨A, 0, rfl⟩
        · obtain ⟨_, A, rfl, _⟩ := hs
          exact .inl ⟨A, _, rfl⟩
  · cases h
end
end Go.Proofs.Ytjgmlkogppibfaa.Ev
