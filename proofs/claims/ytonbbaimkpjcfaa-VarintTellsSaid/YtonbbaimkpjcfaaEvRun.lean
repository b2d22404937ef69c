/- What each operation of the program comes to is what the reckoner says: make, copy, stores, conversions. No conditions. -/
import Derived.Test.YtonbbaimkpjcfaaEvMem
import Derived.ScopeJumps
/-! ## What each operation of the program comes to is what the reckoner says: make, copy, stores, conversions. No conditions. -/
namespace Go.Proofs.Ytonbbaimkpjcfaa.Ev
open Go
set_option linter.unusedVariables false
set_option linter.unusedSimpArgs false
section
variable {P : Program} {T : Tab} {k0 : Nat} {w : World} {F1 F2 : Nat → Prop} {ρ : Pl} {H : Hp}

theorem evalMake_ok (hT : tabOk P T = true) (hh : HeapR k0 w F1 F2 ρ H) {nx : Nat} (hn : H nx = none) (t : TypeId) {a b : AV} {x y : Value} (ha : AVR w F1 F2 ρ H a x) (hb : AVR w F1 F2 ρ H b y) :
    StepOk P k0 w F1 F2 ρ H (Instr.makeSlice t x y) (evalMake T nx t a b) := by
  unfold evalMake
  split
  · rename_i f1 k1 l f2 k2 c
    cases ha with | p _ _ _ ha => cases ha with | int => cases hb with | p _ _ _ hb => cases hb with | int =>
    split
    · rename_i d ht
      split
      · rename_i e hk
        split
        · rename_i de hde
          split
          · rename_i hcond
            simp only [Bool.and_eq_true] at hcond
            have hsz : 0 < de.size := Nat.le_of_ble_eq_true hcond.1
            have hzl := Nat.eq_of_beq_eq_true hcond.2
            intro hc
            obtain ⟨⟨h0, h1⟩, h2, h3⟩ : (0 ≤ l ∧ l ≤ c) ∧ c * de.bytes ≤ 140737488355328 ∧ c ≤ 140737488355328 := hc
            have hte := tyOk hT hde
            have hz : de.zero ≠ [] := by intro h0; rw [h0] at hzl; simp at hzl; omega
            obtain ⟨z, _, ⟨i, hi, hiz⟩, hz2, hz3⟩ := hte.zeroRun (w := w) hz F2
            obtain ⟨i', hi', hsize, hbytes⟩ := hte.info
            rw [hi] at hi'
            obtain rfl := Option.some.inj hi'
            have hr := run_make (P := P) w t e i z ((tyOk hT ht).slice hk) hi hiz k1 k2 l c h0 h1 (by rw [hbytes, Int.mul_comm]; omega) (by omega)
            obtain ⟨hce, hzv⟩ := zeros_show (w := w) (F := flagF true F1 F2) hsz hzl hz2 hz3 c.toNat
            have hnr := Chg.newRow (nx := nx) (cap := c.toNat) (sz := de.size) (fr := true) (els := List.replicate c.toNat (match de.zero with | [x] => x | zs => PV.agg zs)) (e := e) (w' := w.alloc (.cells (madeCells z.cells (c.toNat * i.size)) e)) hh hn rfl rfl rfl rfl hsz hce (by simp) (by unfold maxLen; omega)
              (by rw [size_madeCells, hsize]) (fun j v hj => by
                obtain ⟨h4, h5⟩ := hzv j v hj
                rw [getD_of_getA (v := z.cells[j % z.cells.size]!) (by unfold madeCells; simp [hsize, h4])]
                exact h5)
            refine ⟨_, _, _, _, _, hr, hnr, .row nx _ _ _ _ (upd_head _ _ _) ⟨_, _, _, rfl⟩ fun e' sz' fr' fz' els' hx => ?_⟩
            obtain ⟨rfl, rfl, rfl, rfl, rfl⟩ := Ob.row.inj hx
            rw [updR_same]
            exact ⟨⟨by omega, some ⟨w.heap.size, 0, none⟩, by simp, fun _ => by simp⟩, by simp; omega⟩
          · trivial
        · trivial
      · trivial
    · trivial
  · trivial
/-- A store. -/
def StOk (P : Program) (k0 : Nat) (w : World) (F1 F2 : Nat → Prop) (ρ : Pl) (H : Hp) (s : Sem Unit) : Step → Prop
  | .ok cs none _ ups => allP cs → ∃ w' F1' F2' ρ', s.run P w = .ok () w' ∧ Chg k0 w F1 F2 ρ H w' (upd H ups) F1' F2' ρ'
  | .bad => True
  | _ => False
theorem run_storeAt {t : TypeId} {b off : Nat} {c : Value} {cur : Array Value} {ty : TypeId} (hg : w.heap[b]? = some (.cells cur ty (0, 0))) {n : Nat} (hs : (sizeOf t).run P w = .ok n w) (hc : c.cells.size = n) (hle : off + n ≤ cur.size) (h1 : ∀ v ∈ c.cells.toList, v.oneCell' = true) :
    (Instr.storeAt t (.pointer (some ⟨b, off, none⟩)) c).run P w = .ok () (w.setCells b off c.cells.toList) := by
  have := run_storeCells_cells (P := P) b off c.cells.toList 0 w (fun j hj => by simp at hj; simp [World.cell?, hg, show off + j < cur.size by omega]) (fun j hj => by simp [World.frozen?, hg]) h1
  simp only [Nat.add_zero] at this
  simp [Instr.storeAt, Instr.sureAddr, storeVar, hs, hc, this]
theorem cells_ones {a : AV} {c : Value} (ha : AVR w F1 F2 ρ H a c) (h : a.cells.all AV.one = true) : ∀ v ∈ c.cells.toList, v.oneCell' = true := by
  obtain ⟨h1, h2⟩ := avr_cells ha
  intro v hv
  obtain ⟨i, hi⟩ := List.mem_iff_getElem?.1 hv
  have hlt := (List.getElem?_eq_some_iff.1 hi).1
  have hlt2 : i < a.cells.length := by rw [← h1]; simpa using hlt
  have h3 := h2 i _ (List.getElem?_eq_getElem hlt2)
  rw [getD_of_get hi] at h3
  exact (cells_one h3 (List.all_eq_true.1 h _ (List.getElem_mem hlt2))).1
theorem memN_not {l : List Nat} {k : Nat} (h : memN l k = false) : k ∉ l := by
  induction l with
  | nil => simp
  | cons a r ih =>
    simp only [memN, Bool.or_eq_false_iff] at h
    intro hm
    rcases List.mem_cons.1 hm with rfl | hm
    · rw [Nat.beq_refl] at h; cases h.1
    · exact ih h.2 hm
theorem evalStore_ok (hT : tabOk P T = true) (hh : HeapR k0 w F1 F2 ρ H) (t : TypeId) {a v : AV} {x y : Value} (ha : AVR w F1 F2 ρ H a x) (hv : AVR w F1 F2 ρ H v y) : StOk P k0 w F1 F2 ρ H (Instr.storeAt t x y) (evalStore T H k0 t a v) := by
  unfold evalStore
  split
  · rename_i h off
    cases ha with | ptr _ _ b cp o ho hr =>
    split
    · rename_i cs d hH ht
      split
      · rename_i hones
        intro hc
        obtain ⟨h1, h2⟩ : off + d.size ≤ cs.length ∧ v.cells.length = d.size := hc
        obtain ⟨b', cp', cur, ty, q1, q2, q3, q4⟩ := hh.obj h _ hH
        rw [hr] at q1
        obtain ⟨rfl, rfl⟩ := Prod.mk.inj (Option.some.inj q1)
        obtain ⟨e1, e2⟩ := avr_cells hv
        have hrun := run_storeAt (P := P) (t := t) (off := off) q2 ((tyOk hT ht).sizeOf w) (by omega) (by omega) (cells_ones hv hones)
        obtain ⟨cur', r1, r2, r3, r4, r5, r6, r7, r8⟩ := setCells_heap b y.cells.toList off w cur ty (0, 0) q2 (by simp; omega)
        refine ⟨_, _, _, _, hrun, Chg.put (ob := .box (setMany cs off v.cells)) hh hH trivial hr r4 r5 r6 r7 r8 trivial ⟨fun _ _ _ _ _ h => (by cases h), fun h => h, fun _ _ _ _ h => (by cases h)⟩ fun tr => ⟨b, cp, cur', ty, hr, r1, by rw [r2, setMany_length]; exact q3, fun i u hu => ?_⟩⟩
        rw [setMany_get _ _ _ _ (by omega)] at hu
        rw [Array.getD_eq_getD_getElem?, r3 i]
        by_cases hi : off ≤ i ∧ i < off + v.cells.length
        · rw [if_pos hi] at hu
          rw [if_pos (by simp; omega)]
          have := e2 _ u hu
          rw [Array.getD_eq_getD_getElem?] at this
          simp only [Array.getElem?_toList]
          exact this.mono tr hh.sub
        · rw [if_neg hi] at hu
          rw [if_neg (by simp; omega), ← Array.getD_eq_getD_getElem?]
          exact (q4 i u hu).mono tr hh.sub
      · trivial
    · trivial
  · rename_i h i
    split
    · rename_i e fr els f wv d hH ht
      split
      · rename_i hd1
        intro _
        have hd1 := Nat.eq_of_beq_eq_true hd1
        cases ha with | rptr _ _ _ _ o ho _ hr =>
        rw [hH] at ho
        obtain rfl := Option.some.inj ho
        obtain ⟨hi, g, cap, hρ, rfl⟩ := hr _ _ _ _ _ rfl
        obtain ⟨_, q1, q2⟩ := hh.row hH
        rw [hρ] at q2
        obtain ⟨cur, q3, q4, q5, q6, q7, _⟩ := q2
        cases hv with | p _ _ _ hv =>
        have hcell : wv.cells = [wv] := hv.cells1
        have hvc := hv.vcells
        have hrun := run_storeAt (P := P) (t := t) (off := i * 1 + 0) (c := y) q3 ((tyOk hT ht).sizeOf w) (by rw [hvc, hd1]; rfl) (by omega) (by rw [hvc]; intro v hv'; simp at hv'; subst hv'; exact hv.one)
        rw [hvc] at hrun
        obtain ⟨cur', r1, r2, r3, r4, r5, r6, r7, r8⟩ := setCells_heap g [y] (i * 1 + 0) w cur e (0, 0) q3 (by simp; omega)
        have hall : ∀ x ∈ els.set i wv, x.cells.length = 1 := by
          intro x hx
          rcases List.mem_or_eq_of_mem_set hx with h | h
          · exact q1 x h
          · rw [h, hcell]; rfl
        have hone : ∀ {l : List PV} {cc : Array Value} {F : Nat → Prop}, (∀ x ∈ l, x.cells.length = 1) → (∀ (j : Nat) (v : PV), (flat l)[j]? = some v → PVR w F v (cc.getD j undef)) → ∀ x ∈ l, x.cells.length = 1 := fun h _ => h
        refine ⟨_, _, _, _, hrun, Chg.put (ob := .row e 1 (fr && f) false (els.set i wv)) hh hH rfl hρ r4 r5 r6 r7 r8 rfl ⟨fun e' sz' fr' fz' els' hx => ?_, fun h => rfl, fun _ _ _ _ h => (by cases h)⟩ fun tr => ⟨by omega, hall, ?_⟩⟩
        · obtain ⟨rfl, rfl, rfl, rfl, rfl⟩ := Ob.row.inj hx
          exact ⟨_, _, _, rfl, by simp⟩
        · rw [hρ]
          refine ⟨cur', r1, by simpa using q4, q5, by rw [r2]; exact q6, fun j u hj => ?_, fun h => by cases h⟩
          have hjl := (List.getElem?_eq_some_iff.1 hj).1
          rw [flat_length hall, List.length_set, Nat.mul_one] at hjl
          have hset : (els.set i wv)[j]? = some ((els.set i wv).getD j .nilsl) := by simp [List.getD_eq_getElem?_getD, List.getElem?_eq_getElem (show j < (els.set i wv).length by simpa using hjl)]
          have hfg := flat_get hall j 0 _ hset (by omega)
          rw [Nat.mul_one, Nat.add_zero, hj] at hfg
          rw [Array.getD_eq_getD_getElem?, r3 j]
          have hfl : ∀ (q' : Bool), (q' = true ∨ (fr && f) = false) → ∀ b, flagF q' F1 F2 b → flagF (fr && f) F1 F2 b := by
            intro q' hq b hb
            cases hff : (fr && f) with
            | false => exact flagF_sub hh.sub q' b hb
            | true =>
              rcases hq with rfl | hq
              · exact hb
              · rw [hff] at hq; cases hq
          by_cases hij : j = i
          · subst hij
            rw [if_pos (by simp)]
            have hx : (els.set j wv).getD j .nilsl = wv := by simp [List.getD_eq_getElem?_getD, hi]
            rw [hx, hcell] at hfg
            obtain rfl : u = wv := by simpa using hfg
            rw [show j - (j * 1 + 0) = 0 by omega, List.getElem?_cons_zero, Option.getD_some]
            exact tr.pvr hh.sub _ (hv.mono (fun _ _ => rfl) (hfl f (by cases fr <;> cases f <;> simp)))
          · rw [if_neg (by simp; omega), ← Array.getD_eq_getD_getElem?]
            have hx : els[j]? = some ((els.set i wv).getD j .nilsl) := by
              rw [List.getElem?_set, if_neg (Ne.symm hij)] at hset
              exact hset
            have hfg2 := flat_get q1 j 0 _ hx (by omega)
            rw [Nat.mul_one, Nat.add_zero, ← hfg] at hfg2
            exact tr.pvr hh.sub _ ((q7 j u hfg2).mono (fun _ _ => rfl) (hfl fr (by cases fr <;> cases f <;> simp)))
      · trivial
    · trivial
  · rename_i h i o
    split
    · rename_i e sz fr els f wv rd d hH hview ht
      split
      · rename_i cs heli hcond
        intro hc
        have hoc : o + 1 < cs.length := hc
        simp only [Bool.and_eq_true, Bool.not_eq_true'] at hcond
        obtain ⟨⟨hd1, hnm⟩, hlow⟩ := hcond
        have hd1 := Nat.eq_of_beq_eq_true hd1
        have hnm : h ∉ rd := memN_not hnm
        have hfz := Chg.freeze hh rd
        have hH2 : upd H (freeze H rd) h = some (.row e sz fr false els) := by rw [upd_freeze, if_neg hnm, hH]
        have hrowb : ∀ h ∈ rd, ∀ b cp, ρ h = some (b, cp) → RowB ρ H h b := by
          intro h hm b cp hr
          obtain ⟨e0, sz0, fr0, fz0, els0, h0⟩ := viewPV_rows hview h hm
          exact ⟨e0, sz0, fr0, fz0, els0, cp, h0, hr⟩
        have hv2 := viewPV_ok2 hh hv hview (fun b => F1 b ∨ ∃ h ∈ rd, RowB ρ H h b) (fun b => F2 b ∨ ∃ h ∈ rd, k0 ≤ h ∧ RowB ρ H h b) (fun b h => .inl h) (fun b h => .inl h) (fun h hm b cp hr => .inr ⟨h, hm, hrowb h hm b cp hr⟩) (fun h hm hk b cp hr => .inr ⟨h, hm, hk, hrowb h hm b cp hr⟩)
        generalize (fun b => F1 b ∨ ∃ h ∈ rd, RowB ρ H h b) = G1 at hfz hv2
        generalize (fun b => F2 b ∨ ∃ h ∈ rd, k0 ≤ h ∧ RowB ρ H h b) = G2 at hfz hv2
        cases ha with | rptr _ _ _ _ ob ho _ hr =>
        rw [hH] at ho
        obtain rfl := Option.some.inj ho
        obtain ⟨hi, g, cap, hρ, rfl⟩ := hr _ _ _ _ _ rfl
        have hg2 := hfz.heap
        obtain ⟨hsz, q1, q2⟩ := hg2.row hH2
        rw [hρ] at q2
        obtain ⟨cur, q3, q4, q5, q6, q7, _⟩ := q2
        have hcell : wv.cells = [wv] := hv2.cells1
        have hvc := hv2.vcells
        have hcl : cs.length = sz := q1 (.agg cs) (List.mem_of_getElem? heli)
        have hmul : i * sz + sz ≤ cap * sz := by
          have := Nat.mul_le_mul_right sz (show i + 1 ≤ cap by omega)
          rw [Nat.add_mul, Nat.one_mul] at this
          exact this
        have hrun := run_storeAt (P := P) (t := t) (off := i * sz + (o + 1)) (c := y) q3 ((tyOk hT ht).sizeOf w) (by rw [hvc, hd1]; rfl) (by omega) (by rw [hvc]; intro v hv'; simp at hv'; subst hv'; exact hv2.one)
        rw [hvc] at hrun
        obtain ⟨cur', r1, r2, r3, r4, r5, r6, r7, r8⟩ := setCells_heap g [y] (i * sz + (o + 1)) w cur e (0, 0) q3 (by simp; omega)
        have hall : ∀ x ∈ els.set i (.agg (cs.set (o + 1) wv)), x.cells.length = sz := by
          intro x hx
          rcases List.mem_or_eq_of_mem_set hx with h | h
          · exact q1 x h
          · rw [h]
            show (cs.set (o + 1) wv).length = sz
            rw [List.length_set]; exact hcl
        have hput := Chg.put (ob := .row e sz (fr && f) false (els.set i (.agg (cs.set (o + 1) wv)))) hg2 hH2 rfl hρ r4 r5 r6 r7 r8 rfl ⟨fun e' sz' fr' fz' els' hx => by
            obtain ⟨rfl, rfl, rfl, rfl, rfl⟩ := Ob.row.inj hx
            exact ⟨_, _, _, rfl, by simp⟩, fun h => rfl, fun _ _ _ _ h => (by cases h)⟩ fun tr => ⟨hsz, hall, by
          rw [hρ]
          refine ⟨cur', r1, by simpa using q4, q5, by rw [r2]; exact q6, fun j u hj => ?_, fun h => by cases h⟩
          have hjl := (List.getElem?_eq_some_iff.1 hj).1
          rw [flat_length hall, List.length_set] at hjl
          have hq : j / sz < els.length := Nat.div_lt_of_lt_mul (by rw [Nat.mul_comm]; exact hjl)
          have hm : j % sz < sz := Nat.mod_lt _ hsz
          have hj2 : j / sz * sz + j % sz = j := by rw [Nat.mul_comm]; exact Nat.div_add_mod j sz
          have hfl : ∀ (q' : Bool), (q' = true ∨ (fr && f) = false) → ∀ b, flagF q' G1 G2 b → flagF (fr && f) G1 G2 b := by
            intro q' hq b hb
            cases hff : (fr && f) with
            | false => exact flagF_sub hg2.sub q' b hb
            | true =>
              rcases hq with rfl | hq
              · exact hb
              · rw [hff] at hq; cases hq
          have old : ∀ x, els[j / sz]? = some x → x.cells[j % sz]? = some u → PVR w (flagF (fr && f) G1 G2) u (cur.getD j undef) := by
            intro x hx hxu
            have hfg := flat_get q1 (j / sz) (j % sz) x hx hm
            rw [hj2, hxu] at hfg
            exact (q7 j u hfg).mono (fun _ _ => rfl) (hfl fr (by cases fr <;> cases f <;> simp))
          rw [Array.getD_eq_getD_getElem?, r3 j]
          by_cases hij : j / sz = i
          · have hset : (els.set i (.agg (cs.set (o + 1) wv)))[j / sz]? = some (.agg (cs.set (o + 1) wv)) := by rw [hij, List.getElem?_set_self hi]
            have hfg := flat_get hall (j / sz) (j % sz) _ hset hm
            rw [hj2, hj] at hfg
            by_cases hom : j % sz = o + 1
            · rw [if_pos (by simp; rw [← hij, ← hom]; omega)]
              have hx : (cs.set (o + 1) wv)[j % sz]? = some wv := by rw [hom, List.getElem?_set_self (by omega)]
              rw [show (PV.agg (cs.set (o + 1) wv)).cells = cs.set (o + 1) wv from rfl, hx] at hfg
              obtain rfl := Option.some.inj hfg
              rw [show j - (i * sz + (o + 1)) = 0 by rw [← hij, ← hom]; omega, List.getElem?_cons_zero, Option.getD_some]
              exact tr.pvr hg2.sub _ (hv2.mono (fun _ _ => rfl) (hfl f (by cases fr <;> cases f <;> simp)))
            · rw [if_neg (by simp; intro h1; have hA : i * sz + j % sz = j := by rw [← hij]; exact hj2
                             generalize i * sz = A at *; generalize j % sz = B at *; omega), ← Array.getD_eq_getD_getElem?]
              have hx : (cs.set (o + 1) wv)[j % sz]? = cs[j % sz]? := by rw [List.getElem?_set_ne (Ne.symm hom)]
              rw [show (PV.agg (cs.set (o + 1) wv)).cells = cs.set (o + 1) wv from rfl, hx] at hfg
              exact tr.pvr hg2.sub _ (old (.agg cs) (by rw [hij]; exact heli) hfg.symm)
          · have hne : ¬ (i * sz + (o + 1) ≤ j ∧ j < i * sz + (o + 1) + 1) := by
              rintro ⟨h1, h2⟩
              apply hij
              have : j = i * sz + (o + 1) := by omega
              rw [this, Nat.add_comm, Nat.add_mul_div_right _ _ hsz, Nat.div_eq_of_lt (by omega)]
              omega
            rw [if_neg (by simpa using hne), ← Array.getD_eq_getD_getElem?]
            obtain ⟨x, hx⟩ : ∃ x, els[j / sz]? = some x := ⟨els[j / sz], List.getElem?_eq_getElem hq⟩
            have hset : (els.set i (.agg (cs.set (o + 1) wv)))[j / sz]? = some x := by rw [List.getElem?_set_ne (Ne.symm hij)]; exact hx
            have hfg := flat_get hall (j / sz) (j % sz) _ hset hm
            rw [hj2, hj] at hfg
            exact tr.pvr hg2.sub _ (old x hx hfg.symm)⟩
        have hcomp := hfz.comp hput
        rw [upd_upd] at hcomp
        exact ⟨_, _, _, _, hrun, hcomp⟩
      · trivial
    · trivial
  · trivial
theorem evalCopy_ok (hT : tabOk P T = true) (hh : HeapR k0 w F1 F2 ρ H) (t t2 ty : TypeId) {a b : AV} {x y : Value} (ha : AVR w F1 F2 ρ H a x) (hb : AVR w F1 F2 ρ H b y) :
    StepOk P k0 w F1 F2 ρ H (Builtin.copy_ #[t, t2] ty #[x, y]) (evalCopy T H k0 t t2 a b) := by
  unfold evalCopy
  split
  · rename_i d d2 ht ht2
    split
    · rename_i e e2 hk hk2
      split
      · rename_i h n f2 els2 rd2 hsz hview
        split
        · rename_i e' fr els hH
          intro hc
          have hc : els2.all (fun v => Nat.beq v.cells.length 1) = true := hc
          have hce2 : ∀ v ∈ els2, v.cells.length = 1 := fun v hv => Nat.eq_of_beq_eq_true (List.all_eq_true.1 hc v hv)
          cases ha with | row _ _ _ _ o ho _ hr =>
          rw [hH] at ho
          obtain rfl := Option.some.inj ho
          obtain ⟨hs, hle⟩ := hr _ _ _ _ _ rfl
          obtain ⟨_, q1, q2⟩ := hh.row hH
          obtain ⟨B, cap2, rfl, hshow⟩ := viewShow hh hb hview
          have hty := (tyOk hT ht).slice hk
          have hsi : (P.info? e).map (·.size) = some 1 := by
            unfold szOk at hsz
            split at hsz
            · rename_i de hde
              obtain ⟨i, h1, h2, _⟩ := (tyOk hT hde).info
              rw [h1, Option.map_some, h2, Nat.eq_of_beq_eq_true hsz]
            · cases hsz
          have hfl1 : ∀ (q' : Bool), (q' = true ∨ (fr && f2) = false) → ∀ b, flagF q' F1 F2 b → flagF (fr && f2) F1 F2 b := by
            intro q' hq b hb
            cases hff : (fr && f2) with
            | false => exact flagF_sub hh.sub q' b hb
            | true =>
              rcases hq with rfl | hq
              · exact hb
              · rw [hff] at hq; cases hq
          have hzero : ∀ (A : Option Addr) (cp : Nat), min els2.length n = 0 → (Builtin.copy_ #[t, t2] ty #[.slice A n cp, .slice B els2.length cap2]).run P w = .ok (.int .i64 ((min els2.length n : Nat) : Int)) w := by
            intro A cp hm
            rw [hm]
            exact run_copy_none w t t2 ty e A B n cp els2.length cap2 hty hsi hm
          cases hρ : ρ h with
          | none =>
            rw [hρ] at hs q2
            simp only at q2
            subst q2
            obtain ⟨_, rfl, A, rfl⟩ := hs
            have hm : min els2.length 0 = 0 := by omega
            rw [hm]
            simp only [List.take_zero, List.drop_zero, List.nil_append]
            have hp := Chg.step1 hh hH (ob := .row e' 1 (fr && f2) false []) rfl (fun tr => ⟨by omega, fun x hx => absurd hx (by simp), by rw [hρ]⟩) ⟨fun e1 s1 f1 z1 l1 hx => by obtain ⟨rfl, rfl, rfl, rfl, rfl⟩ := Ob.row.inj hx; exact ⟨_, _, _, rfl, rfl⟩, fun _ => rfl, fun _ _ _ _ h => (by cases h)⟩
            exact ⟨_, _, _, _, _, by simpa [hm] using hzero A 0 hm, hp, avI⟩
          | some gc =>
            obtain ⟨g, cap⟩ := gc
            rw [hρ] at hs q2
            obtain ⟨hcap, A, rfl, hA⟩ := hs
            obtain ⟨cur, q3, q4, q5, q6, q7, _⟩ := q2
            have hmn : min els2.length n ≤ els.length := by omega
            have hall : ∀ x ∈ els2.take (min els2.length n) ++ els.drop (min els2.length n), x.cells.length = 1 := by
              intro x hx
              rcases List.mem_append.1 hx with h | h
              · exact hce2 x (List.mem_of_mem_take h)
              · exact q1 x (List.mem_of_mem_drop h)
            have hlen : (els2.take (min els2.length n) ++ els.drop (min els2.length n)).length = els.length := by simp; omega
            have haf : Ob.after (.row e' 1 fr false els) (.row e' 1 (fr && f2) false (els2.take (min els2.length n) ++ els.drop (min els2.length n))) :=
              ⟨fun e1 s1 f1 z1 l1 hx => by obtain ⟨rfl, rfl, rfl, rfl, rfl⟩ := Ob.row.inj hx; exact ⟨_, _, _, rfl, hlen⟩, fun _ => rfl, fun _ _ _ _ h => (by cases h)⟩
            by_cases hm : min els2.length n = 0
            · have hp := Chg.step1 hh hH (ob := .row e' 1 (fr && f2) false (els2.take (min els2.length n) ++ els.drop (min els2.length n))) rfl (fun tr => ⟨by omega, hall, by
                rw [hρ]
                refine ⟨cur, q3, by rw [hlen]; exact q4, q5, q6, fun j v hj => ?_, fun h => by cases h⟩
                rw [hm] at hj
                simp only [List.take_zero, List.drop_zero, List.nil_append] at hj
                exact tr.pvr hh.sub _ ((q7 j v hj).mono (fun _ _ => rfl) (hfl1 fr (by cases fr <;> cases f2 <;> simp)))⟩) haf
              exact ⟨_, _, _, _, _, hzero A _ hm, hp, avI⟩
            · rw [hA (by omega)]
              rcases hshow with rfl | ⟨ad, rfl, hsp, hse, csrc, hs1, hs2⟩
              · simp at hm
              · have hfl2 := flat_length hse
                have hget : ∀ i, ((List.range (min els2.length n)).map csrc)[i]? = if i < min els2.length n then some (csrc i) else none := by
                  intro i
                  rw [List.getElem?_map]
                  by_cases hi : i < min els2.length n
                  · rw [if_pos hi, List.getElem?_range hi]; rfl
                  · rw [if_neg hi, List.getElem?_eq_none (by simpa using hi)]; rfl
                have hlc : ((List.range (min els2.length n)).map csrc).length = min els2.length n := by simp
                have hone : ∀ v ∈ (List.range (min els2.length n)).map csrc, v.oneCell' = true := by
                  intro v hv
                  obtain ⟨i, hi, rfl⟩ := List.mem_map.1 hv
                  have hi' : i < (flat els2).length := by rw [hfl2]; have := List.mem_range.1 hi; omega
                  exact (hs2 i _ (List.getElem?_eq_getElem hi')).one
                have hrun := run_copy_cells (P := P) (ty := ty) w t t2 e g (0 * 1) n (cap - 0) ad els2.length cap2 ((List.range (min els2.length n)).map csrc) hty hsi hlc
                  (fun j v hj => by
                    rw [hget] at hj
                    split at hj
                    · obtain rfl := Option.some.inj hj
                      exact hs1 j (by rw [hfl2]; omega)
                    · cases hj)
                  (fun j hj => by rw [hlc] at hj; simp [World.cell?, q3, show j < cur.size by omega]) (fun j hj => by simp [World.frozen?, q3]) hone
                rw [hlc] at hrun
                obtain ⟨cur', r1, r2, r3, r4, r5, r6, r7, r8⟩ := setCells_heap g ((List.range (min els2.length n)).map csrc) (0 * 1) w cur e' (0, 0) q3 (by rw [hlc]; omega)
                refine ⟨_, _, _, _, _, hrun, Chg.put (ob := .row e' 1 (fr && f2) false (els2.take (min els2.length n) ++ els.drop (min els2.length n))) hh hH rfl hρ r4 r5 r6 r7 r8 rfl haf (fun tr => ⟨by omega, hall, ?_⟩), avI⟩
                rw [hρ]
                refine ⟨cur', r1, by rw [hlen]; exact q4, q5, by rw [r2]; exact q6, fun j u hj => ?_, fun h => by cases h⟩
                have hones : ∀ {l : List PV}, (∀ x ∈ l, x.cells.length = 1) → ∀ (j : Nat) (u : PV), (flat l)[j]? = some u → ∃ x, l[j]? = some x ∧ x.cells[0]? = some u := by
                  intro l hl j u hj
                  have hjl := (List.getElem?_eq_some_iff.1 hj).1
                  rw [flat_length hl, Nat.mul_one] at hjl
                  have h1 := flat_get hl j 0 l[j] (List.getElem?_eq_getElem hjl) (by omega)
                  rw [Nat.mul_one, Nat.add_zero, hj] at h1
                  exact ⟨l[j], List.getElem?_eq_getElem hjl, h1.symm⟩
                have hback : ∀ {l : List PV}, (∀ x ∈ l, x.cells.length = 1) → ∀ (j : Nat) (x u : PV), l[j]? = some x → x.cells[0]? = some u → (flat l)[j]? = some u := by
                  intro l hl j x u h1 h2
                  have h3 := flat_get hl j 0 x h1 (by omega)
                  rw [Nat.mul_one, Nat.add_zero, h2] at h3
                  exact h3
                obtain ⟨x, hx1, hx2⟩ := hones hall j u hj
                rw [Array.getD_eq_getD_getElem?, r3 j, hlc]
                by_cases hjm : j < min els2.length n
                · rw [if_pos (by omega)]
                  rw [List.getElem?_append_left (by simp; omega), List.getElem?_take, if_pos hjm] at hx1
                  have h3 := hs2 j u (hback hse j x u hx1 hx2)
                  rw [show j - 0 * 1 = j by omega, hget, if_pos hjm]
                  exact tr.pvr hh.sub _ (h3.mono (fun _ _ => rfl) (hfl1 f2 (by cases fr <;> cases f2 <;> simp)))
                · rw [if_neg (by omega), ← Array.getD_eq_getD_getElem?]
                  rw [List.getElem?_append_right (by simp; omega), List.getElem?_drop] at hx1
                  have hj2 : min els2.length n + (j - (els2.take (min els2.length n)).length) = j := by simp; omega
                  rw [hj2] at hx1
                  exact tr.pvr hh.sub _ ((q7 j u (hback q1 j x u hx1 hx2)).mono (fun _ _ => rfl) (hfl1 fr (by cases fr <;> cases f2 <;> simp)))
        · trivial
      · trivial
    · trivial
  · trivial

/-! ### Conversions -/
theorem elsStr_ok {els : List PV} (hb : ∀ v ∈ els, v.isByte) : ∃ ns : List Int, els = ns.map (PV.int .u8) ∧ elsStr els = ns.foldl (fun r n => r.push (UInt8.ofNat n.toNat)) ByteArray.empty := by
  have h1 : ∃ ns : List Int, els = ns.map (PV.int .u8) := by
    induction els with
    | nil => exact ⟨[], rfl⟩
    | cons x l ih =>
      obtain ⟨ns, rfl⟩ := ih (fun v hv => hb v (by simp [hv]))
      have hx := hb x (by simp)
      unfold PV.isByte at hx
      split at hx
      · rename_i n
        exact ⟨n :: ns, rfl⟩
      · exact hx.elim
  obtain ⟨ns, rfl⟩ := h1
  refine ⟨ns, rfl, ?_⟩
  have key : ∀ (ns : List Int) (s : ByteArray), ns.foldl (fun r n => r.push (UInt8.ofNat n.toNat)) s = ⟨s.data ++ (ns.map fun n => UInt8.ofNat n.toNat).toArray⟩ := by
    intro ns
    induction ns with
    | nil => intro s; simp
    | cons n r ih =>
      intro s
      rw [List.foldl_cons, ih]
      congr 1
      show (s.push _).data ++ _ = _
      rw [show (s.push (UInt8.ofNat n.toNat)).data = s.data.push (UInt8.ofNat n.toNat) from rfl]
      apply Array.ext'
      simp
  rw [key]
  unfold elsStr
  congr 1
  apply Array.ext'
  simp [PV.toByte]
theorem conv_str (hh : HeapR k0 w F1 F2 ρ H) {x : Value} {els : List PV} {F : Nat → Prop} (hs : SlShow w F 1 els x) (hb : ∀ v ∈ els, v.isByte) : (Conv.bytesToString x).run P w = .ok (.string (elsStr els)) w := by
  obtain ⟨ns, rfl, h2⟩ := elsStr_ok hb
  rw [h2]
  obtain ⟨A, cap, rfl, h | ⟨ad, rfl, h3, h4, cs, h5, h6⟩⟩ := hs
  · have hns : ns = [] := by simpa using h
    subst hns
    cases A with
    | none => rfl
    | some ad =>
      have hl : (Go.loadCells ad 0).run P w = .ok (([] : List Int).map (Value.int .u8)).toArray w := by simpa using run_loadCells_list (P := P) w ad [] (by simp)
      exact run_bytesToString w ad 0 cap [] hl
  · have hfl : flat (ns.map (PV.int .u8)) = ns.map (PV.int .u8) := flat_ones fun y hy => by
      obtain ⟨n, _, rfl⟩ := List.mem_map.1 hy
      rfl
    rw [hfl] at h5 h6
    have hl := run_loadCells_list (P := P) w ad (ns.map (Value.int .u8)) (fun j v hj => by
      rw [List.getElem?_map] at hj
      cases hn : ns[j]? with
      | none => simp [hn] at hj
      | some n =>
        simp only [hn, Option.map_some, Option.some.injEq] at hj
        subst hj
        have hlt := (List.getElem?_eq_some_iff.1 hn).1
        rw [h5 j (by simpa using hlt)]
        have := h6 j (.int .u8 n) (by simp [hn])
        cases hcj : cs j <;> rw [hcj] at this <;> cases this
        rfl)
    rw [List.length_map] at hl
    rw [List.length_map]
    exact run_bytesToString w ad ns.length cap ns hl
theorem Chg.stringBytes (hh : HeapR k0 w F1 F2 ρ H) {w' : World} {cur : Array Value} {e : TypeId} {fz : Nat × Nat} (hw : w'.heap = w.heap.push (.cells cur e fz)) (h1 : w'.os = w.os) (h2 : w'.tape = w.tape) (h3 : w'.output = w.output) :
    Chg k0 w F1 F2 ρ H w' H (fun b => F1 b ∨ b = w.heap.size) (fun b => F2 b ∨ b = w.heap.size) ρ := by
  have hold : ∀ b, b < w.heap.size → w'.heap[b]? = w.heap[b]? := fun b hb => by rw [hw, Array.getElem?_push, if_neg (by omega)]
  have t : Trans w F1 F2 ρ H w' (fun b => F1 b ∨ b = w.heap.size) (fun b => F2 b ∨ b = w.heap.size) ρ H :=
    ⟨by rw [hw]; simp, fun b hb => hold b (hh.lt b hb), fun _ h => .inl h, fun _ h => .inl h, fun _ _ _ => rfl, fun _ _ _ => rfl, fun h o ho => ⟨o, ho, Ob.after_refl o⟩⟩
  refine ⟨t, HeapR.step hh t (fun h o ho => .inl ⟨ho, fun hl b hr => hold b (hh.own_lt ho hl hr)⟩) hh.sep (fun h o b ho hl hr => ?_) (fun b hb => hb.imp (hh.sub b) id) (fun b hb => ?_), h1, h2, h3, fun b hb _ => hold b hb, fun b hb => ?_, fun b hb => ?_, fun h o b ho hr => .inl ⟨o, ho, hr⟩⟩
  · rintro (h4 | rfl)
    · exact hh.off h o b ho hl hr h4
    · have := hh.own_lt ho hl hr
      omega
  · rw [hw]
    rcases hb with h | rfl
    · have := hh.lt b h
      simp
      omega
    · simp
  · rcases hb with h | rfl
    · exact .inl h
    · exact .inr (.inr (Nat.le_refl _))
  · rcases hb with h | rfl
    · exact .inl h
    · exact .inr (.inr (Nat.le_refl _))
theorem run_stringToBytes (e : TypeId) (s : ByteArray) (hs : s.size ≤ 9223372036854775807) : ∃ w' cur fz cap, (Conv.stringToBytes e s).run P w = .ok (.slice (some ⟨w.heap.size, 0, none⟩) s.size cap) w' ∧ w'.heap = w.heap.push (.cells cur e fz) ∧ w'.os = w.os ∧ w'.tape = w.tape ∧ w'.output = w.output ∧ s.size ≤ cap ∧
    ∀ i, i < s.size → cur[i]? = some (.int .u8 (s.data.toList.getD i 0).toNat) := by
  let cells : Array Value := (s.data.map fun b => Value.int .u8 b.toNat) ++ Array.replicate (grownCap w s.size 0 e - s.size) (.int .u8 0)
  have hsh : (w.drew.alloc (.cells cells e)).shape? w.heap.size = some (e, cells.size) := by
    have := heap_alloc_new w.drew (.cells cells e)
    simp only [World.size_drew] at this
    unfold World.shape?
    rw [this]
  have hr : (Conv.stringToBytes e s).run P w = .ok (.slice (some ⟨w.heap.size, 0, none⟩) s.size (grownCap w s.size 0 e)) ((w.drew.alloc (.cells cells e)).freeze ⟨w.heap.size, cells.size, none⟩ 1) := by
    unfold Conv.stringToBytes
    simp only [choose, Sem.run_bind, Sem.run, Question.forced, Bool.false_eq_true, if_false, World.drew_eq, Result.andThen_ok]
    simp only [newRow, newObj, Sem.run_bind, Sem.run, Result.andThen_ok, World.alloc_eq, markStringish, shape, freeze, World.size_drew]
    have h2 : (w.drew.alloc (.cells ((s.data.map fun b => Value.int .u8 b.toNat) ++ Array.replicate ((Question.appendCap s.size 0 e).cut (w.tape w.drawn (.appendCap s.size 0 e)) - s.size) (.int .u8 0)) e)).shape? w.heap.size = some (e, cells.size) := hsh
    simp only [Sem.run_pure, Result.andThen_ok, Sem.run_bind, Sem.run, h2]
    rfl
  refine ⟨_, cells, (cells.size, cells.size + 1), _, hr, ?_, rfl, rfl, rfl, grownCap_ge w s.size 0 e, fun i hi => ?_⟩
  · simp only [World.freeze, Nat.succ_ne_zero, if_false]
    apply Array.ext_getElem?
    intro i
    show ((w.heap.push (.cells cells e)).modify w.heap.size _)[i]? = _
    rw [Array.getElem?_modify, Array.getElem?_push, Array.getElem?_push]
    by_cases hi : w.heap.size = i
    · subst hi
      rw [if_pos rfl, if_pos rfl, if_pos rfl]
      simp
    · rw [if_neg hi, if_neg (Ne.symm hi), if_neg (Ne.symm hi)]
  · show ((s.data.map fun b => Value.int .u8 b.toNat) ++ _)[i]? = _
    have hi' : i < s.data.size := hi
    rw [Array.getElem?_append_left (by simpa using hi')]
    rw [Array.getElem?_map, Array.getElem?_eq_getElem hi', List.getD_eq_getElem?_getD, Array.getElem?_toList, Array.getElem?_eq_getElem hi']
    rfl
theorem Chg.mark (hh : HeapR k0 w F1 F2 ρ H) {h g cap : Nat} {e : TypeId} {sz : Nat} {fr : Bool} {els : List PV} (ho : H h = some (.row e sz fr false els)) (hρ : ρ h = some (g, cap)) {w' : World}
    (hw : ∀ b, b ≠ g → w'.heap[b]? = w.heap[b]?) (hs : w'.heap.size = w.heap.size) (h1 : w'.os = w.os) (h2 : w'.tape = w.tape) (h3 : w'.output = w.output) :
    Chg k0 w F1 F2 ρ H w' (upd H [(h, .gone)]) (fun b => F1 b ∨ b = g) (fun b => F2 b ∨ b = g) ρ := by
  have hH : upd H [(h, .gone)] = fun i => if i = h then some .gone else H i := by rw [upd_cons]; rfl
  have hgF : ¬ F1 g := hh.off h _ g ho rfl (.of hρ)
  have hF : ∀ b, F1 b → b ≠ g := fun b hb he => by subst he; exact hgF hb
  have hlg : LiveB ρ H g := ⟨h, _, ho, rfl, .of hρ⟩
  have hgs : g < w.heap.size := hh.blk_lt ho rfl hρ
  have t : Trans w F1 F2 ρ H w' (fun b => F1 b ∨ b = g) (fun b => F2 b ∨ b = g) ρ (upd H [(h, .gone)]) := by
    refine ⟨Nat.le_of_eq hs.symm, fun b hb => hw b (hF b hb), fun _ h => .inl h, fun _ h => .inl h, fun _ _ _ => rfl, fun _ _ _ => rfl, fun i o' hi => ?_⟩
    rw [hH]
    by_cases he : i = h
    · exact ⟨.gone, by simp [he], Ob.after_gone o'⟩
    · exact ⟨o', by simp [he, hi], Ob.after_refl o'⟩
  have hget : ∀ i o', upd H [(h, .gone)] i = some o' → o'.live → H i = some o' ∧ i ≠ h := by
    intro i o' hi hl'
    rw [hH] at hi
    by_cases he : i = h
    · simp [he] at hi
      subst hi
      cases hl'
    · exact ⟨by simpa [he] using hi, he⟩
  refine ⟨t, HeapR.step hh t (fun i o' hi => ?_) (fun i i' o1 o2 b hi1 hi2 hl1 hl2 hd hr1 hr2 => hh.sep i i' o1 o2 b (hget _ _ hi1 hl1).1 (hget _ _ hi2 hl2).1 hl1 hl2 hd hr1 hr2) (fun i o' b hi hol' hr => ?_) (fun b hb => hb.imp (hh.sub b) id) (fun b hb => ?_),
    h1, h2, h3, fun b hb hnl => hw b (fun he => hnl (he ▸ hlg)), fun b hb => ?_, fun b hb => ?_, fun i o' b hi hr => ?_⟩
  · rw [hH] at hi
    by_cases he : i = h
    · simp [he] at hi
      subst hi
      exact .inr trivial
    · simp [he] at hi
      exact .inl ⟨hi, fun hl' b hr => hw b (fun hb => by subst hb; exact hh.sep i h _ _ b hi ho hl' rfl he hr (.of hρ))⟩
  · obtain ⟨h4, h5⟩ := hget i o' hi hol'
    rintro (h6 | rfl)
    · exact hh.off i o' b h4 hol' hr h6
    · exact hh.sep i h _ _ b h4 ho hol' rfl h5 hr (.of hρ)
  · rw [hs]
    rcases hb with h | rfl
    · exact hh.lt b h
    · exact hgs
  · rcases hb with h | rfl
    · exact .inl h
    · exact .inr (.inl hlg)
  · rcases hb with h | rfl
    · exact .inl h
    · exact .inr (.inl hlg)
  · rw [hH] at hi
    by_cases he : i = h
    · subst he
      simp at hi
      subst hi
      exact .inl ⟨_, ho, .inl hr.gone⟩
    · simp [he] at hi
      exact .inl ⟨o', hi, hr⟩
theorem run_convBytes {t e : TypeId} (ht : P.underlying t = some (.slice e)) (he : P.underlying e = some (.int .u8)) {g : Nat} {cur : Array Value} {e2 : TypeId} (hg : w.heap[g]? = some (.cells cur e2 (0, 0))) (n c : Nat) :
    ∃ w', (convert t t (.slice (some ⟨g, 0, none⟩) n c)).run P w = .ok (.slice (some ⟨g, 0, none⟩) n c) w' ∧ (∀ b, b ≠ g → w'.heap[b]? = w.heap[b]?) ∧ w'.heap.size = w.heap.size ∧ w'.os = w.os ∧ w'.tape = w.tape ∧ w'.output = w.output ∧ ∃ fz, w'.heap[g]? = some (.cells cur e2 fz) := by
  have hsh : w.shape? g = some (e2, cur.size) := by unfold World.shape?; rw [hg]
  refine ⟨w.freeze ⟨g, cur.size, none⟩ 1, ?_, fun b hb => ?_, ?_, rfl, rfl, rfl, (cur.size, cur.size + 1), ?_⟩
  · simp [convert, run_underlying ht, run_underlying he, markStringish, hsh]
  · simp only [World.freeze, Nat.succ_ne_zero, if_false]
    rw [Array.getElem?_modify, if_neg (Ne.symm hb)]
  · simp [World.freeze]
  · simp only [World.freeze, Nat.succ_ne_zero, if_false]
    rw [Array.getElem?_modify, if_pos rfl, hg]
    rfl
theorem evalConv_ok (hT : tabOk P T = true) (hh : HeapR k0 w F1 F2 ρ H) (dst src : TypeId) {a : AV} {x : Value} (ha : AVR w F1 F2 ρ H a x) : StepOk P k0 w F1 F2 ρ H (convert src dst x) (evalConv T H k0 dst src a) := by
  unfold evalConv
  split
  · rename_i d s hd hs
    have htd := tyOk hT hd
    have hts := tyOk hT hs
    split
    · rename_i k k2 f k3 n hk1 hk2
      cases ha with | p _ _ _ ha => cases ha with | int =>
      exact StepOk.ok1 hh (by simp [convert, run_underlying (htd.int hk1), run_underlying (hts.int hk2), Conv.intToInt]) avI
    · rename_i f b hk1 hk2
      cases ha with | p _ _ _ ha => cases ha with | str =>
      exact StepOk.ok1 hh (by simp [convert, run_underlying (htd.str hk1), run_underlying (hts.str hk2)]) (.p _ _ _ (.str _))
    · rename_i e f b hk1 hk2
      cases ha with | p _ _ _ ha => cases ha with | str =>
      split
      · rename_i de hde
        split
        · rename_i hke
          intro hc
          have hc : b.size ≤ 140737488355328 := hc
          have hte := (tyOk hT hde).int hke
          obtain ⟨w', cur, fz, cap, h1, h2, h3, h4, h5, h6, h7⟩ := run_stringToBytes (P := P) (w := w) e b (by omega)
          have hcg := Chg.stringBytes hh h2 h3 h4 h5
          refine ⟨_, _, _, _, _, by simp [convert, run_underlying (htd.slice hk1), run_underlying (hts.str hk2), run_underlying hte]; exact h1, hcg, .p true _ _ ?_⟩
          have hfl := strEls_flat b
          have := PVR.sl (w := w') (F := fun x => F2 x ∨ x = w.heap.size) 1 (strEls b) ⟨w.heap.size, 0, none⟩ cap (fun i => .int .u8 (b.data.toList.getD i 0).toNat) rfl (.inr rfl) (by rw [strEls_length]; exact h6) (strEls_cells b)
            (fun i hi => by
              rw [hfl, strEls_length] at hi
              rw [Addr.add_mid]
              simp only [World.cell?, h2, Nat.zero_add]
              simpa using h7 i hi)
            (fun i v hv => by
              rw [hfl] at hv
              unfold strEls at hv
              rw [List.getElem?_map] at hv
              cases hbi : b.data.toList[i]? with
              | none => simp [hbi] at hv
              | some y =>
                simp only [hbi, Option.map_some, Option.some.injEq] at hv
                subst hv
                have : b.data.toList.getD i 0 = y := by simp only [List.getD_eq_getElem?_getD, hbi, Option.getD_some]
                rw [this]
                exact .int _ _)
          rwa [strEls_length] at this
        · trivial
      · trivial
    · rename_i e x' hk1 hk2
      split
      · rename_i de f els rd hde hview
        split
        · rename_i hke
          intro hb
          have hb : ∀ v ∈ els, v.isByte := hb
          have hte := (tyOk hT hde).int hke
          have hsh := viewShow hh ha hview
          have hr := conv_str (P := P) hh hsh hb
          obtain ⟨A, cap, rfl, _⟩ := hsh
          exact VRuns.pure hh (by simp only [convert, Sem.run_bind, run_underlying (htd.str hk1), run_underlying (hts.slice hk2), run_underlying hte, Result.andThen_ok]; exact hr) (.p true _ _ (.str _))
        · trivial
      · rename_i de f rd hde hview
        split
        · rename_i hke
          intro _
          have hte := (tyOk hT hde).int hke
          have : ∃ A, x = .slice A 0 0 := by
            unfold viewPV at hview
            split at hview
            · obtain ⟨rfl, h2⟩ := Prod.mk.inj (Option.some.inj hview)
              obtain ⟨rfl, rfl⟩ := Prod.mk.inj h2
              cases ha with | p _ _ _ ha => cases ha with | nilsl A => exact ⟨A, rfl⟩
            · split at hview <;> simp at hview
            · split at hview <;> simp at hview
            · cases hview
          obtain ⟨A, rfl⟩ := this
          have hr := conv_str (P := P) (F := F1) (els := []) hh ⟨A, 0, rfl, .inl rfl⟩ (fun v hv => by cases hv)
          exact VRuns.pure hh (by simp only [convert, Sem.run_bind, run_underlying (htd.str hk1), run_underlying (hts.slice hk2), run_underlying hte, Result.andThen_ok]; exact hr) (.p true _ _ (.str _))
        · trivial
      · trivial
    · rename_i e2 e h hk1 hk2
      split
      · rename_i de e' fr els hde ho
        split
        · rename_i hke hbq
          intro hpos
          have hpos : 0 < els.length := hpos
          obtain rfl : src = dst := Nat.eq_of_beq_eq_true hbq
          have hte := (tyOk hT hde).int hke
          cases ha with | rowf _ _ o ho2 hsl hr =>
          rw [ho] at ho2
          obtain rfl := Option.some.inj ho2
          have hsv := hr _ _ _ _ _ rfl
          obtain ⟨r1, r2, r3⟩ := hh.row ho
          cases hρ : ρ h with
          | none => rw [hρ] at r3; subst r3; cases hpos
          | some gc =>
            obtain ⟨g, cap⟩ := gc
            rw [hρ] at r3 hsv
            obtain ⟨cur, q1, q2, q3, q4, q5, q6⟩ := r3
            obtain ⟨_, A, rfl, hA⟩ := hsv
            obtain rfl := hA (by omega)
            rw [Nat.zero_mul]
            obtain ⟨w', c1, c2, c3, c4, c5, c6, fz, c7⟩ := run_convBytes (P := P) (w := w) (hts.slice hk2) hte q1 els.length (cap - 0)
            have hcg := Chg.mark hh ho hρ c2 c3 c4 c5 c6
            refine ⟨_, _, _, _, _, c1, hcg, .p fr _ _ ?_⟩
            have hfl : (flat els).length = els.length := by rw [flat_length r2, Nat.mul_one]
            have := PVR.sl (w := w') (F := flagF fr (fun b => F1 b ∨ b = g) (fun b => F2 b ∨ b = g)) 1 els ⟨g, 0, none⟩ (cap - 0) (fun i => cur.getD i undef) rfl (by cases fr <;> exact .inr rfl) (by omega) r2
              (fun i hi => by
                rw [Addr.add_mid]
                rw [hfl] at hi
                simp only [World.cell?, c7, Nat.zero_add]
                have hi2 : i < cur.size := by rw [q4]; omega
                simp [Array.getElem?_eq_getElem hi2, Array.getD_eq_getD_getElem?])
              (fun i v hv => hcg.trans.pvr hh.sub fr (q5 i v hv))
            exact this
        · trivial
      · trivial
    · trivial
  · trivial
/-! ### The builtins -/
theorem lenOf_ok (hh : HeapR k0 w F1 F2 ρ H) {a : AV} {x : Value} (ha : AVR w F1 F2 ρ H a x) {n : Nat} {rd : List Nat} (h : Ev.lenOf H a = some (n, rd)) : (∃ A c, x = .slice A n c) ∨ ∃ s : ByteArray, x = .string s ∧ n = s.size := by
  unfold Ev.lenOf at h
  split at h
  · simp only [Option.some.injEq, Prod.mk.injEq] at h
    obtain ⟨rfl, _⟩ := h
    cases ha with | p _ _ _ ha =>
    cases ha with
    | slnil _ A c => exact .inl ⟨A, c, rfl⟩
    | sl _ _ ad c => exact .inl ⟨some ad, c, rfl⟩
  · simp only [Option.some.injEq, Prod.mk.injEq] at h
    obtain ⟨rfl, _⟩ := h
    cases ha with | p _ _ _ ha => cases ha with | nilsl A => exact .inl ⟨A, 0, rfl⟩
  · simp only [Option.some.injEq, Prod.mk.injEq] at h
    obtain ⟨rfl, _⟩ := h
    cases ha with | p _ _ _ ha => cases ha with | str => exact .inr ⟨_, rfl, rfl⟩
  · rename_i q
    cases hH : H q with
    | none => simp [hH] at h
    | some o => cases o with
      | box => simp [hH] at h
      | gone => simp [hH] at h
      | row e sz fr fz els =>
        simp only [hH, Option.some.injEq, Prod.mk.injEq] at h
        obtain ⟨rfl, _⟩ := h
        cases ha with | rowf _ _ o ho _ hr =>
        rw [hH] at ho
        obtain rfl := Option.some.inj ho
        have hs := hr _ _ _ _ _ rfl
        unfold SlV at hs
        split at hs
        · obtain ⟨_, hl, A, rfl⟩ := hs
          exact .inl ⟨A, 0, by rw [hl]⟩
        · obtain ⟨_, A, rfl, _⟩ := hs
          exact .inl ⟨A, _, rfl⟩
      | tree e sz ie els =>
        simp only [hH, Option.some.injEq, Prod.mk.injEq] at h
        obtain ⟨rfl, _⟩ := h
        cases ha with | rowf _ _ o ho _ hr hr2 =>
        rw [hH] at ho
        obtain rfl := Option.some.inj ho
        have hs := hr2 _ _ _ _ rfl
        unfold SlV at hs
        split at hs
        · obtain ⟨_, hl, A, rfl⟩ := hs
          exact .inl ⟨A, 0, by rw [hl]⟩
        · obtain ⟨_, A, rfl, _⟩ := hs
          exact .inl ⟨A, _, rfl⟩
  · rename_i q off m
    cases hH : H q with
    | none => simp [hH] at h
    | some o => cases o with
      | box => simp [hH] at h
      | gone => simp [hH] at h
      | tree => simp [hH] at h
      | row e sz fr fz els =>
        simp only [hH, Option.some.injEq, Prod.mk.injEq] at h
        obtain ⟨rfl, _⟩ := h
        cases ha with | row _ _ _ _ o ho _ hr =>
        rw [hH] at ho
        obtain rfl := Option.some.inj ho
        obtain ⟨hs, _⟩ := hr _ _ _ _ _ rfl
        unfold SlV at hs
        split at hs
        · obtain ⟨_, rfl, A, rfl⟩ := hs
          exact .inl ⟨A, 0, rfl⟩
        · obtain ⟨_, A, rfl, _⟩ := hs
          exact .inl ⟨A, _, rfl⟩
  · cases h
end
end Go.Proofs.Ytonbbaimkpjcfaa.Ev
/-! ## What each operation of the program comes to is what the reckoner says. No conditions. -/
namespace Go.Proofs.Ytonbbaimkpjcfaa.Ev
open Go
set_option linter.unusedVariables false
set_option linter.unusedSimpArgs false
section
variable {P : Program} {T : Tab} {k0 : Nat} {w : World} {F1 F2 : Nat → Prop} {ρ : Pl} {H : Hp}

def ArgsR (w : World) (F1 F2 : Nat → Prop) (ρ : Pl) (H : Hp) (vs : List AV) (cs : Array Value) : Prop := CellsR w F1 F2 ρ H vs cs

theorem minI_ok : ∀ {r : List AV} {k : IntKind} {x : Int} {v : AV} {cs : List Value}, minI k x r = some v → cs.length = r.length → (∀ (i : Nat) (a : AV), r[i]? = some a → ∃ c : Value, cs[i]? = some c ∧ AVR w F1 F2 ρ H a c) →
    ∃ c, (cs.foldlM Builtin.min2 (.int k x)).run P w = .ok c w ∧ AVR w F1 F2 ρ H v c
  | [], k, x, v, cs, h, hl, _ => by
    obtain rfl : isI k x = v := by simpa [minI] using h
    obtain rfl := List.eq_nil_of_length_eq_zero hl
    exact ⟨.int k x, rfl, avI⟩
  | a :: r, k, x, v, [], _, hl, _ => by simp at hl
  | a :: r, k, x, v, c :: cs, h, hl, hc => by
    obtain ⟨c', h1, h2⟩ := hc 0 a (by simp)
    obtain rfl : c = c' := by simpa using h1
    unfold minI at h
    split at h
    · rename_i f k' y
      cases h2 with | p _ _ _ h2 => cases h2 with | int =>
      obtain ⟨c2, h3, h4⟩ := minI_ok (cs := cs) h (by simpa using hl) (fun i a ha => by simpa using hc (i + 1) a (by simpa using ha))
      exact ⟨c2, by simp [List.foldlM_cons, Builtin.min2, h3], h4⟩
    · cases h
theorem maxI_ok : ∀ {r : List AV} {k : IntKind} {x : Int} {v : AV} {cs : List Value}, maxI k x r = some v → cs.length = r.length → (∀ (i : Nat) (a : AV), r[i]? = some a → ∃ c : Value, cs[i]? = some c ∧ AVR w F1 F2 ρ H a c) →
    ∃ c, (cs.foldlM Builtin.max2 (.int k x)).run P w = .ok c w ∧ AVR w F1 F2 ρ H v c
  | [], k, x, v, cs, h, hl, _ => by
    obtain rfl : isI k x = v := by simpa [maxI] using h
    obtain rfl := List.eq_nil_of_length_eq_zero hl
    exact ⟨.int k x, rfl, avI⟩
  | a :: r, k, x, v, [], _, hl, _ => by simp at hl
  | a :: r, k, x, v, c :: cs, h, hl, hc => by
    obtain ⟨c', h1, h2⟩ := hc 0 a (by simp)
    obtain rfl : c = c' := by simpa using h1
    unfold maxI at h
    split at h
    · rename_i f k' y
      cases h2 with | p _ _ _ h2 => cases h2 with | int =>
      obtain ⟨c2, h3, h4⟩ := maxI_ok (cs := cs) h (by simpa using hl) (fun i a ha => by simpa using hc (i + 1) a (by simpa using ha))
      exact ⟨c2, by simp [List.foldlM_cons, Builtin.max2, h3], h4⟩
    · cases h
theorem two {α : Type _} {cs : Array α} {x y : α} (h : cs.size = 2) (h0 : cs[0]? = some x) (h1 : cs[1]? = some y) : cs = #[x, y] := by
  apply Array.ext_getElem?
  intro i
  match i with
  | 0 => simpa using h0
  | 1 => simpa using h1
  | i + 2 => simp [Array.getElem?_eq_none (show cs.size ≤ i + 2 by omega)]
theorem getD_some {cs : Array Value} {i : Nat} (h : i < cs.size) : cs[i]? = some (cs.getD i undef) := by simp [Array.getD_eq_getD_getElem?, h]
theorem evalBuiltin_ok (hT : tabOk P T = true) (hh : HeapR k0 w F1 F2 ρ H) {nx : Nat} (hn : H nx = none) (b : Builtin) (ts : Array TypeId) (ty : TypeId) (consts : Array Bool) {as : List AV} {cs : Array Value} (ha : ArgsR w F1 F2 ρ H as cs) :
    evalBuiltin T H k0 nx b ts.toList as = .bad ∨ ∃ s : Sem Value, builtin b ts ty consts cs = (do Pure.pure (Next.value (← s)) : Sem Next) ∧ StepOk P k0 w F1 F2 ρ H s (evalBuiltin T H k0 nx b ts.toList as) := by
  obtain ⟨hsz, hav⟩ := ha
  have hget : ∀ (i : Nat) (a : AV), as[i]? = some a → cs[i]? = some (cs.getD i undef) := fun i a h => getD_some (by rw [hsz]; exact (List.getElem?_eq_some_iff.1 h).1)
  unfold evalBuiltin
  split
  · rename_i x
    refine .inr ⟨Builtin.len_ ts ty cs, rfl, ?_⟩
    have hx := hav 0 x (by simp)
    have hg := hget 0 x (by simp)
    split
    · rename_i t tr hts
      have ht0 : ts[0]? = some t := by rw [← Array.getElem?_toList, hts]; rfl
      split
      · rename_i d n rd ht hl
        have hty := tyOk hT ht
        split
        · rename_i f s hk
          cases hx' : cs.getD 0 undef with
          | string q =>
            rw [hx'] at hx hg
            cases hx with | p _ _ _ hx => cases hx with | str =>
            simp only [Ev.lenOf, Option.some.injEq, Prod.mk.injEq] at hl
            obtain ⟨rfl, _⟩ := hl
            intro _
            exact VRuns.pure hh (by simp [Builtin.len_, ht0, hg, run_underlying (hty.str hk), goInt]) avI
          | _ => rw [hx'] at hx; cases hx with | p _ _ _ hx => cases hx
        · trivial
        · rename_i e hk hne
          intro _
          rcases lenOf_ok hh hx hl with ⟨A, c, he⟩ | ⟨s, he, _⟩
          · rw [he] at hg
            exact VRuns.pure hh (by simp [Builtin.len_, ht0, hg, run_underlying (hty.slice hk), goInt]) avI
          · rw [he] at hx
            cases hx with
            | p _ _ _ hx => cases hx with | str => exact absurd rfl (hne _ _)
            | rowf _ _ _ _ hsl => obtain ⟨_, _, _, h⟩ := hsl; cases h
            | row _ _ _ _ _ _ hsl => obtain ⟨_, _, _, h⟩ := hsl; cases h
            | rptr _ _ _ _ _ _ hsl => obtain ⟨_, h⟩ := hsl; cases h
        · trivial
      · trivial
    · trivial
  · rename_i f
    refine .inr ⟨Builtin.cap_ ts ty cs, rfl, ?_⟩
    have hx := hav 0 _ rfl
    have hg := hget 0 _ rfl
    split
    · rename_i t tr hts
      have ht0 : ts[0]? = some t := by rw [← Array.getElem?_toList, hts]; rfl
      split
      · rename_i d ht
        split
        · rename_i e hk
          intro _
          cases hx' : cs.getD 0 undef with
          | slice A n c =>
            rw [hx'] at hx hg
            cases hx with | p _ _ _ hx => cases hx with | nilsl =>
            exact VRuns.pure hh (by simp [Builtin.cap_, ht0, hg, run_underlying ((tyOk hT ht).slice hk), goInt]) avI
          | _ => rw [hx'] at hx; cases hx with | p _ _ _ hx => cases hx
        · trivial
      · trivial
    · trivial
  · rename_i x y
    refine .inr ⟨Builtin.append_ ts ty cs, rfl, ?_⟩
    have hx := hav 0 x (by simp)
    have hy := hav 1 y (by simp)
    have hcs := two (by simpa using hsz) (hget 0 x (by simp)) (hget 1 y (by simp))
    split
    · rename_i t t2 hts
      have hts' : ts = #[t, t2] := Array.ext' hts
      rw [hts', hcs]
      exact evalAppend_ok hT hh hn t t2 ty hx hy
    · trivial
  · rename_i x y
    refine .inr ⟨Builtin.copy_ ts ty cs, rfl, ?_⟩
    have hx := hav 0 x (by simp)
    have hy := hav 1 y (by simp)
    have hcs := two (by simpa using hsz) (hget 0 x (by simp)) (hget 1 y (by simp))
    split
    · rename_i t t2 hts
      have hts' : ts = #[t, t2] := Array.ext' hts
      rw [hts', hcs]
      exact evalCopy_ok hT hh t t2 ty hx hy
    · trivial
  · rename_i f k x r
    refine .inr ⟨Builtin.min_ ts ty cs, rfl, ?_⟩
    split
    · rename_i v hv
      have hx := hav 0 _ rfl
      have hg := hget 0 _ rfl
      cases hcl : cs.toList with
      | nil => rw [← Array.getElem?_toList, hcl] at hg; cases hg
      | cons c0 cr =>
        rw [← Array.getElem?_toList, hcl] at hg
        have h0 : c0 = cs.getD 0 undef := by simpa using hg
        rw [← h0] at hx
        cases hx with | p _ _ _ hx => cases hx with | int =>
        have hlen : cr.length = r.length := by
          have := congrArg List.length hcl
          simp at this
          simp at hsz
          omega
        obtain ⟨c, h1, h2⟩ := minI_ok (P := P) (w := w) (F1 := F1) (F2 := F2) (ρ := ρ) (H := H) hv hlen (fun i a ha => by
          have h3 := hget (i + 1) a (by simpa using ha)
          have h4 := hav (i + 1) a (by simpa using ha)
          refine ⟨cs.getD (i + 1) undef, ?_, h4⟩
          rw [← Array.getElem?_toList, hcl] at h3
          simpa using h3)
        exact StepOk.ok1 hh (by simp only [Builtin.min_, hcl]; exact h1) h2
    · trivial
  · rename_i f k x r
    refine .inr ⟨Builtin.max_ ts ty cs, rfl, ?_⟩
    split
    · rename_i v hv
      have hx := hav 0 _ rfl
      have hg := hget 0 _ rfl
      cases hcl : cs.toList with
      | nil => rw [← Array.getElem?_toList, hcl] at hg; cases hg
      | cons c0 cr =>
        rw [← Array.getElem?_toList, hcl] at hg
        have h0 : c0 = cs.getD 0 undef := by simpa using hg
        rw [← h0] at hx
        cases hx with | p _ _ _ hx => cases hx with | int =>
        have hlen : cr.length = r.length := by
          have := congrArg List.length hcl
          simp at this
          simp at hsz
          omega
        obtain ⟨c, h1, h2⟩ := maxI_ok (P := P) (w := w) (F1 := F1) (F2 := F2) (ρ := ρ) (H := H) hv hlen (fun i a ha => by
          have h3 := hget (i + 1) a (by simpa using ha)
          have h4 := hav (i + 1) a (by simpa using ha)
          refine ⟨cs.getD (i + 1) undef, ?_, h4⟩
          rw [← Array.getElem?_toList, hcl] at h3
          simpa using h3)
        exact StepOk.ok1 hh (by simp only [Builtin.max_, hcl]; exact h1) h2
    · trivial
  · exact .inl rfl

/-- What a step of the reckoner's is good for, at the machine's operation. -/
def OpOk (P : Program) (Γ : List (FuncId × Ctr)) (k0 : Nat) (w : World) (F1 F2 : Nat → Prop) (ρ : Pl) (H : Hp) (nx : Nat) (s : Sem Next) : Step → Prop
  | .ok cs (some v) _ ups => allP cs → Runs P k0 w F1 F2 ρ H s v ups
  | .ok cs none _ ups => allP cs → Runs P k0 w F1 F2 ρ H s (.tuple []) ups
  | .dem c _ => ∃ b, c b ∧ Runs P k0 w F1 F2 ρ H s (isB b) []
  | .bad => True
  | .call Ix r => ∃ f c as cs, look Γ f = some c ∧ Step.call Ix r = .call c.Ix (callAll c H k0 nx as) ∧ ArgsR w F1 F2 ρ H as cs ∧ s = callFunc f cs
theorem OpOk.of {Γ : List (FuncId × Ctr)} {nx : Nat} {s : Sem Value} {st : Step} (h : StepOk P k0 w F1 F2 ρ H s st) : OpOk P Γ k0 w F1 F2 ρ H nx (do Pure.pure (Next.value (← s)) : Sem Next) st := by
  cases st with
  | bad => trivial
  | ok cs v rd ups => cases v with
    | none => exact h.elim
    | some v => exact fun hc => (h hc).runs
  | dem c rd => obtain ⟨b, h1, h2⟩ := h; exact ⟨b, h1, h2.runs⟩
  | call Ix r => exact h.elim
theorem OpOk.ofSt {Γ : List (FuncId × Ctr)} {nx : Nat} {s : Sem Unit} {st : Step} (h : StOk P k0 w F1 F2 ρ H s st) : OpOk P Γ k0 w F1 F2 ρ H nx (do s; Pure.pure Next.skip : Sem Next) st := by
  cases st with
  | bad => trivial
  | ok cs v rd ups => cases v with
    | none =>
      intro hc
      obtain ⟨w', F1', F2', ρ', h1, h2⟩ := h hc
      exact ⟨.skip, undef, w', F1', F2', ρ', by simp [h1], .inr ⟨rfl, rfl⟩, h2, .tuple _ _ rfl (fun i v hv => by simp at hv)⟩
    | some v => exact h.elim
  | dem c rd => exact h.elim
  | call Ix r => exact h.elim
theorem args_append {as bs : List AV} {xs ys : Array Value} (ha : ArgsR w F1 F2 ρ H as xs) (hb : ArgsR w F1 F2 ρ H bs ys) : ArgsR w F1 F2 ρ H (as ++ bs) (xs ++ ys) := by
  refine ⟨by simp [ha.1, hb.1], fun i v hv => ?_⟩
  rcases Nat.lt_or_ge i as.length with h | h
  · rw [List.getElem?_append_left h] at hv
    have h2 : i < xs.size := by rw [ha.1]; exact h
    rw [Array.getD_eq_getD_getElem?, Array.getElem?_append_left h2, ← Array.getD_eq_getD_getElem?]
    exact ha.2 i v hv
  · rw [List.getElem?_append_right h] at hv
    rw [Array.getD_eq_getD_getElem?, Array.getElem?_append_right (by rw [ha.1]; exact h), ha.1, ← Array.getD_eq_getD_getElem?]
    exact hb.2 _ v hv
theorem evalRs_args {e : Env} {a : Act} (he : EnvR w F1 F2 ρ H e a) {xs : Array Operand} {vs : List AV} (h : evalRs e xs.toList = some vs) : ArgsR w F1 F2 ρ H vs (xs.map a.eval) := by
  obtain ⟨h1, h2⟩ := evalRs_ok he h
  refine ⟨by simpa using h1.symm, fun i v hv => ?_⟩
  obtain ⟨x, h3, h4⟩ := h2 i v hv
  rw [Array.getElem?_toList] at h3
  rw [Array.getD_eq_getD_getElem?, Array.getElem?_map, h3]
  exact h4
theorem evalOp_ok (hT : tabOk P T = true) {Γ : List (FuncId × Ctr)} (hh : HeapR k0 w F1 F2 ρ H) {e : Env} {a : Act} (he : EnvR w F1 F2 ρ H e a) {nx : Nat} (hn : H nx = none) (o : Oper) :
    OpOk P Γ k0 w F1 F2 ρ H nx (execOp a.eval o) (evalOp Γ T k0 o e H nx) := by
  unfold evalOp execOp
  cases hop : o.op with
  | move x =>
    simp only
    cases hx : evalR e x with
    | none => trivial
    | some v => exact fun _ => Runs.pure hh rfl (evalR_ok he hx)
  | assign x =>
    simp only
    cases hx : evalR e x with
    | none => trivial
    | some v => exact fun _ => Runs.pure hh rfl (evalR_ok he hx)
  | pick c x y =>
    simp only
    cases hc : evalR e c with
    | none => trivial
    | some c' => cases hx : evalR e x with
      | none => trivial
      | some x' => cases hy : evalR e y with
        | none => trivial
        | some y' =>
          have := OpOk.of (Γ := Γ) (nx := nx) (evalPick_ok (P := P) hh (evalR_ok he hc) (evalR_ok he hx) (evalR_ok he hy))
          simpa using this
  | alloc t =>
    simp only
    cases ht : look T t with
    | none => trivial
    | some d =>
      simp only
      split
      · rename_i z zs hz
        exact OpOk.of (s := Instr.alloc t true (.tuple #[])) (st := .ok [] (some (.ptr nx 0)) [] [(nx, .box (d.zero.map (AV.p true)))]) (fun _ => alloc_ok hT hh hn ht (by rw [hz]; simp))
      · trivial
  | box t x =>
    simp only
    cases ht : look T t with
    | none => cases hx : evalR e x <;> trivial
    | some d => cases hx : evalR e x with
      | none => trivial
      | some v =>
        obtain ⟨h1, h2⟩ := avr_cells (evalR_ok he hx)
        exact OpOk.of (s := Instr.box t (a.eval x)) (st := .ok [] (some (.ptr nx 0)) [] [(nx, .box v.cells)]) (fun _ => box_ok hh hn t h1 h2 (by simp [Instr.box, newVar, newRow, newObj, Sem.run]))
  | build t parts =>
    simp only
    cases hp : evalParts e parts.toList with
    | none => trivial
    | some ps => exact OpOk.of (build_ok hT hh he t parts hp)
  | buildSlice t len parts =>
    simp only
    cases hp : evalParts e parts.toList with
    | none => trivial
    | some ps => exact OpOk.of (buildSlice_ok hT hh he hn t len parts hp)
  | load t x =>
    simp only
    cases hx : evalR e x with
    | none => trivial
    | some v => exact OpOk.of (evalLoad_ok hT hh hn t (evalR_ok he hx))
  | store t x y =>
    simp only
    cases hx : evalR e x with
    | none => trivial
    | some v => cases hy : evalR e y with
      | none => trivial
      | some u => exact OpOk.ofSt (evalStore_ok hT hh t (evalR_ok he hx) (evalR_ok he hy))
  | nilCheck x =>
    simp only
    cases hx : evalR e x with
    | none => trivial
    | some v =>
      have ha := evalR_ok he hx
      cases v with
      | ptr h off =>
        cases hc : a.eval x with
        | pointer A =>
          rw [hc] at ha
          cases ha with | ptr _ _ b cp ob h1 h2 => exact fun _ => Runs.pure hh rfl (.ptr _ _ b cp ob h1 h2)
        | _ => rw [hc] at ha; cases ha
      | func f p q =>
        cases hc : a.eval x with
        | func fn p' q' =>
          rw [hc] at ha
          cases ha with | func _ _ _ _ _ h1 h2 h3 h4 => exact fun _ => Runs.pure hh rfl (.func _ _ _ _ _ h1 h2 h3 h4)
        | _ => rw [hc] at ha; cases ha
      | p => trivial
      | rowf => trivial
      | row => trivial
      | eptr => trivial
      | rptr => trivial
      | agg => trivial
      | tuple => trivial
  | binOp op t x y ty =>
    simp only
    cases hY : isNilConst y with
    | true =>
      simp only
      cases hx : evalR e x with
      | none => trivial
      | some v => exact OpOk.of (evalNil_ok hT hh op t x (evalR_ok he hx) hY a)
    | false =>
      simp only
      cases hx : evalR e x with
      | none => trivial
      | some v => cases hy : evalR e y with
        | none => trivial
        | some u => exact OpOk.of (evalBin_ok hT hh op t x y (evalR_ok he hx) (evalR_ok he hy))
  | unOp op t x =>
    simp only
    cases hx : evalR e x with
    | none => trivial
    | some v => exact OpOk.of (evalUn_ok hh op (evalR_ok he hx))
  | convert s d x =>
    simp only
    cases hx : evalR e x with
    | none => trivial
    | some v => exact OpOk.of (evalConv_ok hT hh d s (evalR_ok he hx))
  | makeFunc fn first caps =>
    cases fn with
    | func f =>
      simp only
      cases h1 : evalRs e first.toList with
      | none => trivial
      | some u => cases h2 : evalRs e caps.toList with
        | none => trivial
        | some v =>
          obtain ⟨q1, q2⟩ := evalRs_args he h1
          obtain ⟨q3, q4⟩ := evalRs_args he h2
          exact OpOk.of (s := Instr.makeFunc (.func f) (first.map a.eval) (caps.map a.eval)) (StepOk.ok1 hh (by rfl) (.func f _ _ _ _ q1 q2 q3 q4))
    | method => trivial
    | methodOf => trivial
    | via => trivial
    | yield => trivial
  | makeSlice t l c =>
    simp only
    cases hx : evalR e l with
    | none => trivial
    | some v => cases hy : evalR e c with
      | none => trivial
      | some u => exact OpOk.of (evalMake_ok hT hh hn t (evalR_ok he hx) (evalR_ok he hy))
  | slice t x lo hi mx =>
    cases mx with
    | some m => trivial
    | none =>
      simp only
      cases hx : evalR e x with
      | none => trivial
      | some v =>
        simp only
        cases lo with
        | none => cases hi with
          | none => exact OpOk.of (evalSlice_ok hT hh t (evalR_ok he hx) (LO := none) (HI := none) trivial trivial)
          | some h =>
            simp only
            cases hh' : evalR e h with
            | none => trivial
            | some h' => exact OpOk.of (evalSlice_ok hT hh t (evalR_ok he hx) (LO := none) (HI := some h') trivial (evalR_ok he hh'))
        | some l => cases hi with
          | none =>
            simp only
            cases hl : evalR e l with
            | none => trivial
            | some l' => exact OpOk.of (evalSlice_ok hT hh t (evalR_ok he hx) (LO := some l') (HI := none) (evalR_ok he hl) trivial)
          | some h =>
            simp only
            cases hl : evalR e l with
            | none => trivial
            | some l' => cases hh' : evalR e h with
              | none => trivial
              | some h' => exact OpOk.of (evalSlice_ok hT hh t (evalR_ok he hx) (LO := some l') (HI := some h') (evalR_ok he hl) (evalR_ok he hh'))
  | fieldAddr s x f =>
    simp only
    cases hx : evalR e x with
    | none => trivial
    | some v => exact OpOk.of (evalFieldAddr_ok hT hh s f (evalR_ok he hx))
  | field s x f =>
    simp only
    cases hx : evalR e x with
    | none => trivial
    | some v => exact OpOk.of (evalField_ok hT hh s f (evalR_ok he hx))
  | indexAddr t x i =>
    simp only
    cases hx : evalR e x with
    | none => trivial
    | some v => cases hy : evalR e i with
      | none => trivial
      | some u => exact OpOk.of (evalIndexAddr_ok hT hh t (evalR_ok he hx) (evalR_ok he hy))
  | index t x i =>
    simp only
    cases hx : evalR e x with
    | none => trivial
    | some v => cases hy : evalR e i with
      | none => trivial
      | some u => exact OpOk.of (evalIndex_ok hT hh t (evalR_ok he hx) (evalR_ok he hy))
  | extract t i =>
    simp only
    cases hx : evalR e t with
    | none => trivial
    | some v =>
      have ha := evalR_ok he hx
      cases v with
      | tuple vs =>
        cases hc : a.eval t with
        | tuple cs =>
          rw [hc] at ha
          cases ha with | tuple _ _ h1 h2 =>
          simp only
          cases hv : vs[i]? with
          | none => trivial
          | some u =>
            have hlt : i < cs.size := by rw [h1]; exact (List.getElem?_eq_some_iff.1 hv).1
            exact OpOk.of (s := Instr.extract (.tuple cs) i) (StepOk.ok1 hh (c := cs.getD i undef) (by simp only [Instr.extract, getD_some hlt]; rfl) (h2 i u hv))
        | _ => rw [hc] at ha; cases ha
      | _ => trivial
  | call c =>
    simp only
    cases hcal : c.callee with
    | builtin b =>
      simp only
      cases hargs : evalRs e c.args.toList with
      | none => trivial
      | some as =>
        rcases evalBuiltin_ok (P := P) hT hh hn b c.argTypes o.type (c.args.map fun | .const _ => true | _ => false) (evalRs_args he hargs) with h | ⟨s, h1, h2⟩
        · simp only [h]
          trivial
        · have : (do let d ← resolve a.eval c o.type; invoke d.target d.args : Sem Next) = (do Pure.pure (Next.value (← s)) : Sem Next) := by
            rw [← h1]
            simp [resolve, hcal, invoke]
            rfl
          rw [this]
          exact OpOk.of h2
    | value f =>
      simp only
      cases hf : evalR e f with
      | none => trivial
      | some fv => cases hargs : evalRs e c.args.toList with
        | none => cases fv <;> trivial
        | some as =>
          have ha := evalR_ok he hf
          cases fv with
          | func fn first caps =>
            simp only [evalCall]
            cases hl : look Γ fn with
            | none => trivial
            | some ct =>
              cases hc : a.eval f with
              | func fn' p q =>
                rw [hc] at ha
                cases ha with | func _ _ _ _ _ h1 h2 h3 h4 =>
                refine ⟨fn, ct, _, _, hl, rfl, args_append (args_append ⟨h1, h2⟩ (evalRs_args he hargs)) ⟨h3, h4⟩, ?_⟩
                simp [resolve, hcal, Deferred.ofValue, hc, invoke]
              | _ => rw [hc] at ha; cases ha
          | _ => trivial
    | invoke r m => trivial
  | _ => trivial
end
end Go.Proofs.Ytonbbaimkpjcfaa.Ev
/-! ## A piece of the program's text comes to what the reckoner says. No conditions. -/
namespace Go.Proofs.Ytonbbaimkpjcfaa.Ev
open Go
set_option linter.unusedVariables false
set_option linter.unusedSimpArgs false

/-- Where a call began: the world, what was lent. -/
structure Cx where
  k0 : Nat
  nt : Nat
  w0 : World
  ρ0 : Pl
  H0 : Hp
  F10 : Nat → Prop
  F20 : Nat → Prop
def Cx.L (x : Cx) (b : Nat) : Prop := ∃ h o, x.H0 h = some o ∧ Own x.ρ0 h o b
def Cx.own (x : Cx) (b : Nat) : Prop := x.w0.heap.size ≤ b ∨ x.L b

structure Core (x : Cx) (H : Hp) (w : World) (F1 F2 : Nat → Prop) (ρ : Pl) : Prop where
  heap : HeapR x.k0 w F1 F2 ρ H
  os : w.os = x.w0.os
  tape : w.tape = x.w0.tape
  output : w.output = x.w0.output
  size : x.w0.heap.size ≤ w.heap.size
  wr : ∀ b, b < x.w0.heap.size → ¬ x.L b → w.heap[b]? = x.w0.heap[b]?
  blk : ∀ b, x.F10 b → w.heap[b]? = x.w0.heap[b]?
  own : ∀ h o b, H h = some o → Own ρ h o b → x.own b
  old : ∀ h o, x.H0 h = some o → ρ h = x.ρ0 h ∧ ∃ o', H h = some o'
  f1 : ∀ b, x.F10 b → F1 b
  g1 : ∀ b, F1 b → x.F10 b ∨ x.own b
  f2 : ∀ b, x.F20 b → F2 b
  g2 : ∀ b, F2 b → x.F20 b ∨ x.own b
section
variable {x : Cx} {H H' : Hp} {w w' : World} {F1 F2 F1' F2' : Nat → Prop} {ρ ρ' : Pl}
theorem Core.live (c : Core x H w F1 F2 ρ) {b : Nat} (h : LiveB ρ H b) : x.own b := by
  obtain ⟨i, o, h1, _, h3⟩ := h
  exact c.own i o b h1 h3
theorem Core.chg (c : Core x H w F1 F2 ρ) (g : Chg x.k0 w F1 F2 ρ H w' H' F1' F2' ρ') : Core x H' w' F1' F2' ρ' := by
  refine ⟨g.heap, g.os.trans c.os, g.tape.trans c.tape, g.output.trans c.output, Nat.le_trans c.size g.trans.size, fun b hb hl => ?_, fun b hb => (g.trans.blk b (c.f1 b hb)).trans (c.blk b hb), fun h o b ho hr => ?_, fun h o ho => ?_, fun b hb => g.trans.f1 b (c.f1 b hb), fun b hb => ?_, fun b hb => g.trans.f2 b (c.f2 b hb), fun b hb => ?_⟩
  · rw [g.wr b (Nat.lt_of_lt_of_le hb c.size) (fun h => ?_), c.wr b hb hl]
    rcases c.live h with h1 | h1
    · omega
    · exact hl h1
  · rcases g.nw h o b ho hr with ⟨o0, h0, hr0⟩ | h0 | h0
    · exact c.own h o0 b h0 hr0
    · exact c.live h0
    · exact .inl (Nat.le_trans c.size h0)
  · obtain ⟨h1, o', h2⟩ := c.old h o ho
    obtain ⟨o2, h3, _⟩ := g.trans.dom h o' h2
    exact ⟨(g.trans.rho h o' h2).trans h1, o2, h3⟩
  · rcases g.g1 b hb with h | h | h
    · exact c.g1 b h
    · exact .inr (c.live h)
    · exact .inr (.inl (Nat.le_trans c.size h))
  · rcases g.g2 b hb with h | h | h
    · exact c.g2 b h
    · exact .inr (c.live h)
    · exact .inr (.inl (Nat.le_trans c.size h))
end

/-- The machine's slots and memory are what the reckoner says. -/
def Rel (x : Cx) (e : Env) (H : Hp) (a : Act) (w : World) : Prop := a.defers = [] ∧ a.tmps.size = x.nt ∧ ∃ F1 F2 ρ, Core x H w F1 F2 ρ ∧ EnvR w F1 F2 ρ H e a
def putF (e : Env) (d : Option Nat) (v : AV) : Env := fun t => match d with
  | some d => if d = t then some v else e t
  | none => e t
section
variable {x : Cx} {H H' : Hp} {w w' : World} {F1 F2 F1' F2' : Nat → Prop} {ρ ρ' : Pl} {P : Program} {Γ : List (FuncId × Ctr)} {T : Tab} {e : Env} {a : Act}
theorem EnvR.put {d : Option Nat} {v : AV} {c : Value} (he : EnvR w F1 F2 ρ H e a) (hv : AVR w F1 F2 ρ H v c) (hd : ∀ t, d = some t → t < a.tmps.size) : EnvR w F1 F2 ρ H (putF e d v) (a.put d c) := by
  intro t u hu
  cases d with
  | none => exact he t u hu
  | some d =>
    simp only [putF] at hu
    have hlt := hd d rfl
    split at hu
    · rename_i hdt
      subst hdt
      obtain rfl := Option.some.inj hu
      simpa [Act.put, Array.getD_eq_getD_getElem?, hlt] using hv
    · rename_i hdt
      have := he t u hu
      simpa [Act.put, Array.getD_eq_getD_getElem?, Array.getElem?_setIfInBounds, hdt] using this
theorem Rel.op (hr : a.defers = [] ∧ a.tmps.size = x.nt) (c : Core x H w F1 F2 ρ) (he : EnvR w F1 F2 ρ H e a) {o : Oper} (hd : ∀ t, o.dst = some t → t < x.nt) {v : AV} {ups : List (Nat × Ob)} (h : Runs P x.k0 w F1 F2 ρ H (execOp a.eval o) v ups) {Q : Exit → Act → World → Prop} {K : Act → World → Prop}
    (hK : ∀ a' w', Rel x (putF e o.dst v) (upd H ups) a' w' → K a' w') : o.wp P a w K Q := by
  obtain ⟨n, c', w', F1', F2', ρ', h1, h2, h3⟩ := h
  unfold Oper.wp
  rw [h1]
  have hrel : Rel x (putF e o.dst v) (upd H ups) (a.put o.dst c') w' := by
    refine ⟨by cases o.dst <;> exact hr.1, by cases o.dst <;> simp [Act.put, hr.2], F1', F2', ρ', c.chg h3.chg, ?_⟩
    exact EnvR.put (fun t u hu => (he t u hu).mono h3.chg.trans c.heap.sub) h3.avr (fun t ht => by rw [hr.2]; exact hd t ht)
  rcases h2 with rfl | ⟨rfl, rfl⟩
  · exact hK _ _ hrel
  · exact hK _ _ hrel
end
end Go.Proofs.Ytonbbaimkpjcfaa.Ev
/-! ## A piece of the program's text comes to what the reckoner says: regions in the text's order, branches, loops. No conditions. -/
namespace Go.Proofs.Ytonbbaimkpjcfaa.Ev
open Go
set_option linter.unusedVariables false
set_option linter.unusedSimpArgs false

theorem fSg_eq {α : Type} : ∀ (σ : Sg) (K : Sg → α), fSg σ K = K σ
  | [], K => rfl
  | (i, t) :: r, K => by cases t <;> simp [fSg, fSg_eq r]
theorem fNat_eq {α : Type} (n : Nat) (K : Nat → α) : fNat n K = K n := by cases n <;> rfl
theorem fNs_eq {α : Type} : ∀ (σ : List Nat) (K : List Nat → α), fNs σ K = K σ
  | [], K => rfl
  | i :: r, K => by simp [fNs, fNs_eq r]
theorem fPs_eq {α : Type} : ∀ (σ : List Prop) (K : List Prop → α), fPs σ K = K σ
  | [], K => rfl
  | i :: r, K => by simp [fPs, fPs_eq r]
theorem fAs_eq {α : Type} {f : AV → (AV → α) → α} (hf : ∀ v K, f v K = K v) : ∀ (l : List AV) (K : List AV → α), fAs f l K = K l
  | [], K => rfl
  | v :: r, K => by simp [fAs, hf, fAs_eq hf r]
theorem fAV_eq {α : Type} : ∀ (n : Nat) (v : AV) (K : AV → α), fAV n v K = K v
  | 0, v, K => rfl
  | n + 1, v, K => by
    have hf : ∀ v (K : AV → α), fAV n v K = K v := fAV_eq n
    cases v <;> simp [fAV, fAs_eq hf]
theorem fOb_eq {α : Type} (o : Ob) (K : Ob → α) : fOb o K = K o := by
  cases o with
  | box cs => simp [fOb, fAs_eq (fun v K => fAV_eq 4 v K)]
  | row e sz fr fz els => unfold fOb; simp only [fNat_eq]; cases fr <;> cases fz <;> rfl
  | tree e sz ie els => simp [fOb, fNat_eq]
  | gone => rfl
theorem fUps_eq {α : Type} : ∀ (l : List (Nat × Ob)) (K : List (Nat × Ob) → α), fUps l K = K l
  | [], K => rfl
  | (i, o) :: r, K => by simp [fUps, fOb_eq, fUps_eq r]

theorem fApp_eq {α : Type} : ∀ (a b : List (Nat × Ob)) (K : List (Nat × Ob) → α), fApp a b K = K (a ++ b)
  | [], b, K => rfl
  | x :: r, b, K => by simp [fApp, fApp_eq r]
theorem fNext_eq (s : St) (d : Option Nat) (v : AV) (ups : List (Nat × Ob)) (K : St → Prop) : fNext s d v ups K = K (s.next d (some v) ups) := by
  obtain ⟨env, heap, nx⟩ := s
  cases d <;> simp [fNext, fApp_eq, fNat_eq, St.next, putE]
/-- The trace, where one is kept. -/
def trOn (dr : Bool) (e : List Nat × List Nat) (tr : Tr) : Tr := match dr with
  | true => e :: tr
  | false => []
theorem fEnv_eq {α : Type} : ∀ (l : List (Nat × AV)) (K : List (Nat × AV) → α), fEnv l K = K l
  | [], K => rfl
  | (i, v) :: r, K => by simp [fEnv, fNat_eq, fEnv_eq r]
theorem look_putE (env : List (Nat × AV)) (d : Option Nat) (v : AV) : look (putE env d v) = putF (look env) d v := by
  funext t
  cases d with
  | none => rfl
  | some d =>
    simp only [putE, putF]
    by_cases h : d = t
    · subst h
      simp [look_cons_same]
    · rw [look_cons_ne _ _ h, if_neg h]
theorem look_append {α : Type _} : ∀ (a b : List (Nat × α)) (i : Nat), look (a ++ b) i = match look a i with | some o => some o | none => look b i
  | [], b, i => rfl
  | (j, o) :: r, b, i => by
    by_cases h : j = i
    · subst h
      simp [look_cons_same]
    · simp only [List.cons_append]
      rw [look_cons_ne _ _ h, look_cons_ne _ _ h]
      exact look_append r b i
theorem look_upd (ups heap : List (Nat × Ob)) : look (ups ++ heap) = upd (look heap) ups := by
  funext i
  rw [look_append]
  unfold upd
  cases look ups i <;> rfl
def St.fresh (s : St) : Prop := ∀ i, s.nx ≤ i → look s.heap i = none
theorem nxOf_ge : ∀ (ups : List (Nat × Ob)) (nx : Nat), nx ≤ nxOf nx ups ∧ ∀ i, nxOf nx ups ≤ i → look ups i = none
  | [], nx => ⟨Nat.le_refl _, fun _ _ => rfl⟩
  | (j, o) :: r, nx => by
    unfold nxOf
    cases hb : Nat.blt j nx with
    | true =>
      obtain ⟨h1, h2⟩ := nxOf_ge r nx
      have hj : j < nx := Nat.le_of_ble_eq_true hb
      refine ⟨h1, fun i hi => ?_⟩
      have hi : nxOf nx r ≤ i := hi
      rw [look_cons_ne _ _ (by omega)]
      exact h2 i hi
    | false =>
      obtain ⟨h1, h2⟩ := nxOf_ge r (j + 1)
      have hj : ¬ j < nx := fun h => by
        have : Nat.blt j nx = true := Nat.ble_eq_true_of_le h
        rw [this] at hb
        cases hb
      refine ⟨by simp only; omega, fun i hi => ?_⟩
      have hi : nxOf (j + 1) r ≤ i := hi
      rw [look_cons_ne _ _ (by omega)]
      exact h2 i hi
theorem St.fresh_next {s : St} (h : s.fresh) (d : Option Nat) (v : Option AV) (ups : List (Nat × Ob)) : (s.next d v ups).fresh := by
  intro i hi
  obtain ⟨h1, h2⟩ := nxOf_ge ups (s.nx + 1)
  have hi' : nxOf (s.nx + 1) ups ≤ i := hi
  show look (ups ++ s.heap) i = none
  rw [look_append, h2 i hi']
  exact h i (by omega)

/-- A function's contract, at the machine's call. -/
def CallsAt (P : Program) (k0 : Nat) (f : FuncId) (cs : Array Value) (w : World) (F1 F2 : Nat → Prop) (ρ : Pl) (H : Hp) (v : AV) (ups : List (Nat × Ob)) : Prop :=
  Calls P f cs w fun e w' => ∃ cv F1' F2' ρ', e = .returned cv ∧ OpR k0 w F1 F2 ρ H cv w' v (upd H ups) F1' F2' ρ'
/-- The contracts may be used. -/
def GamOk (P : Program) (Γ : List (FuncId × Ctr)) : Prop := ∀ f c, look Γ f = some c → (∀ (args : Array Value) (w : World), (callFunc f args).run P w = .ok (.enter f args) w) ∧
  ∀ (k0 nx : Nat) (as : List AV) (cs : Array Value) (w : World) (F1 F2 : Nat → Prop) (ρ : Pl) (H : Hp), HeapR k0 w F1 F2 ρ H → ArgsR w F1 F2 ρ H as cs →
    ∀ (x : c.Ix) (ps : List Prop) (v : AV) (rd : List Nat) (ups : List (Nat × Ob)), callAll c H k0 nx as x = some (ps, v, rd, ups) → allP ps → (∀ i, nx ≤ i → (look ups i).isSome = true → H i = none) → CallsAt P k0 f cs w F1 F2 ρ H v ups
section
variable {x : Cx} {P : Program} {Γ : List (FuncId × Ctr)} {T : Tab} {e : Env} {H : Hp} {a : Act} {w : World}

theorem Rel.call {F1 F2 : Nat → Prop} {ρ : Pl} (hr : a.defers = [] ∧ a.tmps.size = x.nt) (c : Core x H w F1 F2 ρ) (he : EnvR w F1 F2 ρ H e a) {o : Oper} (hd : ∀ t, o.dst = some t → t < x.nt) {f : FuncId} {cs : Array Value} (hex : (execOp a.eval o).run P w = .ok (.enter f cs) w)
    {v : AV} {ups : List (Nat × Ob)} (h : CallsAt P x.k0 f cs w F1 F2 ρ H v ups) {Q : Exit → Act → World → Prop} {K : Act → World → Prop} (hK : ∀ a' w', Rel x (putF e o.dst v) (upd H ups) a' w' → K a' w') : o.wp P a w K Q := by
  unfold Oper.wp
  rw [hex]
  refine Calls.mono h ?_
  rintro en w' ⟨cv, F1', F2', ρ', rfl, h3⟩
  refine hK _ _ ⟨by cases o.dst <;> exact hr.1, by cases o.dst <;> simp [Act.put, hr.2], F1', F2', ρ', c.chg h3.chg, ?_⟩
  exact EnvR.put (fun t u hu => (he t u hu).mono h3.chg.trans c.heap.sub) h3.avr (fun t ht => by rw [hr.2]; exact hd t ht)
/-- What an operation came to. -/
structure Out where
  v : AV
  rd : List Nat
  ups : List (Nat × Ob)
instance : Inhabited Out := ⟨⟨.tuple [], [], []⟩⟩
def OutOk (Γ : List (FuncId × Ctr)) (T : Tab) (k0 : Nat) (o : Oper) (e : Env) (H : Hp) (nx : Nat) (out : Out) : Prop :=
  match evalOp Γ T k0 o e H nx with
  | .bad => False
  | .ok cs v rd ups => allP cs ∧ out = ⟨match v with | some v => v | none => .tuple [], rd, ups⟩
  | .dem c rd => ∃ b, c b ∧ out = ⟨isB b, rd, []⟩
  | .call Ix r => ∃ ix ps, r ix = some (ps, out.v, out.rd, out.ups) ∧ allP ps
theorem out_wp (hT : tabOk P T = true) (hΓ : GamOk P Γ) {o : Oper} (hd : ∀ t, o.dst = some t → t < x.nt) (hr : Rel x e H a w) {nx : Nat} {Os : Out → Prop}
    (h : match evalOp Γ T x.k0 o e H nx with
      | .dem c rd => ∀ b, c b → Os ⟨isB b, rd, []⟩
      | _ => ∃ out, OutOk Γ T x.k0 o e H nx out ∧ Os out)
    (hn : H nx = none) (hn2 : ∀ out, Os out → ∀ i, nx ≤ i → (look out.ups i).isSome = true → H i = none)
    {Q : Exit → Act → World → Prop} {KK : Act → World → Prop} (hK : ∀ out a' w', Os out → Rel x (putF e o.dst out.v) (upd H out.ups) a' w' → KK a' w') : o.wp P a w KK Q := by
  obtain ⟨h1, h2, F1, F2, ρ, hc, he⟩ := hr
  have hop := evalOp_ok (P := P) (Γ := Γ) hT hc.heap he hn o
  unfold OutOk at h
  cases hs : evalOp Γ T x.k0 o e H nx with
  | bad => rw [hs] at h; exact h.choose_spec.1.elim
  | ok cs v rd ups =>
    rw [hs] at h hop
    obtain ⟨out, ⟨h3, rfl⟩, h4⟩ := h
    cases v with
    | none => exact Rel.op ⟨h1, h2⟩ hc he hd (hop h3) fun a' w' hr' => hK _ a' w' h4 hr'
    | some v => exact Rel.op ⟨h1, h2⟩ hc he hd (hop h3) fun a' w' hr' => hK _ a' w' h4 hr'
  | dem c rd =>
    rw [hs] at h hop
    obtain ⟨b, h3, h4⟩ := hop
    exact Rel.op ⟨h1, h2⟩ hc he hd h4 fun a' w' hr' => hK _ a' w' (h b h3) hr'
  | call Ix r =>
    rw [hs] at h hop
    obtain ⟨f, c, as, cs, h3, h4, h5, h6⟩ := hop
    cases h4
    obtain ⟨out, ⟨ix, ps, h7, h8⟩, h9⟩ := h
    obtain ⟨q7, q8⟩ := hΓ f c h3
    exact Rel.call ⟨h1, h2⟩ hc he hd (by rw [h6]; exact q7 cs w) (q8 _ _ _ _ _ _ _ _ _ hc.heap h5 ix ps out.v out.rd out.ups h7 h8 (hn2 out h9)) fun a' w' hr' => hK _ a' w' h9 hr'
/-- One operation of a run in the text's order. -/
theorem awOp_outs {s : St} {o : Oper} {dr : Bool} {tr : Tr} {K : St → Tr → Prop} (h : awOp Γ T x.k0 dr o s tr K) :
    (match evalOp Γ T x.k0 o (look s.env) (look s.heap) s.nx with
      | .dem c rd => dr = false ∧ ∀ b, c b → K (s.next o.dst (some (isB b)) []) (trOn dr (s.nx :: rd, []) tr)
      | _ => ∃ out, OutOk Γ T x.k0 o (look s.env) (look s.heap) s.nx out ∧ K (s.next o.dst (some out.v) out.ups) (trOn dr (s.nx :: out.rd, ids out.ups) tr)) := by
  obtain ⟨env, heap, nx⟩ := s
  unfold awOp at h
  unfold OutOk
  have hgo : ∀ {s' : St} {rd : List Nat} {ups : List (Nat × Ob)}, goOn dr nx rd ups tr K s' → K s' (trOn dr (nx :: rd, ids ups) tr) := by
    intro s' rd ups h
    unfold goOn at h
    cases dr with
    | true => rw [fNs_eq] at h; exact h
    | false => exact h
  simp only at h ⊢
  cases hs : evalOp Γ T x.k0 o (look env) (look heap) nx with
  | bad => rw [hs] at h; exact h.elim
  | ok cs v rd ups =>
    rw [hs] at h
    simp only [fAV_eq, fUps_eq, fNext_eq] at h
    simp only
    cases v with
    | none =>
      refine ⟨⟨.tuple [], rd, ups⟩, ?_⟩
      cases cs with
      | nil => exact ⟨⟨trivial, rfl⟩, hgo h⟩
      | cons p ps => exact ⟨⟨h.1, rfl⟩, hgo h.2⟩
    | some v =>
      refine ⟨⟨v, rd, ups⟩, ?_⟩
      cases cs with
      | nil => exact ⟨⟨trivial, rfl⟩, hgo h⟩
      | cons p ps => exact ⟨⟨h.1, rfl⟩, hgo h.2⟩
  | dem c rd =>
    rw [hs] at h
    cases dr with
    | true => exact h.elim
    | false =>
      simp only [fNext_eq] at h
      exact ⟨rfl, h⟩
  | call Ix r =>
    rw [hs] at h
    obtain ⟨ix, h⟩ := h
    simp only
    cases hca : r ix with
    | none => rw [hca] at h; exact h.elim
    | some y =>
      obtain ⟨ps, v, rd, ups⟩ := y
      rw [hca] at h
      simp only [fAV_eq, fUps_eq, fNext_eq] at h
      exact ⟨⟨v, rd, ups⟩, ⟨ix, ps, hca, h.1⟩, hgo h.2⟩
theorem awSkip_eq {s : St} {o : Oper} {dr : Bool} {tr : Tr} {K : St → Tr → Prop} (h : awSkip dr o s tr K) : K (s.next o.dst none []) (trOn dr ([s.nx], []) tr) := by
  obtain ⟨env, heap, nx⟩ := s
  unfold awSkip at h
  dsimp only at h
  rw [fNext_eq] at h
  cases dr <;> exact h
theorem awOp_sound (hT : tabOk P T = true) (hΓ : GamOk P Γ) {s : St} (hf : s.fresh) {o : Oper} (hd : ∀ t, o.dst = some t → t < x.nt) (hr : Rel x (look s.env) (look s.heap) a w) {dr : Bool} {tr : Tr} {K : St → Tr → Prop} (h : awOp Γ T x.k0 dr o s tr K)
    {Q : Exit → Act → World → Prop} {KK : Act → World → Prop} (hK : ∀ s' tr' a' w', K s' tr' → s'.fresh → Rel x (look s'.env) (look s'.heap) a' w' → KK a' w') : o.wp P a w KK Q := by
  refine out_wp hT hΓ hd hr (nx := s.nx) (Os := fun out => ∃ tr', K (s.next o.dst (some out.v) out.ups) tr') ?_ (hf s.nx (Nat.le_refl _)) (fun _ _ i hi _ => hf i hi) (fun out a' w' h4 hr' => hK _ _ a' w' h4.choose_spec (St.fresh_next hf _ _ _) ?_)
  · have := awOp_outs h
    cases hs : evalOp Γ T x.k0 o (look s.env) (look s.heap) s.nx with
    | dem c rd => rw [hs] at this; exact fun b hb => ⟨_, this.2 b hb⟩
    | _ => rw [hs] at this; obtain ⟨out, h1, h2⟩ := this; exact ⟨out, h1, _, h2⟩
  · rw [show (s.next o.dst (some out.v) out.ups).env = putE s.env o.dst out.v from rfl, show (s.next o.dst (some out.v) out.ups).heap = out.ups ++ s.heap from rfl, look_putE, look_upd]
    exact hr'
theorem guard_ok {all : List Oper} {o : Oper} {F1 F2 : Nat → Prop} {ρ : Pl} (he : EnvR w F1 F2 ρ H e a) (hsz : a.tmps.size = x.nt) (hds : dstOk x.nt all = true) {g : Gd} (h : guardOf all o e = some g) :
    match g with
    | .run => Region.wanted o (yielded all.toArray a.tmps) = true
    | .skip => Region.wanted o (yielded all.toArray a.tmps) = false
    | .ask b want => Region.wanted o (yielded all.toArray a.tmps) = (b == want) := by
  unfold guardOf at h
  unfold Region.wanted
  cases hg : o.guard with
  | none =>
    rw [hg] at h
    obtain rfl := Option.some.inj h
    rfl
  | some gw =>
    obtain ⟨j, want⟩ := gw
    rw [hg] at h
    simp only at h
    cases hd : (all[j]?).bind (·.dst) with
    | none => rw [hd] at h; cases h
    | some d =>
      rw [hd] at h
      have hdn : d < a.tmps.size := by
        rw [hsz]
        cases hj : all[j]? with
        | none => rw [hj] at hd; cases hd
        | some oj =>
          rw [hj] at hd
          have hmem := List.mem_of_getElem? hj
          have key : ∀ l : List Oper, dstOk x.nt l = true → oj ∈ l → d < x.nt := by
            intro l
            induction l with
            | nil => intro _ h; cases h
            | cons p r ih =>
              intro h1 h2
              simp only [dstOk, Bool.and_eq_true] at h1
              rcases List.mem_cons.1 h2 with rfl | h3
              · have hd' : oj.dst = some d := hd
                rw [hd'] at h1
                exact Nat.le_of_ble_eq_true h1.1
              · exact ih h1.2 h3
          exact key all hds hmem
      have hy : yielded all.toArray a.tmps j = match a.tmps.getD d undef with | .bool b => some b | _ => none := by
        unfold yielded
        simp only [List.getElem?_toArray, hd, Option.bind_some]
        rw [show a.tmps[d]? = some (a.tmps.getD d undef) by simp [Array.getD_eq_getD_getElem?, hdn]]
        cases a.tmps.getD d undef <;> rfl
      simp only at h
      cases hl : e d with
      | none => rw [hl] at h; cases h
      | some v =>
        rw [hl] at h
        have hav := he d v hl
        split at h
        · rename_i f b heq
          obtain rfl := Option.some.inj heq
          obtain rfl := Option.some.inj h
          simp only [hy]
          generalize a.tmps.getD d undef = c at hav
          cases hav with | p _ _ _ hav => cases hav with | bool =>
          cases b <;> cases want <;> rfl
        · rename_i heq
          obtain rfl := Option.some.inj heq
          obtain rfl := Option.some.inj h
          simp only [hy]
          generalize a.tmps.getD d undef = c at hav
          cases hav with | tuple _ _ _ _ => rfl
        · cases h
def gdRun : Gd → Bool
  | .run => true
  | .skip => false
  | .ask b want => b == want
theorem guard_run {all : List Oper} {o : Oper} {F1 F2 : Nat → Prop} {ρ : Pl} (he : EnvR w F1 F2 ρ H e a) (hsz : a.tmps.size = x.nt) (hds : dstOk x.nt all = true) {g : Gd} (h : guardOf all o e = some g) :
    Region.wanted o (yielded all.toArray a.tmps) = gdRun g := by
  have := guard_ok he hsz hds h
  cases g <;> exact this
theorem Rel.skip (hr : Rel x e H a w) {d : Option Nat} (hd : ∀ t, d = some t → t < x.nt) : Rel x (putF e d (.tuple [])) (upd H []) (a.put d undef) w := by
  obtain ⟨h1, h2, F1, F2, ρ, hc, he⟩ := hr
  refine ⟨by cases d <;> exact h1, by cases d <;> simp [Act.put, h2], F1, F2, ρ, hc, ?_⟩
  exact EnvR.put he (.tuple [] #[] rfl fun i v hv => by simp at hv) fun t ht => by rw [h2]; exact hd t ht
theorem Rel.drew (hr : Rel x e H a w) : Rel x e H a w.drew := by
  obtain ⟨h1, h2, F1, F2, ρ, hc, he⟩ := hr
  exact ⟨h1, h2, F1, F2, ρ, hc.chg (Chg.drew hc.heap), fun t u hu => (he t u hu).mono (Chg.drew hc.heap).trans hc.heap.sub⟩
end
end Go.Proofs.Ytonbbaimkpjcfaa.Ev
