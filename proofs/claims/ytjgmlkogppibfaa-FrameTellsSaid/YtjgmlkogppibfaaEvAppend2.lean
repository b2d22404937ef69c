/- What each operation of the program comes to is what the reckoner says: append. No conditions. -/
import Derived.Test.YtjgmlkogppibfaaEvAppend
namespace Go.Proofs.Ytjgmlkogppibfaa.Ev
open Go
set_option linter.unusedVariables false
set_option linter.unusedSimpArgs false
section
variable {P : Program} {T : Tab} {k0 : Nat} {w : World} {F1 F2 : Nat → Prop} {ρ : Nat → Option (Nat × Nat)} {H : Hp}

theorem upd_drop {h nx : Nat} {o : Ob} (ho : H h = some o) (hn : H nx = none) : upd H [(h, .gone)] nx = none := by
  rw [upd_cons]
  have : nx ≠ h := fun he => by subst he; rw [hn] at ho; cases ho
  simp [this]
  exact hn
/-- The row that is appended to, as the machine has it. -/
def Onto (k0 : Nat) (w : World) (F1 F2 : Nat → Prop) (ρ : Nat → Option (Nat × Nat)) (H : Hp) (es : Option (TypeId × Nat)) (fr : Bool) (els : List PV) (ups : List (Nat × Ob)) (x : Value) : Prop :=
  (∃ A, x = .slice A 0 0 ∧ els = [] ∧ Chg k0 w F1 F2 ρ H w (upd H ups) F1 F2 ρ ∧ ∀ nx, H nx = none → upd H ups nx = none) ∨
    (∃ e sz h g cap cur els0, es = some (e, sz) ∧ 0 < cap ∧ x = .slice (some ⟨g, 0, none⟩) els.length cap ∧ ups = [(h, .gone)] ∧ H h = some (.row e sz fr false els0) ∧ ρ h = some (g, cap) ∧ els.length ≤ cap ∧ cap ≤ maxLen ∧
      (∀ y ∈ els, y.cells.length = sz) ∧ w.heap[g]? = some (.cells cur e (0, 0)) ∧ cur.size = cap * sz ∧ ∀ (i : Nat) (v : PV), (flat els)[i]? = some v → PVR w (flagF fr F1 F2) v (cur.getD i undef))
theorem srcRow_ok (hh : HeapR k0 w F1 F2 ρ H) {a : AV} {x : Value} (ha : AVR w F1 F2 ρ H a x) {es : Option (TypeId × Nat)} {fr : Bool} {els : List PV} {c : List Prop} {ups : List (Nat × Ob)} {rd : List Nat} (h : srcRow H a = some (es, fr, els, c, ups, rd)) (hc : allP c) :
    Onto k0 w F1 F2 ρ H es fr els ups x := by
  unfold srcRow at h
  split at h
  · simp only [Option.some.injEq, Prod.mk.injEq] at h
    obtain ⟨rfl, rfl, rfl, rfl, rfl, rfl⟩ := h
    cases ha with | p _ _ _ ha => cases ha with | nilsl A => exact .inl ⟨A, rfl, rfl, .refl hh, fun nx h => h⟩
  · rename_i q
    split at h
    · rename_i e sz fr' els' hH
      simp only [Option.some.injEq, Prod.mk.injEq] at h
      obtain ⟨rfl, rfl, rfl, rfl, rfl, rfl⟩ := h
      cases ha with | rowf _ _ o ho _ hr =>
      rw [hH] at ho
      obtain rfl := Option.some.inj ho
      have hs := hr _ _ _ _ _ rfl
      obtain ⟨h1, h2, h3⟩ := hh.row hH
      cases hρ : ρ q with
      | none =>
        rw [hρ] at hs h3
        obtain ⟨_, hl, A, rfl⟩ := hs
        exact .inl ⟨A, rfl, h3, .drop hh q hH, fun nx hn => upd_drop hH hn⟩
      | some gc =>
        obtain ⟨g, cap⟩ := gc
        rw [hρ] at hs h3
        obtain ⟨hle, A, rfl, hA⟩ := hs
        obtain ⟨cur, h4, h5, h6, h7, h8, h9⟩ := h3
        rcases Nat.eq_zero_or_pos cap with rfl | hp
        · have he : els' = [] := List.eq_nil_of_length_eq_zero (by omega)
          subst he
          exact .inl ⟨A, rfl, rfl, .drop hh q hH, fun nx hn => upd_drop hH hn⟩
        · refine .inr ⟨e, sz, q, g, cap, cur, els', rfl, hp, ?_, rfl, hH, hρ, h5, h6, h2, h4, h7, h8⟩
          rw [hA hp]
          simp
    · cases h
  · rename_i q n
    split at h
    · rename_i e sz fr' els' hH
      simp only [Option.some.injEq, Prod.mk.injEq] at h
      obtain ⟨rfl, rfl, rfl, rfl, rfl, rfl⟩ := h
      have hn : n ≤ els'.length := hc
      have hl : (els'.take n).length = n := by simp; omega
      cases ha with | row _ _ _ _ o ho _ hr =>
      rw [hH] at ho
      obtain rfl := Option.some.inj ho
      obtain ⟨hs, _⟩ := hr _ _ _ _ _ rfl
      obtain ⟨h1, h2, h3⟩ := hh.row hH
      cases hρ : ρ q with
      | none =>
        rw [hρ] at hs h3
        obtain ⟨_, rfl, A, rfl⟩ := hs
        exact .inl ⟨A, rfl, by simp, .drop hh q hH, fun nx hn => upd_drop hH hn⟩
      | some gc =>
        obtain ⟨g, cap⟩ := gc
        rw [hρ] at hs h3
        obtain ⟨hle, A, rfl, hA⟩ := hs
        obtain ⟨cur, h4, h5, h6, h7, h8, h9⟩ := h3
        rcases Nat.eq_zero_or_pos cap with rfl | hp
        · obtain rfl : n = 0 := by omega
          exact .inl ⟨A, rfl, by simp, .drop hh q hH, fun nx hn => upd_drop hH hn⟩
        · refine .inr ⟨e, sz, q, g, cap, cur, els', rfl, hp, ?_, rfl, hH, hρ, by omega, h6, fun y hy => h2 y (List.mem_of_mem_take hy), h4, h7, fun i v hv => h8 i v ?_⟩
          · rw [hA hp, hl]
            simp
          · rw [flat_take h2, List.getElem?_take] at hv
            split at hv
            · exact hv
            · cases hv
    · cases h
  · cases h
theorem allP_append {a b : List Prop} (h : allP (a ++ b)) : allP a ∧ allP b := by
  induction a with
  | nil => exact ⟨trivial, h⟩
  | cons x l ih => cases l with
    | nil => cases b with
      | nil => exact ⟨h, trivial⟩
      | cons y m => exact ⟨h.1, h.2⟩
    | cons y m => exact ⟨⟨h.1, (ih h.2).1⟩, (ih h.2).2⟩
theorem zeroEl_cells {zs : List PV} (h1 : ∀ x ∈ zs, x.cells = [x]) : (match zs with | [x] => x | zs => PV.agg zs).cells = zs := by
  split
  · rename_i x
    exact h1 x (by simp)
  · rfl
/-- A row of zeros. -/
theorem zeros_show {de : TD} {F : Nat → Prop} {z : Value} (hsz : 0 < de.size) (hlen : de.zero.length = de.size) (hz2 : z.cells.size = de.zero.length) (hz3 : ∀ (i : Nat) (x : PV), de.zero[i]? = some x → PVR w F x (z.cells.getD i undef)) (n : Nat) :
    (∀ x ∈ List.replicate n (match de.zero with | [x] => x | zs => PV.agg zs), x.cells.length = de.size) ∧
    ∀ (i : Nat) (v : PV), (flat (List.replicate n (match de.zero with | [x] => x | zs => PV.agg zs)))[i]? = some v → i < n * de.size ∧ PVR w F v (z.cells[i % z.cells.size]!) := by
  have hone : ∀ x ∈ de.zero, x.cells = [x] := fun x hx => by
    obtain ⟨i, hi⟩ := List.mem_iff_getElem?.1 hx
    exact (hz3 i x hi).cells1
  have hc := zeroEl_cells hone
  generalize hel : (match de.zero with | [x] => x | zs => PV.agg zs) = el at hc
  have hce : ∀ x ∈ List.replicate n el, x.cells.length = de.size := fun x hx => by rw [(List.mem_replicate.1 hx).2, hc, hlen]
  refine ⟨hce, fun i v hv => ?_⟩
  have hi := (List.getElem?_eq_some_iff.1 hv).1
  rw [flat_length hce, List.length_replicate] at hi
  have hq : i / de.size < n := Nat.div_lt_of_lt_mul (by rw [Nat.mul_comm]; exact hi)
  have hm : i % de.size < de.size := Nat.mod_lt _ hsz
  have hfg := flat_get hce (i / de.size) (i % de.size) el (by rw [List.getElem?_replicate, if_pos hq]) hm
  rw [show i / de.size * de.size + i % de.size = i by rw [Nat.mul_comm]; exact Nat.div_add_mod i de.size, hv, hc] at hfg
  refine ⟨hi, ?_⟩
  have := hz3 _ v hfg.symm
  rw [hz2, hlen]
  have hlt : i % de.size < z.cells.size := by omega
  rwa [show z.cells.getD (i % de.size) undef = z.cells[i % de.size]! by simp [Array.getD_eq_getD_getElem?, hlt]] at this
theorem evalAppend_ok (hT : tabOk P T = true) (hh : HeapR k0 w F1 F2 ρ H) {nx : Nat} (hn : H nx = none) (t t2 ty : TypeId) {a b : AV} {x y : Value} (ha : AVR w F1 F2 ρ H a x) (hb : AVR w F1 F2 ρ H b y) :
    StepOk P k0 w F1 F2 ρ H (Builtin.append_ #[t, t2] ty #[x, y]) (evalAppend T H k0 nx t t2 a b) := by
  unfold evalAppend
  split
  · rename_i d d2 ht ht2
    split
    · rename_i e hk
      split
      · rename_i de es fr els c ups rd hde hsrc
        have hty := (tyOk hT ht).slice hk
        have hte := tyOk hT hde
        split
        · rename_i hcond
          simp only [Bool.and_eq_true] at hcond
          obtain ⟨⟨hc1, hc2⟩, hc3⟩ := hcond
          have hsz : 0 < de.size := Nat.le_of_ble_eq_true hc2
          have hzl := Nat.eq_of_beq_eq_true hc3
          have hz : de.zero ≠ [] := by intro h0; rw [h0] at hzl; simp at hzl; omega
          obtain ⟨z, _, ⟨i, hi, hiz⟩, hz2, hz3⟩ := hte.zeroRun (w := w) hz F2
          obtain ⟨i', hi', hsize, hbytes⟩ := hte.info
          rw [hi] at hi'
          obtain rfl := Option.some.inj hi'
          have hes : ∀ e' sz', es = some (e', sz') → e' = e ∧ sz' = de.size := by
            intro e' sz' he
            rw [he] at hc1
            simp only [Bool.and_eq_true] at hc1
            exact ⟨(Nat.eq_of_beq_eq_true hc1.1).symm, (Nat.eq_of_beq_eq_true hc1.2).symm⟩
          have key : ∀ {f2 : Bool} {els2 : List PV}, allP c → Added P w de.size t2 y (flagF f2 F1 F2) els2 → (((els.length + els2.length) * de.bytes ≤ 140737488355328 ∨ de.bytes = 1 ∧ els.length + els2.length ≤ 141836999983104) ∧ els.length + els2.length ≤ 141836999983104) →
              VRuns P k0 w F1 F2 ρ H (Builtin.append_ #[t, t2] ty #[x, y]) (.rowf nx) ((nx, .row e de.size (fr && f2) false (els ++ els2)) :: ups) := by
            intro f2 els2 hc hadd hbd
            rw [← hbytes] at hbd
            rw [← hsize] at hadd ⊢
            rcases srcRow_ok hh ha hsrc hc with ⟨A, rfl, rfl, hd, hnx⟩ | ⟨e0, sz0, h, g, cap, cur, els0, he0, q1, rfl, rfl, q3, q4, q5, q6, q7, q8, q9, q10⟩
            · have := append_nil (tx := t2) (fr := fr && f2) hh hd (hnx nx hn) hty hi hiz (hz2.trans (hzl.trans hsize.symm)) (by omega) A (ty := ty) (x := y) (els := els2) ?_ (by simpa using hbd.1) (by simpa using hbd.2)
              · exact this
              · obtain ⟨news, s1, s2, s3⟩ := hadd.ex
                refine ⟨news, s1, s2, fun j v hv => ?_⟩
                obtain ⟨c', s4, s5⟩ := s3 j v hv
                refine ⟨c', s4, s5.mono (fun _ _ => rfl) (fun b hb => ?_)⟩
                cases f2 with
                | false => cases fr <;> exact hb
                | true => cases fr with
                  | true => exact hb
                  | false => exact hh.sub b hb
            · obtain ⟨rfl, rfl⟩ := hes _ _ he0
              rw [← hsize] at q3 q7 q9
              exact append_row hh hn hty hi hiz (hz2.trans (hzl.trans hsize.symm)) (by omega) q3 q4 q1 q5 q7 q8 q6 q9 q10 hadd hbd.1 hbd.2
          split
          · rename_i k f k' n hk2
            intro hc
            obtain ⟨h0, h1, h2⟩ : 0 ≤ n ∧ n * de.bytes ≤ 140737488355328 ∧ n ≤ 140737488355328 := hc
            obtain ⟨m, rfl⟩ : ∃ m : Nat, n = m := ⟨n.toNat, by omega⟩
            rw [Int.toNat_natCast]
            have htn := (tyOk hT ht2).int hk2
            cases hb with | p _ _ _ hb => cases hb with | int =>
            have hA : ∃ A, x = .slice A 0 0 ∧ ups = [] := by
              unfold srcRow at hsrc
              split at hsrc
              · simp only [Option.some.injEq, Prod.mk.injEq] at hsrc
                obtain ⟨_, _, _, _, rfl, _⟩ := hsrc
                cases ha with | p _ _ _ ha => cases ha with | nilsl A => exact ⟨A, rfl, rfl⟩
              · split at hsrc
                · simp at hsrc
                · cases hsrc
              · split at hsrc
                · simp at hsrc
                · cases hsrc
              · cases hsrc
            obtain ⟨A, rfl, rfl⟩ := hA
            have hbm : m * i.bytes ≤ 140737488355328 := by
              rw [hbytes]
              have : ((m * de.bytes : Nat) : Int) ≤ 140737488355328 := by rw [Int.natCast_mul]; exact h1
              omega
            obtain ⟨hce, hzv⟩ := zeros_show (w := w) (F := flagF true F1 F2) hsz hzl hz2 hz3 m
            have hzs : z.cells.size = i.size := hz2.trans (hzl.trans hsize.symm)
            by_cases hm0 : m = 0
            · subst hm0
              have hr : (Builtin.append_ #[t, t2] ty #[.slice A 0 0, .int k' ((0 : Nat) : Int)]).run P w = .ok (.slice A 0 0) w := by
                have hw : IntKind.i64.wrap 0 = 0 := by rw [IntKind.wrap_i64]; omega
                cases A <;> simp [Builtin.append_, run_underlying hty, run_underlying htn, sizeOf, typeInfo, hi, asInt, asIntOf, hw, storeCells]
              have hc := Chg.empty (nx := nx) hh hn e hsz true
              exact ⟨_, _, _, _, _, hr, hc, avr_rowf (upd_head _ _ _) (by rw [updR_same]; exact ⟨rfl, rfl, A, rfl⟩)⟩
            · have hold : (Builtin.firstCells i.size 0 (.slice A 0 0)).run P w.drew = .ok ([] : List Value).toArray w.drew := by
                cases A with
                | none => exact run_firstCells_none w.drew i.size 0 0 0
                | some ad => exact run_firstCells_some w.drew i.size 0 ad 0 0 [] (by simp) (fun j v hj => by simp at hj)
              have hr := Lib.run_append_grow_zeros (P := P) w t t2 ty e i z k' k hty htn hi hiz A 0 0 [] hold m (by omega) (by omega) (by omega) (by omega) (by omega) (growslice_fits (by omega) (by simpa using hbm))
              simp only [Nat.zero_add, List.nil_append] at hr
              have hcap := grownCap_ge w m 0 e
              have hcm : grownCap w m 0 e ≤ maxLen := grownCap_le_maxLen w _ _ e (by unfold maxLen; omega)
              have hd2 := Chg.drew hh
              have hnr := Chg.newRow (w := w.drew) (nx := nx) (cap := grownCap w m 0 e) (sz := de.size) (fr := true) (els := List.replicate m (match de.zero with | [x] => x | zs => PV.agg zs)) (e := e)
                (w' := w.drew.alloc (.cells (#[] ++ Builtin.zeroCells z.cells m ++ Builtin.zeroCells z.cells (grownCap w m 0 e - m)) e)) hd2.heap hn rfl rfl rfl rfl hsz hce (by simpa using hcap) hcm
                (by simp only [Array.size_append, size_zeroCells, hzs, hsize, Array.size_empty, Nat.zero_add, ← Nat.add_mul]; congr 1; omega)
                (fun j v hj => by
                  obtain ⟨h3, h4⟩ := hzv j v hj
                  have hj2 : j < (Builtin.zeroCells z.cells m).size := by rw [size_zeroCells, hzs, hsize]; exact h3
                  have h5 : (#[] ++ Builtin.zeroCells z.cells m ++ Builtin.zeroCells z.cells (grownCap w m 0 e - m))[j]? = some (z.cells[j % z.cells.size]!) := by
                    rw [Array.empty_append, Array.getElem?_append_left hj2]
                    unfold Builtin.zeroCells
                    rw [size_zeroCells] at hj2
                    simp [hj2]
                  rw [getD_of_getA h5]
                  exact PVR.mono (w := w) (w' := w.drew) (fun _ _ => rfl) (fun _ h => h) h4)
              have hc := hd2.comp hnr
              exact ⟨_, _, _, _, _, hr, hc, avr_rowf (upd_head _ _ _) (by rw [updR_same]; exact ⟨by simp; omega, some ⟨w.heap.size, 0, none⟩, by simp, fun _ => by simp⟩)⟩
          · trivial
          · rename_i f s hk2
            split
            · rename_i h1
              intro hc
              obtain ⟨hca, hcb⟩ := allP_append hc
              have h1 := Nat.eq_of_beq_eq_true h1
              cases hb with | p _ _ _ hb => cases hb with | str =>
              have hstr := (tyOk hT ht2).str hk2
              have hadd := Added.ofString (P := P) (w := w) hstr s (flagF true F1 F2)
              rw [← h1] at hadd
              have := key (f2 := true) hca hadd (by rw [strEls_length]; exact hcb)
              simpa using this
            · trivial
          · rename_i e2 hk2
            split
            · rename_i f2 els2 rd2 hadd
              intro hc
              obtain ⟨hca, hcb⟩ := allP_append hc
              exact key hca (Added.ofView hh ((tyOk hT ht2).slice hk2) hb hadd) hcb
            · trivial
          · trivial
        · trivial
      · trivial
    · trivial
  · trivial
end
end Go.Proofs.Ytjgmlkogppibfaa.Ev
