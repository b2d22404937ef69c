/- A function's contract from its text. No conditions. -/
import Derived.Test.YtjgmlkogppibfaaEvCall3
namespace Go.Proofs.Ytjgmlkogppibfaa.Ev
open Go
set_option linter.unusedVariables false
set_option linter.unusedSimpArgs false
section
variable {P : Program} {Γ : List (FuncId × Ctr)} {T : Tab} {w : World} {F1 F2 : Nat → Prop} {ρ : Nat → Option (Nat × Nat)} {H : Hp} {a : Act}
theorem fits_ok : ∀ {l : List AV} {n : Nat}, fits l n = true → l.length ≤ n
  | [], n, _ => by simp
  | _ :: r, 0, h => by cases h
  | _ :: r, n + 1, h => by
    have := fits_ok (l := r) (n := n) h
    simp
    omega
theorem argEnv_look : ∀ {l : List AV} {n t : Nat} {v : AV}, look (argEnv n l) t = some v → n ≤ t ∧ l[t - n]? = some v
  | [], n, t, v, h => by cases h
  | b :: r, n, t, v, h => by
    unfold argEnv at h
    by_cases hn : n = t
    · subst hn
      rw [look_cons_same] at h
      obtain rfl := Option.some.inj h
      simp
    · rw [look_cons_ne _ _ hn] at h
      obtain ⟨h1, h2⟩ := argEnv_look h
      refine ⟨by omega, ?_⟩
      rw [show t - n = t - (n + 1) + 1 by omega]
      simpa using h2
def rsem (tmps : Array Value) : ResultVar → Sem Value
  | .tmp t => pure (tmps.getD t undef)
  | .cell q t => do loadVar t (← asAddr (tmps.getD q undef))
theorem results_eq (fn : Func) (tmps : Array Value) : results fn tmps = (do
    let vs ← fn.results.mapM (rsem tmps)
    pure (if h : vs.size = 1 then vs[0] else .tuple vs)) := rfl
theorem resOne_ok (hT : tabOk P T = true) {k0 : Nat} {s : St} (hh : HeapR k0 w F1 F2 ρ (look s.heap)) (he : EnvR w F1 F2 ρ (look s.heap) (look s.env) a) {r : ResultVar} {ps : List Prop} {v : AV} (h : resOne T s r = some (ps, v)) (hp : allP ps) :
    ∃ c, (rsem a.tmps r).run P w = Result.ok c w ∧ AVR w F1 F2 ρ (look s.heap) v c := by
  cases r with
  | tmp t =>
    unfold resOne at h
    dsimp only at h
    cases h1 : look s.env t with
    | none => rw [h1] at h; cases h
    | some u =>
      rw [h1] at h
      simp only [Option.some.injEq, Prod.mk.injEq] at h
      obtain ⟨rfl, rfl⟩ := h
      exact ⟨a.tmps.getD t undef, by simp [rsem], he t u h1⟩
  | cell q t =>
    unfold resOne at h
    dsimp only at h
    split at h
    · rename_i hq off heq
      have ha := he q _ heq
      generalize hx : a.tmps.getD q undef = x at ha
      cases ha with | ptr _ _ b cp o ho hr =>
      split at h
      · rename_i cs d hH ht
        have hty := tyOk hT ht
        obtain ⟨b', cp', cur, ty, h1, h2, h3, h4⟩ := hh.obj hq _ hH
        rw [hr] at h1
        obtain ⟨rfl, rfl⟩ := Prod.mk.inj (Option.some.inj h1)
        have hcell : ∀ i, i < cs.length → w.cell? ⟨b, i, none⟩ = some (cur.getD i undef) := fun i hi => by
          simp [World.cell?, h2, Array.getD_eq_getD_getElem?, show i < cur.size by omega]
        split at h
        · rename_i hagg
          simp only [Option.some.injEq, Prod.mk.injEq] at h
          obtain ⟨rfl, rfl⟩ := h
          have hle : off + d.size ≤ cs.length := hp
          have hrun := run_loadCells (P := P) (w := w) ⟨b, off, none⟩ d.size (fun j => cur.getD (off + j) undef) (fun j hj => by rw [Addr.add_mid]; exact hcell _ (by omega))
          refine ⟨.agg ((List.range d.size).map (fun j => cur.getD (off + j) undef)).toArray, ?_, ?_⟩
          · simp only [rsem, hx, asAddr, Sem.run_bind, Sem.run_pure, Result.andThen_ok, loadVar, hty.isAgg, hagg, if_true, hty.sizeOf, hrun]
          · refine .agg _ _ (by simp; omega) fun i v hv => ?_
            rw [List.getElem?_take] at hv
            split at hv
            · rename_i hi
              rw [List.getElem?_drop] at hv
              have : (((List.range d.size).map (fun j => cur.getD (off + j) undef)).toArray).getD i undef = cur.getD (off + i) undef := by simp [Array.getD_eq_getD_getElem?, hi]
              rw [this]
              exact h4 _ v hv
            · cases hv
        · rename_i hagg
          split at h
          · rename_i u r hd
            simp only [Option.some.injEq, Prod.mk.injEq] at h
            obtain ⟨rfl, rfl⟩ := h
            have hv : cs[off]? = some u := by
              have := congrArg (fun l => l[0]?) hd
              simpa [List.getElem?_drop] using this
            have hlt : off < cs.length := by
              rcases Nat.lt_or_ge off cs.length with h | h
              · exact h
              · simp [List.getElem?_eq_none h] at hv
            refine ⟨cur.getD off undef, ?_, h4 _ u hv⟩
            simp only [rsem, hx, asAddr, Sem.run_bind, Sem.run_pure, Result.andThen_ok, loadVar, hty.isAgg, hagg, if_false, Bool.false_eq_true]
            simp [load, Sem.run, hcell off hlt]
          · cases h
      · cases h
    · cases h
theorem resL_ok (hT : tabOk P T = true) {k0 : Nat} {s : St} (hh : HeapR k0 w F1 F2 ρ (look s.heap)) (he : EnvR w F1 F2 ρ (look s.heap) (look s.env) a) : ∀ {rs : List ResultVar} {ps : List Prop} {vs : List AV}, resL T s rs = some (ps, vs) → allP ps → ∃ cs : List Value, (rs.mapM (rsem a.tmps)).run P w = Result.ok cs w ∧ cs.length = rs.length ∧ vs.length = rs.length ∧
    ∀ (i : Nat) (v : AV), vs[i]? = some v → ∃ c, cs[i]? = some c ∧ AVR w F1 F2 ρ (look s.heap) v c
  | [], ps, vs, h, _ => by
    cases h
    exact ⟨[], by simp, rfl, rfl, fun i v hv => by simp at hv⟩
  | r :: rs, ps, vs, h, hp => by
    unfold resL at h
    cases h1 : resOne T s r with
    | none => rw [h1] at h; cases h
    | some q =>
      obtain ⟨c, v⟩ := q
      cases h2 : resL T s rs with
      | none => rw [h1, h2] at h; cases h
      | some q2 =>
        obtain ⟨d, us⟩ := q2
        rw [h1, h2] at h
        simp only [Option.some.injEq, Prod.mk.injEq] at h
        obtain ⟨rfl, rfl⟩ := h
        obtain ⟨hp1, hp2⟩ := allP_append hp
        obtain ⟨x, r1, r2⟩ := resOne_ok hT hh he h1 hp1
        obtain ⟨cs, q1, q2, q3, q4⟩ := resL_ok hT hh he h2 hp2
        refine ⟨x :: cs, ?_, by simp [q2], by simp [q3], fun i u hu => ?_⟩
        · rw [List.mapM_cons]
          simp [r1, q1]
        · cases i with
          | zero =>
            obtain rfl : v = u := by simpa using hu
            exact ⟨_, by simp, r2⟩
          | succ i =>
            obtain ⟨c, h3, h4⟩ := q4 i u (by simpa using hu)
            exact ⟨c, by simpa using h3, h4⟩
theorem resAV_ok (hT : tabOk P T = true) {k0 : Nat} {fn : Func} {s : St} {ps : List Prop} {v : AV} (hh : HeapR k0 w F1 F2 ρ (look s.heap)) (h : resAV T fn s = some (ps, v)) (hp : allP ps) (he : EnvR w F1 F2 ρ (look s.heap) (look s.env) a) : ∃ c, (results fn a.tmps).run P w = Result.ok c w ∧ AVR w F1 F2 ρ (look s.heap) v c := by
  have key : ∀ vs, resL T s fn.results.toList = some (ps, vs) → fn.results.toList.length ≠ 1 → ∃ c, (results fn a.tmps).run P w = Result.ok c w ∧ AVR w F1 F2 ρ (look s.heap) (.tuple vs) c := by
    intro vs hvs hne
    obtain ⟨cs, h1, h2, h3, h4⟩ := resL_ok (P := P) hT hh he hvs hp
    refine ⟨.tuple cs.toArray, ?_, .tuple vs _ (by simp [h2, h3]) fun i u hu => ?_⟩
    · rw [results_eq, Array.mapM_eq_mapM_toList]
      have : cs.length ≠ 1 := by rw [h2]; exact hne
      simp [h1, this]
    · obtain ⟨c, h5, h6⟩ := h4 i u hu
      simpa [Array.getD_eq_getD_getElem?, h5] using h6
  unfold resAV at h
  split at h
  · rename_i hl
    simp only [Option.some.injEq, Prod.mk.injEq] at h
    obtain ⟨rfl, rfl⟩ := h
    exact key [] (by rw [hl]; rfl) (by rw [hl]; simp)
  · rename_i r hl
    obtain ⟨c, h1, h2⟩ := resOne_ok hT hh he h hp
    refine ⟨c, ?_, h2⟩
    rw [results_eq, Array.mapM_eq_mapM_toList, hl]
    simp [h1]
  · rename_i hn0 hn1
    split at h
    · rename_i c vs hvs
      simp only [Option.some.injEq, Prod.mk.injEq] at h
      obtain ⟨rfl, rfl⟩ := h
      refine key vs hvs fun hlen => ?_
      cases hl : fn.results.toList with
      | nil => rw [hl] at hlen; simp at hlen
      | cons r rs =>
        rw [hl] at hlen
        have : rs = [] := by simpa using hlen
        subst this
        exact hn1 r hl
    · cases h
theorem does_sound (hm : P.follows .mixedOrders = true) (hT : tabOk P T = true) (hΓ : GamOk P Γ) {f : FuncId} {fn : Func} (hf : P.funcs[f]? = some fn) {c : Ctr} (h : Does Γ T fn c) : Sound P f c := by
  intro ix hpre w F1 F2 ρ cs hh ha hlow
  have hdo := h ix hpre
  cases hb : fn.body with
  | none => rw [hb] at hdo; exact hdo.elim
  | some code =>
    rw [hb] at hdo
    cases hfit : fits (c.args ix) fn.ntmps with
    | false => rw [hfit] at hdo; exact hdo.elim
    | true =>
      rw [hfit] at hdo
      simp only [fEnv_eq, fUps_eq, fNat_eq] at hdo
      have hlen := fits_ok hfit
      let x : Cx := ⟨c.k, fn.ntmps, w, ρ, look (c.heap ix), F1, F2⟩
      have hx : CxOk x := ⟨hlow⟩
      have hsz : cs.size = (c.args ix).length := ha.1
      refine calls_of_wp hf hb (aw_sound (x := x) hm hT hΓ hx code _ _ hdo _ w _ (fun i hi => ?_) ?_ fun e s' a' w' h1 h2 h3 => ?_)
      · exact (nxOf_ge (c.heap ix) c.k).2 i hi
      · refine ⟨rfl, by simp [hsz]; exact Nat.add_sub_cancel' hlen, F1, F2, ρ, ⟨hh, rfl, rfl, rfl, Nat.le_refl _, fun _ _ _ => rfl, fun _ _ => rfl, fun h o b cp ho hr => .inr ⟨h, o, cp, ho, hr⟩, fun h o ho => ⟨rfl, o, ho⟩, fun _ h => h, fun _ h => .inl h, fun _ h => h, fun _ h => .inl h⟩, fun t v ht => ?_⟩
        obtain ⟨_, h2⟩ := argEnv_look ht
        have hlt : t < (c.args ix).length := by
          have := (List.getElem?_eq_some_iff.1 h2).1
          omega
        have := ha.2 t v (by simpa using h2)
        simpa [Array.getD_eq_getD_getElem?, Array.getElem?_append, show t < cs.size by omega] using this
      · have hend : retOk T c ix fn s' → a'.defers = [] ∧ ∃ v, (results fn a'.tmps).run P w' = Result.ok v w' ∧ ∃ cv F1' F2' ρ', Ending.returned v = Ending.returned cv ∧ Fin c.k w F1 F2 ρ (look (c.heap ix)) cv w' (c.res ix) (look (c.heap' ix)) F1' F2' ρ' := by
          intro hret
          unfold retOk at hret
          obtain ⟨q1, q2, G1, G2, ρ1, hc, he⟩ := h3
          cases hv : resAV T fn s' with
          | none => rw [hv] at hret; exact hret.elim
          | some q =>
            obtain ⟨ps, v⟩ := q
            rw [hv] at hret
            simp only [fAV_eq] at hret
            obtain ⟨hps, hret⟩ : allP ps ∧ emb false c.k ⟨[(0, c.res ix)], c.heap' ix, 1000000⟩ ⟨[(0, v)], s'.heap, s'.nx⟩ := by
              split at hret
              · exact ⟨trivial, hret⟩
              · exact hret
            obtain ⟨cv, r1, r2⟩ := resAV_ok (P := P) hT hc.heap hv hps he
            obtain ⟨σ, l, hf', hheap, henv, hrows, hls, hbel, hnd, hkn, htg, _⟩ := emb_core hret hc.heap
            have hrow : ∀ h ∈ l, ∀ b, RowB ρ1 (look s'.heap) h b → x.own b := by
              rintro h hm b ⟨e, sz, fr, fz, els, c1, ho, hr⟩
              exact hc.own h _ b c1 ho hr
            obtain ⟨v', hv', hav⟩ := henv 0 (c.res ix) (by simp)
            have hvv : v = v' := by
              rw [show look [(0, v)] 0 = some v from rfl] at hv'
              exact Option.some.inj hv'
            subst hvv
            refine ⟨q1, cv, r1, cv, _, _, _, rfl, ⟨hheap c.k, hav cv r2, hc.os, hc.tape, hc.output, hc.size, hc.wr, hc.blk, fun b hb => .inl (hc.f1 b hb), fun b hb => ?_, fun b hb => .inl (hc.f2 b hb), fun b hb => ?_, fun h o o' hk ho ho' => ?_, fun h o b cp ho hr => ?_⟩⟩
            · rcases hb with hb | ⟨h, hm, hr⟩
              · exact hc.g1 b hb
              · exact .inr (hrow h hm b hr)
            · rcases hb with hb | ⟨h, hm, hk, hr⟩
              · exact hc.g2 b hb
              · exact .inr (hrow h hm b hr)
            · obtain ⟨t, ht⟩ := htg h o' ho'
              obtain rfl := (lentSame_ok hls h t (tgt_mem ht)).1 hk
              unfold rhoOf
              rw [ht]
              exact (hc.old h o ho).1
            · obtain ⟨t, h', p1, p2, p3⟩ := rhoOf_some hr
              obtain ⟨o1, ho1, hm1⟩ := hf' h t p1
              obtain ⟨o', ho'⟩ := hm1.target p2
              exact hc.own h' o' b cp ho' p3
        cases e with
        | normal => exact hend h1
        | ret => exact hend h1
        | _ => exact h1.elim
/-- One function more. -/
theorem GamOk.cons (hΓ : GamOk P Γ) {f : FuncId} {fn : Func} (hf : P.funcs[f]? = some fn) (hname : (fn.name == "runtime.NumGoroutine") = false) (hb : fn.body.isSome = true) {c : Ctr} (hS : Sound P f c) : GamOk P ((f, c) :: Γ) := by
  intro g d hg
  by_cases h : f = g
  · subst h
    rw [look_cons_same] at hg
    obtain rfl := Option.some.inj hg
    refine ⟨fun args w => ?_, fun k0 nx vs cs w F1 F2 ρ H hh ha x ps v rd ups hc hp hn => call_ok hS hh ha hc hp hn⟩
    have h1 : fn.name ≠ "runtime.NumGoroutine" := by simpa using hname
    cases hbb : fn.body with
    | none => rw [hbb] at hb; cases hb
    | some code => simp [callFunc, hf, h1, hbb]
  · rw [look_cons_ne _ _ h] at hg
    exact hΓ g d hg
theorem GamOk.nil : GamOk P [] := fun f c h => by cases h
theorem GamOk.step (hm : P.follows .mixedOrders = true) (hT : tabOk P T = true) (hΓ : GamOk P Γ) {f : FuncId} {fn : Func} (hf : P.funcs[f]? = some fn) (hname : (fn.name == "runtime.NumGoroutine") = false) (hb : fn.body.isSome = true) {c : Ctr} (h : Does Γ T fn c) : GamOk P ((f, c) :: Γ) :=
  GamOk.cons hΓ hf hname hb (does_sound hm hT hΓ hf h)
end
end Go.Proofs.Ytjgmlkogppibfaa.Ev
