/- A function's contract from its text. No conditions. -/
import Derived.Test.YtonbbaimkpjcfaaEvCall3
namespace Go.Proofs.Ytonbbaimkpjcfaa.Ev
open Go
set_option linter.unusedVariables false
set_option linter.unusedSimpArgs false
section
variable {P : Program} {Γ : List (FuncId × Ctr)} {T : Tab} {w : World} {F1 F2 : Nat → Prop} {ρ : Nat → Option (Nat × Nat)} {H : Hp} {a : Act}
theorem fits_ok : ∀ {l : List AV} {n : Nat}, fits l n = true → l.length ≤ n
  | [], n, _ => by simp
  | _ :: r, 0, h => by cases h
  | _ :: r, n + 1, h => by
    have := fits_ok (l := r) (n := n) h
    simp
    omega
theorem argEnv_look : ∀ {l : List AV} {n t : Nat} {v : AV}, look (argEnv n l) t = some v → n ≤ t ∧ l[t - n]? = some v
  | [], n, t, v, h => by cases h
  | b :: r, n, t, v, h => by
    unfold argEnv at h
    by_cases hn : n = t
    · subst hn
      rw [look_cons_same] at h
      obtain rfl := Option.some.inj h
      simp
    · rw [look_cons_ne _ _ hn] at h
      obtain ⟨h1, h2⟩ := argEnv_look h
      refine ⟨by omega, ?_⟩
      rw [show t - n = t - (n + 1) + 1 by omega]
      simpa using h2
def rsem (tmps : Array Value) : ResultVar → Sem Value
  | .tmp t => pure (tmps.getD t undef)
  | .cell q t => do loadVar t (← asAddr (tmps.getD q undef))
theorem results_eq (fn : Func) (tmps : Array Value) : results fn tmps = (do
    let vs ← fn.results.mapM (rsem tmps)
    pure (if h : vs.size = 1 then vs[0] else .tuple vs)) := rfl
theorem resL_ok {s : St} (he : EnvR w F1 F2 ρ H (look s.env) a) : ∀ {rs : List ResultVar} {vs : List AV}, resAV.resL s rs = some vs → ∃ cs : List Value, (rs.mapM (rsem a.tmps)).run P w = Result.ok cs w ∧ cs.length = rs.length ∧ vs.length = rs.length ∧
    ∀ (i : Nat) (v : AV), vs[i]? = some v → ∃ c, cs[i]? = some c ∧ AVR w F1 F2 ρ H v c
  | [], vs, h => by
    cases h
    exact ⟨[], by simp, rfl, rfl, fun i v hv => by simp at hv⟩
  | .cell q t :: r, vs, h => by cases h
  | .tmp t :: r, vs, h => by
    unfold resAV.resL at h
    cases h1 : look s.env t with
    | none => rw [h1] at h; cases h
    | some v =>
      cases h2 : resAV.resL s r with
      | none => rw [h1, h2] at h; cases h
      | some us =>
        rw [h1, h2] at h
        obtain rfl := Option.some.inj h
        obtain ⟨cs, q1, q2, q3, q4⟩ := resL_ok he h2
        refine ⟨a.tmps.getD t undef :: cs, ?_, by simp [q2], by simp [q3], fun i u hu => ?_⟩
        · rw [List.mapM_cons]
          simp [rsem, q1]
        · cases i with
          | zero =>
            obtain rfl : v = u := by simpa using hu
            exact ⟨_, by simp, he t v h1⟩
          | succ i =>
            obtain ⟨c, h3, h4⟩ := q4 i u (by simpa using hu)
            exact ⟨c, by simpa using h3, h4⟩
theorem resAV_ok {fn : Func} {s : St} {v : AV} (h : resAV fn s = some v) (he : EnvR w F1 F2 ρ H (look s.env) a) : ∃ c, (results fn a.tmps).run P w = Result.ok c w ∧ AVR w F1 F2 ρ H v c := by
  have key : ∀ vs, resAV.resL s fn.results.toList = some vs → fn.results.toList.length ≠ 1 → ∃ c, (results fn a.tmps).run P w = Result.ok c w ∧ AVR w F1 F2 ρ H (.tuple vs) c := by
    intro vs hvs hne
    obtain ⟨cs, h1, h2, h3, h4⟩ := resL_ok (P := P) he hvs
    refine ⟨.tuple cs.toArray, ?_, .tuple vs _ (by simp [h2, h3]) fun i u hu => ?_⟩
    · rw [results_eq, Array.mapM_eq_mapM_toList]
      have : cs.length ≠ 1 := by rw [h2]; exact hne
      simp [h1, this]
    · obtain ⟨c, h5, h6⟩ := h4 i u hu
      simpa [Array.getD_eq_getD_getElem?, h5] using h6
  unfold resAV at h
  split at h
  · rename_i hl
    obtain rfl := Option.some.inj h
    exact key [] (by rw [hl]; rfl) (by rw [hl]; simp)
  · rename_i t hl
    refine ⟨a.tmps.getD t undef, ?_, he t v h⟩
    rw [results_eq, Array.mapM_eq_mapM_toList, hl]
    simp [rsem]
  · rename_i hn0 hn1
    split at h
    · rename_i vs hvs
      obtain rfl := Option.some.inj h
      refine key vs hvs fun hlen => ?_
      cases hl : fn.results.toList with
      | nil => rw [hl] at hlen; simp at hlen
      | cons r rs =>
        rw [hl] at hlen
        have : rs = [] := by simpa using hlen
        subst this
        cases r with
        | tmp t => exact hn1 t hl
        | cell q t => rw [hl] at hvs; cases hvs
    · cases h
theorem does_sound (hm : P.follows .mixedOrders = true) (hT : tabOk P T = true) (hΓ : GamOk P Γ) {f : FuncId} {fn : Func} (hf : P.funcs[f]? = some fn) {c : Ctr} (h : Does Γ T fn c) : Sound P f c := by
  intro ix hpre w F1 F2 ρ cs hh ha hlow
  have hdo := h ix hpre
  cases hb : fn.body with
  | none => rw [hb] at hdo; exact hdo.elim
  | some code =>
    rw [hb] at hdo
    cases hfit : fits (c.args ix) fn.ntmps with
    | false => rw [hfit] at hdo; exact hdo.elim
    | true =>
      rw [hfit] at hdo
      simp only [fEnv_eq, fUps_eq, fNat_eq] at hdo
      have hlen := fits_ok hfit
      let x : Cx := ⟨c.k, fn.ntmps, w, ρ, look (c.heap ix), F1, F2⟩
      have hx : CxOk x := ⟨hlow⟩
      have hsz : cs.size = (c.args ix).length := ha.1
      refine calls_of_wp hf hb (aw_sound (x := x) hm hT hΓ hx code _ _ hdo _ w _ (fun i hi => ?_) ?_ fun e s' a' w' h1 h2 h3 => ?_)
      · exact (nxOf_ge (c.heap ix) c.k).2 i hi
      · refine ⟨rfl, by simp [hsz]; exact Nat.add_sub_cancel' hlen, F1, F2, ρ, ⟨hh, rfl, rfl, rfl, Nat.le_refl _, fun _ _ _ => rfl, fun _ _ => rfl, fun h o b cp ho hr => .inr ⟨h, o, cp, ho, hr⟩, fun h o ho => ⟨rfl, o, ho⟩, fun _ h => h, fun _ h => .inl h, fun _ h => h, fun _ h => .inl h⟩, fun t v ht => ?_⟩
        obtain ⟨_, h2⟩ := argEnv_look ht
        have hlt : t < (c.args ix).length := by
          have := (List.getElem?_eq_some_iff.1 h2).1
          omega
        have := ha.2 t v (by simpa using h2)
        simpa [Array.getD_eq_getD_getElem?, Array.getElem?_append, show t < cs.size by omega] using this
      · have hend : retOk c ix fn s' → a'.defers = [] ∧ ∃ v, (results fn a'.tmps).run P w' = Result.ok v w' ∧ ∃ cv F1' F2' ρ', Ending.returned v = Ending.returned cv ∧ Fin c.k w F1 F2 ρ (look (c.heap ix)) cv w' (c.res ix) (look (c.heap' ix)) F1' F2' ρ' := by
          intro hret
          unfold retOk at hret
          obtain ⟨q1, q2, G1, G2, ρ1, hc, he⟩ := h3
          cases hv : resAV fn s' with
          | none => rw [hv] at hret; exact hret.elim
          | some v =>
            rw [hv] at hret
            obtain ⟨cv, r1, r2⟩ := resAV_ok (P := P) hv he
            obtain ⟨σ, l, hf', hheap, henv, hrows, hls, hbel, hnd, hkn, htg, _⟩ := emb_core hret hc.heap
            have hrow : ∀ h ∈ l, ∀ b, RowB ρ1 (look s'.heap) h b → x.own b := by
              rintro h hm b ⟨e, sz, fr, fz, els, c1, ho, hr⟩
              exact hc.own h _ b c1 ho hr
            obtain ⟨v', hv', hav⟩ := henv 0 (c.res ix) (by simp)
            have hvv : v = v' := by
              rw [show look [(0, v)] 0 = some v from rfl] at hv'
              exact Option.some.inj hv'
            subst hvv
            refine ⟨q1, cv, r1, cv, _, _, _, rfl, ⟨hheap c.k, hav cv r2, hc.os, hc.tape, hc.output, hc.size, hc.wr, hc.blk, fun b hb => .inl (hc.f1 b hb), fun b hb => ?_, fun b hb => .inl (hc.f2 b hb), fun b hb => ?_, fun h o o' hk ho ho' => ?_, fun h o b cp ho hr => ?_⟩⟩
            · rcases hb with hb | ⟨h, hm, hr⟩
              · exact hc.g1 b hb
              · exact .inr (hrow h hm b hr)
            · rcases hb with hb | ⟨h, hm, hk, hr⟩
              · exact hc.g2 b hb
              · exact .inr (hrow h hm b hr)
            · obtain ⟨t, ht⟩ := htg h o' ho'
              obtain rfl := (lentSame_ok hls h t (tgt_mem ht)).1 hk
              unfold rhoOf
              rw [ht]
              exact (hc.old h o ho).1
            · obtain ⟨t, h', p1, p2, p3⟩ := rhoOf_some hr
              obtain ⟨o1, ho1, hm1⟩ := hf' h t p1
              obtain ⟨o', ho'⟩ := hm1.target p2
              exact hc.own h' o' b cp ho' p3
        cases e with
        | normal => exact hend h1
        | ret => exact hend h1
        | _ => exact h1.elim
/-- One function more. -/
theorem GamOk.cons (hΓ : GamOk P Γ) {f : FuncId} {fn : Func} (hf : P.funcs[f]? = some fn) (hname : (fn.name == "runtime.NumGoroutine") = false) (hb : fn.body.isSome = true) {c : Ctr} (hS : Sound P f c) : GamOk P ((f, c) :: Γ) := by
  intro g d hg
  by_cases h : f = g
  · subst h
    rw [look_cons_same] at hg
    obtain rfl := Option.some.inj hg
    refine ⟨fun args w => ?_, fun k0 nx vs cs w F1 F2 ρ H hh ha x ps v rd ups hc hp hn => call_ok hS hh ha hc hp hn⟩
    have h1 : fn.name ≠ "runtime.NumGoroutine" := by simpa using hname
    cases hbb : fn.body with
    | none => rw [hbb] at hb; cases hb
    | some code => simp [callFunc, hf, h1, hbb]
  · rw [look_cons_ne _ _ h] at hg
    exact hΓ g d hg
theorem GamOk.nil : GamOk P [] := fun f c h => by cases h
theorem GamOk.step (hm : P.follows .mixedOrders = true) (hT : tabOk P T = true) (hΓ : GamOk P Γ) {f : FuncId} {fn : Func} (hf : P.funcs[f]? = some fn) (hname : (fn.name == "runtime.NumGoroutine") = false) (hb : fn.body.isSome = true) {c : Ctr} (h : Does Γ T fn c) : GamOk P ((f, c) :: Γ) :=
  GamOk.cons hΓ hf hname hb (does_sound hm hT hΓ hf h)
end
end Go.Proofs.Ytonbbaimkpjcfaa.Ev
