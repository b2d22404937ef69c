/- A region whose order is drawn: the proof. No conditions. -/
import Derived.Test.YtjgmlkogppibfaaEvDraw2
namespace Go.Proofs.Ytjgmlkogppibfaa.Ev
open Go
set_option linter.unusedVariables false
set_option linter.unusedSimpArgs false

theorem beq_ne {i j : Nat} (h : i ≠ j) : Nat.beq i j = false := by
  cases hb : Nat.beq i j with
  | false => rfl
  | true => exact absurd (Nat.eq_of_beq_eq_true hb) h
theorem ready_iff {ops : Array Oper} {listed : Array Bool} {i : Nat} : i ∈ Region.ready .any ops listed ↔ i < ops.size ∧ listed.getD i true = false ∧ ∃ o, ops[i]? = some o ∧ ∀ e ∈ o.after.toList, Region.binds .any e = true → listed.getD e.on false = true := by
  unfold Region.ready
  rw [List.mem_filter, List.mem_range]
  constructor
  · rintro ⟨h1, h2⟩
    rw [Bool.and_eq_true] at h2
    obtain ⟨h2, h3⟩ := h2
    refine ⟨h1, by simpa using h2, ops[i], by simp [h1], fun e he hb => ?_⟩
    simp only [Array.getElem?_eq_getElem h1, Option.map_some, Option.getD_some] at h3
    rw [← Array.all_toList, List.all_eq_true] at h3
    have := h3 e he
    rw [hb] at this
    simpa using this
  · rintro ⟨h1, h2, o, h3, h4⟩
    refine ⟨h1, ?_⟩
    rw [h2, h3]
    simp only [Bool.not_false, Option.map_some, Option.getD_some, Bool.true_and]
    rw [← Array.all_toList, List.all_eq_true]
    intro e he
    cases hb : Region.binds .any e with
    | false => rfl
    | true => simpa using h4 e he hb
theorem rep_false (k n : Nat) : (Array.replicate k false).getD n false = false := by
  rw [Array.getD_eq_getD_getElem?, Array.getElem?_replicate]
  split <;> rfl
theorem dstOk_mem {nt : Nat} {o : Oper} : ∀ {l : List Oper}, dstOk nt l = true → o ∈ l → ∀ t, o.dst = some t → t < nt
  | [], _, h => by cases h
  | p :: r, hb, h => by
    simp only [dstOk, Bool.and_eq_true] at hb
    rcases List.mem_cons.1 h with rfl | h
    · intro t ht
      have := hb.1
      rw [ht] at this
      exact Nat.le_of_ble_eq_true this
    · exact dstOk_mem hb.2 h
section
variable {x : Cx} {P : Program} {Γ : List (FuncId × Ctr)} {T : Tab} {a : Act} {w : World}
theorem draw_sound (hm : P.follows .mixedOrders = true) (hT : tabOk P T = true) (hΓ : GamOk P Γ) {id : Nat} {ops : Array Oper} (hds : dstOk x.nt ops.toList = true) {s : St} (hfr : s.fresh) (hr : Rel x (look s.env) (look s.heap) a w) {K : St → Tr → Prop}
    (h : awOps Γ T x.k0 ops.toList true ops.toList s [] K) {Q : Exit → Act → World → Prop} (hK : ∀ s' tr a' w', K s' tr → (drawOk ops.toList tr.reverse = true → s'.fresh → Rel x (look s'.env) (look s'.heap) a' w' → Q .normal a' w'))
    (hdr : ∀ s' tr, K s' tr → drawOk ops.toList tr.reverse = true) : (Code.region id ops true).wp P Q a w := by
  obtain ⟨outs, hdone, T', hKK, hTl, hTe⟩ := awOps_outs _ _ _ h
  have hdraw := hdr _ _ hKK
  have hK := fun a' w' => hK _ _ a' w' hKK hdraw (stN_fresh hfr _)
  rw [List.append_nil, List.reverse_reverse] at hdraw
  unfold drawOk at hdraw
  rw [Bool.and_eq_true, Bool.and_eq_true] at hdraw
  obtain ⟨⟨hbelow, _⟩, htr⟩ := hdraw
  generalize hl : ops.toList = l at *
  have hsize : ops.size = l.length := by rw [← hl]; simp
  have hget : ∀ i : Nat, ops[i]? = l[i]? := fun i => by rw [← hl, Array.getElem?_toList]
  generalize hf : opsF l outs = f at *
  have hf1 : ∀ i, (f i).1 = (l.getD i default).dst := fun i => by rw [← hf]; rfl
  let pred (i j : Nat) : Prop := Nat.testBit ((bitsOf l []).getD j 0) i = true
  -- two that no edge parts
  have hun : ∀ i j, i < j → j < l.length → ¬ pred i j →
      (∀ t, (f i).1 = some t → t ∉ (l.getD j default).looksAt ops) ∧ (∀ t, (f i).1 = some t → (f j).1 ≠ some t) ∧ (∀ t, (f j).1 = some t → t ∉ (l.getD i default).looksAt ops) ∧
      (∀ k ∈ ids (f i).2.ups, k ∉ (stN f s j).nx :: (f j).2.rd ∧ k ∉ ids (f j).2.ups) ∧ ∀ k ∈ ids (f j).2.ups, k ∉ (stN f s i).nx :: (f i).2.rd := by
    intro i j hij hj hp
    rcases trOk_ok htr hj hij with h1 | ⟨h1, h2, h3⟩
    · exact absurd h1 hp
    · rw [hTe i (by omega), hTe j hj] at h2
      rw [hTe i (by omega), hTe j hj] at h3
      obtain ⟨h4, h5, h6⟩ := Oper.apart_spec h1
      have hops : l.toArray = ops := by rw [← hl]
      rw [hops] at h4 h6
      rw [hf1, hf1]
      exact ⟨h4, h5, h6, h2, h3⟩
  have hlt : ∀ i, i < l.length → l[i]? = some (l.getD i default) := fun i hi => getD_get hi
  refine wp_region_any hm ?_
  have key : ∀ (fuel : Nat) (listed : Array Bool) (a : Act) (w : World), listed.size = l.length → cnt (fun i => listed.getD i false) l.length = fuel →
      (∀ j, j < l.length → listed.getD j false = true → ∀ i, pred i j → listed.getD i false = true) →
      Rel x (envN f (fun i => listed.getD i false) (look s.env) l.length) (heapN f (fun i => listed.getD i false) (look s.heap) l.length) a w → wpAny P .any ops Q fuel listed a w := by
    intro fuel
    induction fuel with
    | zero =>
      intro listed a w hsz hc hcl hrel
      have hall := cnt_zero hc
      refine ⟨?_, hK a w ?_⟩
      · rw [List.eq_nil_iff_forall_not_mem]
        intro i hi
        obtain ⟨h1, h2, _⟩ := ready_iff.1 hi
        have := hall i (by omega)
        simp only [Array.getD_eq_getD_getElem?] at this h2
        rw [Array.getElem?_eq_getElem (by omega)] at this h2
        simp only [Option.getD_some] at this h2
        rw [this] at h2
        exact absurd h2 (by simp)
      · rw [stN_env (D := fun _ => true) (fun _ => rfl), stN_heap (D := fun _ => true) (fun _ => rfl)]
        rw [envN_congr (D' := fun _ => true) (fun i hi => hall i hi), heapN_congr (D' := fun _ => true) (fun i hi => hall i hi)] at hrel
        exact hrel
    | succ fuel ih =>
      intro listed a w hsz hc hcl hrel
      refine ⟨fun hnil => ?_, fun j hj => ?_⟩
      · obtain ⟨j, h1, h2, h3⟩ := cnt_least (D := fun i => listed.getD i false) (n := l.length) (by omega)
        exfalso
        have : j ∈ Region.ready .any ops listed := by
          refine ready_iff.2 ⟨by omega, ?_, l.getD j default, by rw [hget]; exact hlt j h1, fun e he hb => ?_⟩
          · simp only [Array.getD_eq_getD_getElem?] at h2 ⊢
            rw [Array.getElem?_eq_getElem (by omega)] at h2 ⊢
            exact h2
          · have := edgesBelow_ok hbelow j _ (hlt j h1) e he hb
            exact h3 e.on (by omega)
        rw [hnil] at this
        cases this
      · obtain ⟨hj1, hj2, o, ho, hed⟩ := ready_iff.1 hj
        rw [hsize] at hj1
        have hDj : listed.getD j false = false := by
          simp only [Array.getD_eq_getD_getElem?] at hj2 ⊢
          rw [Array.getElem?_eq_getElem (by omega)] at hj2 ⊢
          exact hj2
        have hoj : o = l.getD j default := by
          rw [hget, hlt j hj1] at ho
          exact (Option.some.inj ho).symm
        have hpre : ∀ i, pred i j → listed.getD i false = true := by
          intro i hp
          obtain ⟨e, he, hb, h1⟩ := testBit_bits (by rw [← hget]; exact ho) hp
          have h2 := hed e he hb
          rcases h1 with rfl | h1
          · exact h2
          · have : e.on < l.length := by
              by_cases hlt : e.on < l.length
              · exact hlt
              · rw [Array.getD_eq_getD_getElem?, Array.getElem?_eq_none (by omega)] at h2
                cases h2
            exact hcl e.on this h2 i h1
        -- those before it that are not listed, and those behind it that are
        have hA : ∀ i, i < j → listed.getD i false = false → ¬ pred i j := fun i _ h1 h2 => by rw [hpre i h2] at h1; cases h1
        have hB : ∀ i, j < i → i < l.length → listed.getD i false = true → ¬ pred j i := fun i _ h0 h1 h2 => by rw [hcl i h0 h1 j h2] at hDj; cases hDj
        have henv : ∀ t, t ∈ o.looksAt ops → envN f (fun i => listed.getD i false) (look s.env) l.length t = look (stN f s j).env t := by
          intro t ht
          rw [stN_env (D := fun _ => true) (fun _ => rfl), ← envN_upTo l.length (Nat.le_of_lt hj1)]
          refine envN_foot _ fun i hi hne => ?_
          rcases Nat.lt_trichotomy i j with h1 | h1 | h1
          · rw [upTo_true.2 h1] at hne
            have hDi : listed.getD i false = false := by
              cases hq : listed.getD i false with
              | false => rfl
              | true => exact absurd hq hne
            intro h2
            rw [hoj] at ht
            exact (hun i j h1 hj1 (hA i h1 hDi)).1 t h2 ht
          · subst h1
            rw [upTo_false (Nat.le_refl _)] at hne
            exact absurd hDj hne
          · rw [upTo_false (Nat.le_of_lt h1)] at hne
            have hDi : listed.getD i false = true := by
              cases hq : listed.getD i false with
              | true => rfl
              | false => exact absurd hq hne
            intro h2
            rw [hoj] at ht
            exact (hun j i h1 hi (hB i h1 hi hDi)).2.2.1 t h2 ht
        have hhp : ∀ k, (k ∈ (stN f s j).nx :: (f j).2.rd ∨ k ∈ ids (f j).2.ups) → heapN f (fun i => listed.getD i false) (look s.heap) l.length k = look (stN f s j).heap k := by
          intro k hk
          rw [stN_heap (D := fun _ => true) (fun _ => rfl), ← heapN_upTo l.length (Nat.le_of_lt hj1)]
          refine heapN_foot _ fun i hi hne => ?_
          rcases Nat.lt_trichotomy i j with h1 | h1 | h1
          · rw [upTo_true.2 h1] at hne
            have hDi : listed.getD i false = false := by
              cases hq : listed.getD i false with
              | false => rfl
              | true => exact absurd hq hne
            intro h2
            have := (hun i j h1 hj1 (hA i h1 hDi)).2.2.2.1 k h2
            exact hk.elim this.1 this.2
          · subst h1
            rw [upTo_false (Nat.le_refl _)] at hne
            exact absurd hDj hne
          · rw [upTo_false (Nat.le_of_lt h1)] at hne
            have hDi : listed.getD i false = true := by
              cases hq : listed.getD i false with
              | true => rfl
              | false => exact absurd hq hne
            intro h2
            have hu := hun j i h1 hi (hB i h1 hi hDi)
            rcases hk with hk | hk
            · exact hu.2.2.2.2 k h2 hk
            · exact (hu.2.2.2.1 k hk).2 h2
        have hjfr := stN_fresh (f := f) hfr j
        have hnx : heapN f (fun i => listed.getD i false) (look s.heap) l.length (stN f s j).nx = none := by
          rw [hhp _ (.inl (by simp))]
          exact hjfr _ (Nat.le_refl _)
        -- the operation, there
        have hdst : ∀ t, o.dst = some t → t < x.nt := dstOk_mem hds (List.mem_of_getElem? (by rw [← hget]; exact ho))
        obtain ⟨g, hg, hgo⟩ := hdone j hj1
        have hg' : guardOf l o (envN f (fun i => listed.getD i false) (look s.env) l.length) = some g := by
          rw [← hg, hoj]
          unfold guardOf
          cases hgu : (l.getD j default).guard with
          | none => rfl
          | some gw =>
            obtain ⟨q, want⟩ := gw
            simp only
            cases hq : (l[q]?).bind (·.dst) with
            | none => rfl
            | some d =>
              simp only
              rw [henv d (by
                rw [hoj]
                unfold Oper.looksAt
                refine List.mem_append_right _ ?_
                rw [hgu]
                simp only [hget, hq]
                simp)]
        have hwant : Region.wanted o (yielded ops a.tmps) = gdRun g := by
          obtain ⟨h1, h2, F1, F2, ρ, hc, he⟩ := hrel
          have := guard_run he h2 hds hg'
          rw [show l.toArray = ops by rw [← hl]] at this
          exact this
        -- on from there
        have hnext : ∀ a' w', Rel x (putF (envN f (fun i => listed.getD i false) (look s.env) l.length) o.dst (f j).2.v) (upd (heapN f (fun i => listed.getD i false) (look s.heap) l.length) (f j).2.ups) a' w' →
            wpAny P .any ops Q fuel (listed.setIfInBounds j true) a' w' := by
          intro a' w' hrel'
          have hD' : ∀ i, (listed.setIfInBounds j true).getD i false = (listed.getD i false || Nat.beq i j) := by
            intro i
            by_cases hij : i = j
            · subst hij
              simp [Array.getD_eq_getD_getElem?, Array.getElem?_setIfInBounds, show i < listed.size by omega]
            · rw [beq_ne hij, Bool.or_false]
              simp [Array.getD_eq_getD_getElem?, Array.getElem?_setIfInBounds, Ne.symm hij]
          have hcnt := cnt_add (D := fun i => listed.getD i false) (D' := fun i => (listed.setIfInBounds j true).getD i false) hDj hD' hj1
          refine ih _ a' w' (by simpa using hsz) (by omega) (fun q hq hDq i hp => ?_) ?_
          · rw [hD'] at hDq ⊢
            rw [Bool.or_eq_true] at hDq ⊢
            rcases hDq with h1 | h1
            · exact .inl (hcl q hq h1 i hp)
            · obtain rfl := Nat.eq_of_beq_eq_true h1
              exact .inl (hpre i hp)
          · rw [envN_add (D := fun i => listed.getD i false) hDj hD' l.length hj1 (fun i h1 h2 h3 => ?_), heapN_add (D := fun i => listed.getD i false) hDj hD' l.length hj1 (fun i h1 h2 h3 k hk => ?_), hf1, ← hoj]
            · exact hrel'
            · exact ((hun j i h1 h2 (hB i h1 h2 h3)).2.2.2.1 k hk).2
            · exact (hun j i h1 h2 (hB i h1 h2 h3)).2.1
        unfold wpOp
        rw [ho]
        simp only
        rw [hwant]
        rcases hgo with ⟨hg2, hok, hnd⟩ | ⟨hg2, hout⟩
        · rw [hg2, if_pos rfl]
          left
          rw [← hoj] at hok hnd
          have hfoot := OutOk.foot (e' := envN f (fun i => listed.getD i false) (look s.env) l.length) (H' := heapN f (fun i => listed.getD i false) (look s.heap) l.length) hok hnd (fun y hy => evalR_env fun t ht => ?_) (fun k hk => (hhp k (.inl (by simp [hk]))).symm)
          · refine out_wp hT hΓ hdst hrel (nx := (stN f s j).nx) (Os := fun out => out = (f j).2) ?_ hnx (fun out hout i hi hs => ?_) (fun out a' w' hout hr' => ?_)
            · cases hs : evalOp Γ T x.k0 o (envN f (fun i => listed.getD i false) (look s.env) l.length) (heapN f (fun i => listed.getD i false) (look s.heap) l.length) (stN f s j).nx with
              | dem c rd => exact absurd hs (hfoot.2 c rd)
              | _ => exact ⟨_, hfoot.1, rfl⟩
            · subst hout
              obtain ⟨ob, hob⟩ := Option.isSome_iff_exists.1 hs
              rw [hhp i (.inr (mem_ids.2 ⟨ob, look_mem hob⟩))]
              exact hjfr i hi
            · subst hout
              exact hnext a' w' hr'
          · subst ht
            refine (henv t ?_).symm
            exact List.mem_append_left _ (List.mem_filterMap.2 ⟨.tmp t, by simpa using hy, rfl⟩)
        · rw [hg2]
          rw [if_neg (by simp)]
          refine hnext _ _ ?_
          rw [hout]
          exact Rel.skip hrel hdst
  refine key ops.size (Array.replicate ops.size false) a _ (by simp [hsize]) ?_ (fun j hj h => ?_) ?_
  · rw [← hsize]
    have : ∀ n, n ≤ ops.size → cnt (fun i => (Array.replicate ops.size false).getD i false) n = n := by
      intro n
      induction n with
      | zero => intro _; rfl
      | succ n ih =>
        intro hn
        unfold cnt
        rw [ih (by omega), rep_false]
    exact this _ (Nat.le_refl _)
  · rw [rep_false] at h
    cases h
  · have hz : ∀ n, envN f (fun i => (Array.replicate ops.size false).getD i false) (look s.env) n = look s.env ∧ heapN f (fun i => (Array.replicate ops.size false).getD i false) (look s.heap) n = look s.heap := by
      intro n
      induction n with
      | zero => exact ⟨rfl, rfl⟩
      | succ n ih =>
        unfold envN heapN
        simp only [rep_false] at ih ⊢
        exact ih
    rw [(hz _).1, (hz _).2]
    exact hr.drew
end
end Go.Proofs.Ytjgmlkogppibfaa.Ev
