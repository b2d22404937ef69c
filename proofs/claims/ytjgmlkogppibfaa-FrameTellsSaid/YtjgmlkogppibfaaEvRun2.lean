/- A piece of the program's text comes to what the reckoner says: regions in the text's order, branches, loops. No conditions. -/
import Derived.Test.YtjgmlkogppibfaaEvRun
namespace Go.Proofs.Ytjgmlkogppibfaa.Ev
open Go
set_option linter.unusedVariables false
set_option linter.unusedSimpArgs false

theorem fSg_eq {α : Type} : ∀ (σ : Sg) (K : Sg → α), fSg σ K = K σ
  | [], K => rfl
  | (i, t) :: r, K => by cases t <;> simp [fSg, fSg_eq r]
theorem fNat_eq {α : Type} (n : Nat) (K : Nat → α) : fNat n K = K n := by cases n <;> rfl
theorem fNs_eq {α : Type} : ∀ (σ : List Nat) (K : List Nat → α), fNs σ K = K σ
  | [], K => rfl
  | i :: r, K => by simp [fNs, fNs_eq r]
theorem fPs_eq {α : Type} : ∀ (σ : List Prop) (K : List Prop → α), fPs σ K = K σ
  | [], K => rfl
  | i :: r, K => by simp [fPs, fPs_eq r]
theorem fAs_eq {α : Type} {f : AV → (AV → α) → α} (hf : ∀ v K, f v K = K v) : ∀ (l : List AV) (K : List AV → α), fAs f l K = K l
  | [], K => rfl
  | v :: r, K => by simp [fAs, hf, fAs_eq hf r]
theorem fAV_eq {α : Type} : ∀ (n : Nat) (v : AV) (K : AV → α), fAV n v K = K v
  | 0, v, K => rfl
  | n + 1, v, K => by
    have hf : ∀ v (K : AV → α), fAV n v K = K v := fAV_eq n
    cases v <;> simp [fAV, fAs_eq hf]
theorem fOb_eq {α : Type} (o : Ob) (K : Ob → α) : fOb o K = K o := by
  cases o with
  | box cs => simp [fOb, fAs_eq (fun v K => fAV_eq 4 v K)]
  | row e sz fr fz els => unfold fOb; simp only [fNat_eq]; cases fr <;> cases fz <;> rfl
  | gone => rfl
theorem fUps_eq {α : Type} : ∀ (l : List (Nat × Ob)) (K : List (Nat × Ob) → α), fUps l K = K l
  | [], K => rfl
  | (i, o) :: r, K => by simp [fUps, fOb_eq, fUps_eq r]

theorem fApp_eq {α : Type} : ∀ (a b : List (Nat × Ob)) (K : List (Nat × Ob) → α), fApp a b K = K (a ++ b)
  | [], b, K => rfl
  | x :: r, b, K => by simp [fApp, fApp_eq r]
theorem fNext_eq (s : St) (d : Option Nat) (v : AV) (ups : List (Nat × Ob)) (K : St → Prop) : fNext s d v ups K = K (s.next d (some v) ups) := by
  obtain ⟨env, heap, nx⟩ := s
  cases d <;> simp [fNext, fApp_eq, fNat_eq, St.next, putE]
/-- The trace, where one is kept. -/
def trOn (dr : Bool) (e : List Nat × List Nat) (tr : Tr) : Tr := match dr with
  | true => e :: tr
  | false => []
theorem fEnv_eq {α : Type} : ∀ (l : List (Nat × AV)) (K : List (Nat × AV) → α), fEnv l K = K l
  | [], K => rfl
  | (i, v) :: r, K => by simp [fEnv, fNat_eq, fEnv_eq r]
theorem look_putE (env : List (Nat × AV)) (d : Option Nat) (v : AV) : look (putE env d v) = putF (look env) d v := by
  funext t
  cases d with
  | none => rfl
  | some d =>
    simp only [putE, putF]
    by_cases h : d = t
    · subst h
      simp [look_cons_same]
    · rw [look_cons_ne _ _ h, if_neg h]
theorem look_append {α : Type _} : ∀ (a b : List (Nat × α)) (i : Nat), look (a ++ b) i = match look a i with | some o => some o | none => look b i
  | [], b, i => rfl
  | (j, o) :: r, b, i => by
    by_cases h : j = i
    · subst h
      simp [look_cons_same]
    · simp only [List.cons_append]
      rw [look_cons_ne _ _ h, look_cons_ne _ _ h]
      exact look_append r b i
theorem look_upd (ups heap : List (Nat × Ob)) : look (ups ++ heap) = upd (look heap) ups := by
  funext i
  rw [look_append]
  unfold upd
  cases look ups i <;> rfl
def St.fresh (s : St) : Prop := ∀ i, s.nx ≤ i → look s.heap i = none
theorem nxOf_ge : ∀ (ups : List (Nat × Ob)) (nx : Nat), nx ≤ nxOf nx ups ∧ ∀ i, nxOf nx ups ≤ i → look ups i = none
  | [], nx => ⟨Nat.le_refl _, fun _ _ => rfl⟩
  | (j, o) :: r, nx => by
    unfold nxOf
    cases hb : Nat.blt j nx with
    | true =>
      obtain ⟨h1, h2⟩ := nxOf_ge r nx
      have hj : j < nx := Nat.le_of_ble_eq_true hb
      refine ⟨h1, fun i hi => ?_⟩
      have hi : nxOf nx r ≤ i := hi
      rw [look_cons_ne _ _ (by omega)]
      exact h2 i hi
    | false =>
      obtain ⟨h1, h2⟩ := nxOf_ge r (j + 1)
      have hj : ¬ j < nx := fun h => by
        have : Nat.blt j nx = true := Nat.ble_eq_true_of_le h
        rw [this] at hb
        cases hb
      refine ⟨by simp only; omega, fun i hi => ?_⟩
      have hi : nxOf (j + 1) r ≤ i := hi
      rw [look_cons_ne _ _ (by omega)]
      exact h2 i hi
theorem St.fresh_next {s : St} (h : s.fresh) (d : Option Nat) (v : Option AV) (ups : List (Nat × Ob)) : (s.next d v ups).fresh := by
  intro i hi
  obtain ⟨h1, h2⟩ := nxOf_ge ups (s.nx + 1)
  have hi' : nxOf (s.nx + 1) ups ≤ i := hi
  show look (ups ++ s.heap) i = none
  rw [look_append, h2 i hi']
  exact h i (by omega)

/-- A function's contract, at the machine's call. -/
def CallsAt (P : Program) (k0 : Nat) (f : FuncId) (cs : Array Value) (w : World) (F1 F2 : Nat → Prop) (ρ : Nat → Option (Nat × Nat)) (H : Hp) (v : AV) (ups : List (Nat × Ob)) : Prop :=
  Calls P f cs w fun e w' => ∃ cv F1' F2' ρ', e = .returned cv ∧ OpR k0 w F1 F2 ρ H cv w' v (upd H ups) F1' F2' ρ'
/-- The contracts may be used. -/
def GamOk (P : Program) (Γ : List (FuncId × Ctr)) : Prop := ∀ f c, look Γ f = some c → (∀ (args : Array Value) (w : World), (callFunc f args).run P w = .ok (.enter f args) w) ∧
  ∀ (k0 nx : Nat) (as : List AV) (cs : Array Value) (w : World) (F1 F2 : Nat → Prop) (ρ : Nat → Option (Nat × Nat)) (H : Hp), HeapR k0 w F1 F2 ρ H → ArgsR w F1 F2 ρ H as cs →
    ∀ (x : c.Ix) (ps : List Prop) (v : AV) (rd : List Nat) (ups : List (Nat × Ob)), callAll c H k0 nx as x = some (ps, v, rd, ups) → allP ps → (∀ i, nx ≤ i → (look ups i).isSome = true → H i = none) → CallsAt P k0 f cs w F1 F2 ρ H v ups
section
variable {x : Cx} {P : Program} {Γ : List (FuncId × Ctr)} {T : Tab} {e : Env} {H : Hp} {a : Act} {w : World}

theorem Rel.call {F1 F2 : Nat → Prop} {ρ : Nat → Option (Nat × Nat)} (hr : a.defers = [] ∧ a.tmps.size = x.nt) (c : Core x H w F1 F2 ρ) (he : EnvR w F1 F2 ρ H e a) {o : Oper} (hd : ∀ t, o.dst = some t → t < x.nt) {f : FuncId} {cs : Array Value} (hex : (execOp a.eval o).run P w = .ok (.enter f cs) w)
    {v : AV} {ups : List (Nat × Ob)} (h : CallsAt P x.k0 f cs w F1 F2 ρ H v ups) {Q : Exit → Act → World → Prop} {K : Act → World → Prop} (hK : ∀ a' w', Rel x (putF e o.dst v) (upd H ups) a' w' → K a' w') : o.wp P a w K Q := by
  unfold Oper.wp
  rw [hex]
  refine Calls.mono h ?_
  rintro en w' ⟨cv, F1', F2', ρ', rfl, h3⟩
  refine hK _ _ ⟨by cases o.dst <;> exact hr.1, by cases o.dst <;> simp [Act.put, hr.2], F1', F2', ρ', c.chg h3.chg, ?_⟩
  exact EnvR.put (fun t u hu => (he t u hu).mono h3.chg.trans c.heap.sub) h3.avr (fun t ht => by rw [hr.2]; exact hd t ht)
/-- What an operation came to. -/
structure Out where
  v : AV
  rd : List Nat
  ups : List (Nat × Ob)
instance : Inhabited Out := ⟨⟨.tuple [], [], []⟩⟩
def OutOk (Γ : List (FuncId × Ctr)) (T : Tab) (k0 : Nat) (o : Oper) (e : Env) (H : Hp) (nx : Nat) (out : Out) : Prop :=
  match evalOp Γ T k0 o e H nx with
  | .bad => False
  | .ok cs v rd ups => allP cs ∧ out = ⟨match v with | some v => v | none => .tuple [], rd, ups⟩
  | .dem c rd => ∃ b, c b ∧ out = ⟨isB b, rd, []⟩
  | .call Ix r => ∃ ix ps, r ix = some (ps, out.v, out.rd, out.ups) ∧ allP ps
theorem out_wp (hT : tabOk P T = true) (hΓ : GamOk P Γ) {o : Oper} (hd : ∀ t, o.dst = some t → t < x.nt) (hr : Rel x e H a w) {nx : Nat} {Os : Out → Prop}
    (h : match evalOp Γ T x.k0 o e H nx with
      | .dem c rd => ∀ b, c b → Os ⟨isB b, rd, []⟩
      | _ => ∃ out, OutOk Γ T x.k0 o e H nx out ∧ Os out)
    (hn : H nx = none) (hn2 : ∀ out, Os out → ∀ i, nx ≤ i → (look out.ups i).isSome = true → H i = none)
    {Q : Exit → Act → World → Prop} {KK : Act → World → Prop} (hK : ∀ out a' w', Os out → Rel x (putF e o.dst out.v) (upd H out.ups) a' w' → KK a' w') : o.wp P a w KK Q := by
  obtain ⟨h1, h2, F1, F2, ρ, hc, he⟩ := hr
  have hop := evalOp_ok (P := P) (Γ := Γ) hT hc.heap he hn o
  unfold OutOk at h
  cases hs : evalOp Γ T x.k0 o e H nx with
  | bad => rw [hs] at h; exact h.choose_spec.1.elim
  | ok cs v rd ups =>
    rw [hs] at h hop
    obtain ⟨out, ⟨h3, rfl⟩, h4⟩ := h
    cases v with
    | none => exact Rel.op ⟨h1, h2⟩ hc he hd (hop h3) fun a' w' hr' => hK _ a' w' h4 hr'
    | some v => exact Rel.op ⟨h1, h2⟩ hc he hd (hop h3) fun a' w' hr' => hK _ a' w' h4 hr'
  | dem c rd =>
    rw [hs] at h hop
    obtain ⟨b, h3, h4⟩ := hop
    exact Rel.op ⟨h1, h2⟩ hc he hd h4 fun a' w' hr' => hK _ a' w' (h b h3) hr'
  | call Ix r =>
    rw [hs] at h hop
    obtain ⟨f, c, as, cs, h3, h4, h5, h6⟩ := hop
    cases h4
    obtain ⟨out, ⟨ix, ps, h7, h8⟩, h9⟩ := h
    obtain ⟨q7, q8⟩ := hΓ f c h3
    exact Rel.call ⟨h1, h2⟩ hc he hd (by rw [h6]; exact q7 cs w) (q8 _ _ _ _ _ _ _ _ _ hc.heap h5 ix ps out.v out.rd out.ups h7 h8 (hn2 out h9)) fun a' w' hr' => hK _ a' w' h9 hr'
/-- One operation of a run in the text's order. -/
theorem awOp_outs {s : St} {o : Oper} {dr : Bool} {tr : Tr} {K : St → Tr → Prop} (h : awOp Γ T x.k0 dr o s tr K) :
    (match evalOp Γ T x.k0 o (look s.env) (look s.heap) s.nx with
      | .dem c rd => dr = false ∧ ∀ b, c b → K (s.next o.dst (some (isB b)) []) (trOn dr (s.nx :: rd, []) tr)
      | _ => ∃ out, OutOk Γ T x.k0 o (look s.env) (look s.heap) s.nx out ∧ K (s.next o.dst (some out.v) out.ups) (trOn dr (s.nx :: out.rd, ids out.ups) tr)) := by
  obtain ⟨env, heap, nx⟩ := s
  unfold awOp at h
  unfold OutOk
  have hgo : ∀ {s' : St} {rd : List Nat} {ups : List (Nat × Ob)}, goOn dr nx rd ups tr K s' → K s' (trOn dr (nx :: rd, ids ups) tr) := by
    intro s' rd ups h
    unfold goOn at h
    cases dr with
    | true => rw [fNs_eq] at h; exact h
    | false => exact h
  simp only at h ⊢
  cases hs : evalOp Γ T x.k0 o (look env) (look heap) nx with
  | bad => rw [hs] at h; exact h.elim
  | ok cs v rd ups =>
    rw [hs] at h
    simp only [fAV_eq, fUps_eq, fNext_eq] at h
    simp only
    cases v with
    | none =>
      refine ⟨⟨.tuple [], rd, ups⟩, ?_⟩
      cases cs with
      | nil => exact ⟨⟨trivial, rfl⟩, hgo h⟩
      | cons p ps => exact ⟨⟨h.1, rfl⟩, hgo h.2⟩
    | some v =>
      refine ⟨⟨v, rd, ups⟩, ?_⟩
      cases cs with
      | nil => exact ⟨⟨trivial, rfl⟩, hgo h⟩
      | cons p ps => exact ⟨⟨h.1, rfl⟩, hgo h.2⟩
  | dem c rd =>
    rw [hs] at h
    cases dr with
    | true => exact h.elim
    | false =>
      simp only [fNext_eq] at h
      exact ⟨rfl, h⟩
  | call Ix r =>
    rw [hs] at h
    obtain ⟨ix, h⟩ := h
    simp only
    cases hca : r ix with
    | none => rw [hca] at h; exact h.elim
    | some y =>
      obtain ⟨ps, v, rd, ups⟩ := y
      rw [hca] at h
      simp only [fAV_eq, fUps_eq, fNext_eq] at h
      exact ⟨⟨v, rd, ups⟩, ⟨ix, ps, hca, h.1⟩, hgo h.2⟩
theorem awSkip_eq {s : St} {o : Oper} {dr : Bool} {tr : Tr} {K : St → Tr → Prop} (h : awSkip dr o s tr K) : K (s.next o.dst none []) (trOn dr ([s.nx], []) tr) := by
  obtain ⟨env, heap, nx⟩ := s
  unfold awSkip at h
  dsimp only at h
  rw [fNext_eq] at h
  cases dr <;> exact h
theorem awOp_sound (hT : tabOk P T = true) (hΓ : GamOk P Γ) {s : St} (hf : s.fresh) {o : Oper} (hd : ∀ t, o.dst = some t → t < x.nt) (hr : Rel x (look s.env) (look s.heap) a w) {dr : Bool} {tr : Tr} {K : St → Tr → Prop} (h : awOp Γ T x.k0 dr o s tr K)
    {Q : Exit → Act → World → Prop} {KK : Act → World → Prop} (hK : ∀ s' tr' a' w', K s' tr' → s'.fresh → Rel x (look s'.env) (look s'.heap) a' w' → KK a' w') : o.wp P a w KK Q := by
  refine out_wp hT hΓ hd hr (nx := s.nx) (Os := fun out => ∃ tr', K (s.next o.dst (some out.v) out.ups) tr') ?_ (hf s.nx (Nat.le_refl _)) (fun _ _ i hi _ => hf i hi) (fun out a' w' h4 hr' => hK _ _ a' w' h4.choose_spec (St.fresh_next hf _ _ _) ?_)
  · have := awOp_outs h
    cases hs : evalOp Γ T x.k0 o (look s.env) (look s.heap) s.nx with
    | dem c rd => rw [hs] at this; exact fun b hb => ⟨_, this.2 b hb⟩
    | _ => rw [hs] at this; obtain ⟨out, h1, h2⟩ := this; exact ⟨out, h1, _, h2⟩
  · rw [show (s.next o.dst (some out.v) out.ups).env = putE s.env o.dst out.v from rfl, show (s.next o.dst (some out.v) out.ups).heap = out.ups ++ s.heap from rfl, look_putE, look_upd]
    exact hr'
theorem guard_ok {all : List Oper} {o : Oper} {F1 F2 : Nat → Prop} {ρ : Nat → Option (Nat × Nat)} (he : EnvR w F1 F2 ρ H e a) (hsz : a.tmps.size = x.nt) (hds : dstOk x.nt all = true) {g : Gd} (h : guardOf all o e = some g) :
    match g with
    | .run => Region.wanted o (yielded all.toArray a.tmps) = true
    | .skip => Region.wanted o (yielded all.toArray a.tmps) = false
    | .ask b want => Region.wanted o (yielded all.toArray a.tmps) = (b == want) := by
  unfold guardOf at h
  unfold Region.wanted
  cases hg : o.guard with
  | none =>
    rw [hg] at h
    obtain rfl := Option.some.inj h
    rfl
  | some gw =>
    obtain ⟨j, want⟩ := gw
    rw [hg] at h
    simp only at h
    cases hd : (all[j]?).bind (·.dst) with
    | none => rw [hd] at h; cases h
    | some d =>
      rw [hd] at h
      have hdn : d < a.tmps.size := by
        rw [hsz]
        cases hj : all[j]? with
        | none => rw [hj] at hd; cases hd
        | some oj =>
          rw [hj] at hd
          have hmem := List.mem_of_getElem? hj
          have key : ∀ l : List Oper, dstOk x.nt l = true → oj ∈ l → d < x.nt := by
            intro l
            induction l with
            | nil => intro _ h; cases h
            | cons p r ih =>
              intro h1 h2
              simp only [dstOk, Bool.and_eq_true] at h1
              rcases List.mem_cons.1 h2 with rfl | h3
              · have hd' : oj.dst = some d := hd
                rw [hd'] at h1
                exact Nat.le_of_ble_eq_true h1.1
              · exact ih h1.2 h3
          exact key all hds hmem
      have hy : yielded all.toArray a.tmps j = match a.tmps.getD d undef with | .bool b => some b | _ => none := by
        unfold yielded
        simp only [List.getElem?_toArray, hd, Option.bind_some]
        rw [show a.tmps[d]? = some (a.tmps.getD d undef) by simp [Array.getD_eq_getD_getElem?, hdn]]
        cases a.tmps.getD d undef <;> rfl
      simp only at h
      cases hl : e d with
      | none => rw [hl] at h; cases h
      | some v =>
        rw [hl] at h
        have hav := he d v hl
        split at h
        · rename_i f b heq
          obtain rfl := Option.some.inj heq
          obtain rfl := Option.some.inj h
          simp only [hy]
          generalize a.tmps.getD d undef = c at hav
          cases hav with | p _ _ _ hav => cases hav with | bool =>
          cases b <;> cases want <;> rfl
        · rename_i heq
          obtain rfl := Option.some.inj heq
          obtain rfl := Option.some.inj h
          simp only [hy]
          generalize a.tmps.getD d undef = c at hav
          cases hav with | tuple _ _ _ _ => rfl
        · cases h
def gdRun : Gd → Bool
  | .run => true
  | .skip => false
  | .ask b want => b == want
theorem guard_run {all : List Oper} {o : Oper} {F1 F2 : Nat → Prop} {ρ : Nat → Option (Nat × Nat)} (he : EnvR w F1 F2 ρ H e a) (hsz : a.tmps.size = x.nt) (hds : dstOk x.nt all = true) {g : Gd} (h : guardOf all o e = some g) :
    Region.wanted o (yielded all.toArray a.tmps) = gdRun g := by
  have := guard_ok he hsz hds h
  cases g <;> exact this
theorem Rel.skip (hr : Rel x e H a w) {d : Option Nat} (hd : ∀ t, d = some t → t < x.nt) : Rel x (putF e d (.tuple [])) (upd H []) (a.put d undef) w := by
  obtain ⟨h1, h2, F1, F2, ρ, hc, he⟩ := hr
  refine ⟨by cases d <;> exact h1, by cases d <;> simp [Act.put, h2], F1, F2, ρ, hc, ?_⟩
  exact EnvR.put he (.tuple [] #[] rfl fun i v hv => by simp at hv) fun t ht => by rw [h2]; exact hd t ht
theorem Rel.drew (hr : Rel x e H a w) : Rel x e H a w.drew := by
  obtain ⟨h1, h2, F1, F2, ρ, hc, he⟩ := hr
  exact ⟨h1, h2, F1, F2, ρ, hc.chg (Chg.drew hc.heap), fun t u hu => (he t u hu).mono (Chg.drew hc.heap).trans hc.heap.sub⟩
end
end Go.Proofs.Ytjgmlkogppibfaa.Ev
