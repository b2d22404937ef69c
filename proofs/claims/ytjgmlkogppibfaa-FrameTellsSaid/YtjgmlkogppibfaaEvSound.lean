/- A piece of the program's text comes to what the reckoner says. No conditions. -/
import Derived.Test.YtjgmlkogppibfaaEvDraw3
import Derived.Scope
namespace Go.Proofs.Ytjgmlkogppibfaa.Ev
open Go
set_option linter.unusedVariables false
set_option linter.unusedSimpArgs false
section
variable {x : Cx} {P : Program} {Γ : List (FuncId × Ctr)} {T : Tab}
theorem awOps_sound (hT : tabOk P T = true) (hΓ : GamOk P Γ) {ops : Array Oper} (hds : dstOk x.nt ops.toList = true) {dr : Bool} {Q : Exit → Act → World → Prop} :
    ∀ (l : List Oper), (∀ o ∈ l, o ∈ ops.toList) → ∀ (s : St) (tr : Tr) (K : St → Tr → Prop) (a : Act) (w : World), s.fresh → Rel x (look s.env) (look s.heap) a w → awOps Γ T x.k0 ops.toList dr l s tr K →
      (∀ s' tr a' w', K s' tr → s'.fresh → Rel x (look s'.env) (look s'.heap) a' w' → Q .normal a' w') → wpList P ops Q l a w
  | [], _, s, tr, K, a, w, hf, hr, h, hK => hK s tr a w h hf hr
  | o :: r, hsub, s, tr, K, a, w, hf, hr, h, hK => by
    have hd : ∀ t, o.dst = some t → t < x.nt := dstOk_mem hds (hsub o (by simp))
    have hrest := awOps_sound hT hΓ hds (dr := dr) (Q := Q) r fun p hp => hsub p (by simp [hp])
    have hwant : ∀ g, guardOf ops.toList o (look s.env) = some g → Region.wanted o (yielded ops a.tmps) = gdRun g := by
      intro g hg
      obtain ⟨h1, h2, F1, F2, ρ, hc, he⟩ := hr
      exact guard_run he h2 hds hg
    have hrun : awOp Γ T x.k0 dr o s tr (fun s tr => awOps Γ T x.k0 ops.toList dr r s tr K) → o.wp P a w (wpList P ops Q r) Q := fun h =>
      awOp_sound hT hΓ hf hd hr h fun s' tr' a' w' h1 h2 h3 => hrest s' tr' K a' w' h2 h3 h1 hK
    have hskip : awSkip dr o s tr (fun s tr => awOps Γ T x.k0 ops.toList dr r s tr K) → wpList P ops Q r (a.put o.dst undef) w := fun h => by
      refine hrest _ _ K _ _ (St.fresh_next hf _ _ _) ?_ (awSkip_eq h) hK
      rw [show (s.next o.dst none []).env = putE s.env o.dst (.tuple []) from rfl, show (s.next o.dst none []).heap = [] ++ s.heap from rfl, look_putE, look_upd]
      exact Rel.skip hr hd
    unfold awOps at h
    unfold wpList
    cases hg : guardOf ops.toList o (look s.env) with
    | none => rw [hg] at h; exact h.elim
    | some g =>
      rw [hg] at h
      rw [hwant g hg]
      cases g with
      | run => exact .inl (hrun h)
      | skip => exact hskip h
      | ask b want =>
        cases want <;> cases b
        · exact .inl (hrun h)
        · exact hskip h
        · exact hskip h
        · exact .inl (hrun h)

/-- The machine's answer to a way out. -/
theorem aw_sound (hm : P.follows .mixedOrders = true) (hT : tabOk P T = true) (hΓ : GamOk P Γ) (hx : CxOk x) : ∀ (c : Code) (K : Exit → St → Prop) (s : St), aw Γ T x.k0 x.nt c K s → ∀ (a : Act) (w : World) (Q : Exit → Act → World → Prop), s.fresh → Rel x (look s.env) (look s.heap) a w →
    (∀ e s' a' w', K e s' → s'.fresh → Rel x (look s'.env) (look s'.heap) a' w' → Q e a' w') → c.wp P Q a w := by
  intro c
  induction c with
  | skip => intro K s h a w Q hf hr hK; exact wp_skip (hK _ _ _ _ h hf hr)
  | label l => intro K s h a w Q hf hr hK; exact wp_label (hK _ _ _ _ h hf hr)
  | region id ops dr =>
    intro K s h a w Q hf hr hK
    unfold aw at h
    cases hds : dstOk x.nt ops.toList with
    | false => rw [hds] at h; exact h.elim
    | true =>
      rw [hds] at h
      cases dr with
      | false => exact wp_region_list (awOps_sound hT hΓ hds _ (fun _ h => h) s [] _ a w hf hr h fun s' tr a' w' h1 h2 h3 => hK _ _ _ _ h1 h2 h3)
      | true => exact draw_sound hm hT hΓ hds hf hr h (fun s' tr a' w' h1 _ h2 h3 => hK _ _ _ _ h1.2 h2 h3) fun s' tr h1 => h1.1
  | seq c d ihc ihd =>
    intro K s h a w Q hf hr hK
    refine wp_seq (ihc _ s h a w _ hf hr fun e s' a' w' h1 h2 h3 => ?_)
    cases e with
    | normal => exact ihd _ s' h1 a' w' Q h2 h3 hK
    | _ => exact hK _ _ _ _ h1 h2 h3
  | cond c y z ihy ihz =>
    intro K s h a w Q hf hr hK
    unfold aw at h
    cases hb : condB s c with
    | none => rw [hb] at h; exact h.elim
    | some b =>
      rw [hb] at h
      have hc : a.eval c = .bool b := by
        obtain ⟨h1, h2, F1, F2, ρ, hc, he⟩ := hr
        unfold condB at hb
        cases hv : evalR (look s.env) c with
        | none => rw [hv] at hb; cases hb
        | some v =>
          rw [hv] at hb
          have := evalR_ok he hv
          split at hb
          · rename_i heq
            obtain rfl := Option.some.inj heq
            obtain rfl := Option.some.inj hb
            generalize a.eval c = q at this
            cases this with | p _ _ _ this => cases this; rfl
          · cases hb
      refine wp_cond hc ?_
      cases b with
      | true => exact ihy K s h a w Q hf hr hK
      | false => exact ihz K s h a w Q hf hr hK
  | block id c ih =>
    intro K s h a w Q hf hr hK
    refine wp_block (ih _ s h a w _ hf hr fun e s' a' w' h1 h2 h3 => ?_)
    cases e with
    | exit i =>
      show if i = id then Q .normal a' w' else Q (.exit i) a' w'
      simp only at h1
      by_cases hi : i = id
      · subst hi
        rw [if_pos rfl]
        rw [Nat.beq_refl] at h1
        exact hK _ _ _ _ h1 h2 h3
      · rw [if_neg hi]
        rw [beq_ne hi] at h1
        exact hK _ _ _ _ h1 h2 h3
    | _ => exact hK _ _ _ _ h1 h2 h3
  | loop c ih =>
    intro K s h a w Q hf hr hK
    obtain ⟨Ix, S, μ, ⟨i0, h0⟩, hround⟩ := h
    let I (a : Act) (w : World) : Prop := ∃ i, (S i).fresh ∧ Rel x (look (S i).env) (look (S i).heap) a w
    let M (a : Act) (w : World) (n : Nat) : Prop := ∃ i, μ i = n ∧ (S i).fresh ∧ Rel x (look (S i).env) (look (S i).heap) a w
    have hI0 : I a w := by
      obtain ⟨h1, h2⟩ := emb_sound hx h0 hr
      exact ⟨i0, h2, h1⟩
    have hmin : ∀ a w, I a w → ∃ n, M a w n ∧ ∀ m, M a w m → n ≤ m := by
      rintro a w ⟨i, h1, h2⟩
      have : ∀ k, M a w k → ∃ n, M a w n ∧ ∀ m, M a w m → n ≤ m := by
        intro k
        induction k using Nat.strongRecOn with
        | _ k ihk =>
          intro hk
          by_cases hlt : ∃ m, m < k ∧ M a w m
          · obtain ⟨m, h3, h4⟩ := hlt
            exact ihk m h3 h4
          · exact ⟨k, hk, fun m hm => Nat.le_of_not_lt fun h => hlt ⟨m, h, hm⟩⟩
      exact this (μ i) ⟨i, rfl, h1, h2⟩
    classical
    let mu (a : Act) (w : World) : Nat := if h : I a w then (hmin a w h).choose else 0
    have hmu : ∀ a w, I a w → M a w (mu a w) ∧ ∀ m, M a w m → mu a w ≤ m := by
      intro a w h
      have : mu a w = (hmin a w h).choose := dif_pos h
      rw [this]
      exact (hmin a w h).choose_spec
    refine wp_loop I mu hI0 fun a w hI => ?_
    obtain ⟨⟨i, h1, h2, h3⟩, _⟩ := hmu a w hI
    refine ih _ (S i) (hround i) a w _ h2 h3 fun e s' a' w' h4 h5 h6 => ?_
    cases e with
    | normal =>
      obtain ⟨j, h7, h8⟩ := h4
      obtain ⟨h9, h10⟩ := emb_sound hx h8 h6
      have hI' : I a' w' := ⟨j, h10, h9⟩
      refine ⟨hI', ?_⟩
      have := (hmu a' w' hI').2 (μ j) ⟨j, rfl, h10, h9⟩
      omega
    | _ => exact hK _ _ _ _ h4 h5 h6
  | exit id => intro K s h a w Q hf hr hK; exact wp_exit (hK _ _ _ _ h hf hr)
  | ret => intro K s h a w Q hf hr hK; exact wp_ret (hK _ _ _ _ h hf hr)
  | scope c ih =>
    intro K s h a w Q hf hr hK
    refine wp_scope_straight (ih _ s h a w _ hf hr fun e s' a' w' h1 h2 h3 => ?_)
    cases e with
    | goto l => exact h1.elim
    | _ => exact hK _ _ _ _ h1 h2 h3
  | _ => intro K s h; exact h.elim
end
end Go.Proofs.Ytjgmlkogppibfaa.Ev
