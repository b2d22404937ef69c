/- One state stands within another. No conditions. -/
import Derived.Test.YtonbbaimkpjcfaaEvRun
import Derived.Scope
/-! ## One state stands within another. No conditions. -/
namespace Go.Proofs.Ytonbbaimkpjcfaa.Ev
open Go
set_option linter.unusedVariables false
set_option linter.unusedSimpArgs false

theorem Mt.and_some {a b : Mt} {ps : List Prop} {fz bo : List Nat} (h : Mt.and a b = some (ps, fz, bo)) : ∃ p1 f1 b1 p2 f2 b2, a = some (p1, f1, b1) ∧ b = some (p2, f2, b2) ∧ ps = p1 ++ p2 ∧ fz = f1 ++ f2 ∧ bo = b1 ++ b2 := by
  cases a with
  | none => cases h
  | some x =>
    obtain ⟨p1, f1, b1⟩ := x
    cases b with
    | none => cases h
    | some y =>
      obtain ⟨p2, f2, b2⟩ := y
      simp only [Mt.and, Option.some.injEq, Prod.mk.injEq] at h
      obtain ⟨rfl, rfl, rfl⟩ := h
      exact ⟨p1, f1, b1, p2, f2, b2, rfl, rfl, rfl, rfl, rfl⟩

/-- Where the formal things lie. -/
def rhoOf (σ : Sg) (ρ : Pl) : Pl := ⟨fun i => match tgt σ i with
  | some (.full h) => ρ h
  | some (.trunc h _) => ρ h
  | some .nil => none
  | none => none, fun i => match tgt σ i with
  | some (.full h) => ρ.iota h
  | _ => fun _ _ => none⟩
theorem rhoOf_at (σ : Sg) (ρ : Pl) (i : Nat) : rhoOf σ ρ i = match tgt σ i with
  | some (.full h) => ρ h
  | some (.trunc h _) => ρ h
  | some .nil => none
  | none => none := rfl
theorem rhoOf_iota {σ : Sg} {ρ : Pl} {i h : Nat} (ht : tgt σ i = some (.full h)) : (rhoOf σ ρ).iota i = ρ.iota h := by
  simp only [rhoOf, ht]
def TreeB (ρ : Pl) (H : Hp) (h b : Nat) : Prop := ∃ e sz ie els, H h = some (.tree e sz ie els) ∧ Own ρ h (.tree e sz ie els) b

/-- What a formal thing is, beside the thing that it stands for. -/
def ObM (H : Hp) (o : Ob) : Tgt → Prop
  | .full h => match o with
    | .box cs => ∃ ds, H h = some (.box ds)
    | .row e sz fr fz els => fz = false ∧ ∃ fr', H h = some (.row e sz fr' false els) ∧ (fr = true → fr' = true ∨ ∀ v ∈ els, v.isFlat)
    | .tree e sz ie els => ∃ els', H h = some (.tree e sz ie els') ∧ els = els'.map (List.map TC.unref)
    | .gone => ∃ o', H h = some o'
  | .trunc h n => match o with
    | .row e sz fr fz els => fz = false ∧ ∃ fr' els', H h = some (.row e sz fr' false els') ∧ (fr = true → fr' = true ∨ ∀ v ∈ els', v.isFlat) ∧ els = els'.take n ∧ n ≤ els'.length
    | _ => False
  | .nil => match o with
    | .row e sz fr fz els => fz = false ∧ 0 < sz ∧ els = []
    | .tree e sz ie els => 0 < sz ∧ els = []
    | _ => False
section
variable {k0 : Nat} {w : World} {F1 F2 G1 G2 : Nat → Prop} {ρ : Pl} {H FH : Hp} {σ : Sg}

theorem pvle_ok {v u : PV} {F : Nat → Prop} {c : Value} (h : pvle v u) (hu : PVR w F u c) : PVR w F v c := by
  unfold pvle at h
  split at h
  · split at h
    · subst h
      cases hu with | nilsl A => exact .slnil _ _ _
    · subst h
      exact hu
  · rw [h]
    exact hu
theorem tcAt_map {els : List (List TC)} (g : TC → TC) (i j : Nat) : tcAt (els.map (List.map g)) i j = (tcAt els i j).map g := by
  unfold tcAt
  rw [List.getElem?_map]
  cases els[i]? with
  | none => rfl
  | some x => simp [List.getElem?_map]
theorem TC.unref_ow {t : TC} {l : List PV} (h : t.unref = .ow l) : t = .ow l := by cases t <;> simp_all [TC.unref]
theorem tcAt_unref {els : List (List TC)} {i j : Nat} {l : List PV} (h : tcAt (els.map (List.map TC.unref)) i j = some (.ow l)) : tcAt els i j = some (.ow l) := by
  rw [tcAt_map] at h
  cases ht : tcAt els i j with
  | none => rw [ht] at h; cases h
  | some t =>
    rw [ht] at h
    rw [TC.unref_ow (Option.some.inj h)]
theorem tcEl_cells {x : List TC} (hx : ∀ t ∈ x, t.view.cells = [t.view]) : (tcEl x).cells = x.map TC.view := by
  unfold tcEl
  split
  · rename_i t
    exact hx t (by simp)
  · rfl
/-- A tree, as it is lent. -/
theorem viewT_ok (hh : HeapR k0 w F1 F2 ρ H) {a : AV} {c : Value} (ha : AVR w F1 F2 ρ H a c) {u : PV} {h : Nat} {p : Prop} (hv : viewT H a = some (u, h, p)) (hp : p) (hG : ∀ b, TreeB ρ H h b → G1 b) : PVR w G1 u c := by
  unfold viewT at hv
  split at hv
  · split at hv
    · rename_i e sz ie els hq
      cases hv
      cases ha with | rowf _ _ o ho hsl hr hr2 =>
      rw [hq] at ho
      obtain rfl := Option.some.inj ho
      have hs := hr2 _ _ _ _ rfl
      obtain ⟨h1, h2, h3, _, _⟩ := hh.obj _ _ hq
      have hal : ∀ x ∈ els, ∀ t ∈ x, t.alive := hp
      unfold SlV at hs
      cases hρ : ρ h with
      | none =>
        rw [hρ] at hs h3
        simp only at h3
        subst h3
        obtain ⟨_, _, A, rfl⟩ := hs
        exact .slnil _ _ _
      | some gc =>
        obtain ⟨g, cap⟩ := gc
        rw [hρ] at hs h3
        obtain ⟨h4, A, rfl, hA⟩ := hs
        obtain ⟨cur, r1, r2, r3, r4, r5⟩ := h3
        by_cases h0 : els = []
        · subst h0
          exact .slnil _ _ _
        have hpos : 0 < els.length := List.length_pos_iff.2 h0
        obtain rfl := hA (by omega)
        have hone : ∀ i j t, tcAt els i j = some t → PVR w G1 t.view (cur.getD (i * sz + j) undef) := by
          intro i j t ht
          obtain ⟨x, hx, hxj⟩ := tcAt_some ht
          have hta := hal x (List.mem_of_getElem? hx) t (List.mem_of_getElem? hxj)
          have hc := r5 i j t ht
          cases t with
          | fl v => exact hc.mono (fun _ hf => hf.elim) (fun _ hf => hf.elim)
          | ow l =>
            obtain ⟨k1, k2, k3, k4⟩ := hc
            cases hio : ρ.iota h i j with
            | none =>
              rw [hio] at k1 k4
              simp only at k4
              subst k4
              obtain ⟨_, _, A', he⟩ := k1
              rw [he]
              exact .slnil _ _ _
            | some bc =>
              obtain ⟨b, cp⟩ := bc
              rw [hio] at k1 k4
              obtain ⟨k5, A', he, hA'⟩ := k1
              obtain ⟨cur', k6, k7, k8, k9, k10⟩ := k4
              rw [he]
              by_cases hl : l = []
              · subst hl
                exact .slnil _ _ _
              have hlp : 0 < l.length := List.length_pos_iff.2 hl
              obtain rfl := hA' (by omega)
              have hfl := flat_length (sz := 1) k3
              refine .sl 1 l _ _ (fun k => cur'.getD k undef) rfl (hG b ⟨e, sz, ie, els, hq, .inr ⟨i, j, l, cp, ht, hio⟩⟩) (by simpa using k7) k3 (fun k hk => ?_) (fun k v hv => (k10 k v hv).mono (fun _ hf => hf.elim) (fun _ hf => hf.elim))
              rw [Addr.add_mid]
              simp [World.cell?, k6, Array.getD_eq_getD_getElem?, show k < cur'.size by omega]
          | ref => exact hta.elim
          | dead => exact hta.elim
        have hcells : ∀ (i : Nat) (x : List TC), els[i]? = some x → (tcEl x).cells = x.map TC.view := fun i x hx => tcEl_cells fun t ht => by
          obtain ⟨j, hj⟩ := List.mem_iff_getElem?.1 ht
          exact (hone i j t (by unfold tcAt; rw [hx]; exact hj)).cells1
        have hlen : ∀ y ∈ els.map tcEl, y.cells.length = sz := fun y hy => by
          obtain ⟨x, hx, rfl⟩ := List.mem_map.1 hy
          obtain ⟨i, hi⟩ := List.mem_iff_getElem?.1 hx
          rw [hcells i x hi, List.length_map, h2 x hx]
        have hfl := flat_length hlen
        rw [List.length_map] at hfl
        have hcur : els.length * sz ≤ cur.size := by rw [r4]; exact Nat.mul_le_mul_right _ r2
        have hres := PVR.sl (w := w) (F := G1) sz (els.map tcEl) ⟨g, 0 * sz, none⟩ (cap - 0) (fun k => cur.getD k undef) rfl (hG g ⟨e, sz, ie, els, hq, .of hρ⟩) (by simpa using r2) hlen (fun k hk => by
            rw [Addr.add_mid]
            simp [World.cell?, r1, Array.getD_eq_getD_getElem?, show k < cur.size by omega]) (fun k v hv => by
            have hk : k < els.length * sz := by rw [← hfl]; exact (List.getElem?_eq_some_iff.1 hv).1
            obtain ⟨k1, k2, k3⟩ := div_lt_of hk h1
            obtain ⟨t, ht⟩ := tcAt_get h2 k1 k2
            obtain ⟨x, hx, hxj⟩ := tcAt_some ht
            rw [k3, flat_get hlen (k / sz) (k % sz) (tcEl x) (by rw [List.getElem?_map, hx]; rfl) k2, hcells _ x hx, List.getElem?_map, hxj] at hv
            obtain rfl := Option.some.inj hv
            rw [k3]
            exact hone _ _ t ht)
        rw [List.length_map] at hres
        exact hres
    · cases hv
  · cases hv
theorem mtV_ok (hh : HeapR k0 w F1 F2 ρ H) (hf : ∀ i t, tgt σ i = some t → ∃ o, FH i = some o ∧ ObM H o t) (h1 : ∀ b, F1 b → G1 b) (h2 : ∀ b, F2 b → G2 b) (bor : Bool) :
    ∀ (n : Nat) (f a : AV) (c : Value) (ps : List Prop) (fz bo : List Nat), mtV σ H k0 bor n f a = some (ps, fz, bo) → allP ps → AVR w F1 F2 ρ H a c →
      (∀ h ∈ fz ++ bo, ∀ b cp, ρ h = some (b, cp) → G1 b) → (∀ h ∈ fz, k0 ≤ h → ∀ b cp, ρ h = some (b, cp) → G2 b) → (∀ h ∈ bo, ∀ b, TreeB ρ H h b → G1 b) → AVR w G1 G2 (rhoOf σ ρ) FH f c := by
  intro n
  induction n with
  | zero => intro f a c ps fz bo h; cases h
  | succ n ih =>
    intro f a c ps fz bo h hp ha hg1 hg2 hg3
    have hlist : ∀ (xs ys : List AV) (cv : Array Value) (ps : List Prop) (fz bo : List Nat), zipMt (mtV σ H k0 bor n) xs ys = some (ps, fz, bo) → allP ps → cv.size = ys.length → (∀ (i : Nat) (v : AV), ys[i]? = some v → AVR w F1 F2 ρ H v (cv.getD i undef)) →
        (∀ h ∈ fz ++ bo, ∀ b cp, ρ h = some (b, cp) → G1 b) → (∀ h ∈ fz, k0 ≤ h → ∀ b cp, ρ h = some (b, cp) → G2 b) → (∀ h ∈ bo, ∀ b, TreeB ρ H h b → G1 b) → cv.size = xs.length ∧ ∀ (i : Nat) (v : AV), xs[i]? = some v → AVR w G1 G2 (rhoOf σ ρ) FH v (cv.getD i undef) := by
      intro xs ys cv ps fz bo hz hp hsz hv hg1 hg2 hg3
      have key : ∀ (xs ys : List AV) (cs : Nat → Value) (ps : List Prop) (fz bo : List Nat), zipMt (mtV σ H k0 bor n) xs ys = some (ps, fz, bo) → allP ps → (∀ (i : Nat) (v : AV), ys[i]? = some v → AVR w F1 F2 ρ H v (cs i)) →
          (∀ h ∈ fz ++ bo, ∀ b cp, ρ h = some (b, cp) → G1 b) → (∀ h ∈ fz, k0 ≤ h → ∀ b cp, ρ h = some (b, cp) → G2 b) → (∀ h ∈ bo, ∀ b, TreeB ρ H h b → G1 b) → xs.length = ys.length ∧ ∀ (i : Nat) (v : AV), xs[i]? = some v → AVR w G1 G2 (rhoOf σ ρ) FH v (cs i) := by
        intro xs
        induction xs with
        | nil =>
          intro ys cs ps fz bo hz hp hv _ _ _
          cases ys with
          | nil => exact ⟨rfl, fun i v hv => by simp at hv⟩
          | cons y r => cases hz
        | cons x r ihl =>
          intro ys cs ps fz bo hz hp hv hg1 hg2 hg3
          cases ys with
          | nil => cases hz
          | cons y s =>
            obtain ⟨p1, f1, b1, p2, f2, b2, e1, e2, rfl, rfl, rfl⟩ := Mt.and_some hz
            obtain ⟨hp1, hp2⟩ := allP_append hp
            have q1 := ih x y (cs 0) p1 f1 b1 e1 hp1 (hv 0 y (by simp)) (fun h hm => hg1 h (by rcases List.mem_append.1 hm with h | h <;> simp [h])) (fun h hm => hg2 h (by simp [hm])) (fun h hm => hg3 h (by simp [hm]))
            obtain ⟨q2, q3⟩ := ihl s (fun i => cs (i + 1)) p2 f2 b2 e2 hp2 (fun i v h => hv (i + 1) v (by simpa using h)) (fun h hm => hg1 h (by rcases List.mem_append.1 hm with h | h <;> simp [h])) (fun h hm => hg2 h (by simp [hm])) (fun h hm => hg3 h (by simp [hm]))
            refine ⟨by simp [q2], fun i v hv => ?_⟩
            cases i with
            | zero =>
              obtain rfl : x = v := by simpa using hv
              exact q1
            | succ i => exact q3 i v (by simpa using hv)
      obtain ⟨q1, q2⟩ := key xs ys (fun i => cv.getD i undef) ps fz bo hz hp hv hg1 hg2 hg3
      exact ⟨by omega, q2⟩
    unfold mtV at h
    cases f with
    | p fr v =>
      simp only at h
      cases hvw : viewPV H k0 a with
      | none =>
        rw [hvw] at h
        simp only at h
        split at h
        · rename_i u q p hvt
          split at h
          · cases h
            obtain ⟨hp1, hp2⟩ : pvle v u ∧ p := hp
            exact .p false v c (pvle_ok hp1 (viewT_ok hh ha hvt hp2 fun b hb => hg3 q (by simp) b hb))
          · cases h
        · cases h
      | some y =>
        obtain ⟨g, u, l⟩ := y
        rw [hvw] at h
        simp only at h
        split at h
        · simp only [Option.some.injEq, Prod.mk.injEq] at h
          obtain ⟨rfl, rfl, rfl⟩ := h
          exact .p false v c (pvle_ok hp (viewPV_ok hh ha hvw G1 h1 (fun h hm => hg1 h (by simpa using hm))))
        · simp only [Option.some.injEq, Prod.mk.injEq] at h
          obtain ⟨rfl, rfl, rfl⟩ := h
          obtain ⟨hp1, hp2⟩ : pvle v u ∧ u.isFlat := hp
          have hu := viewPV_ok hh ha hvw G1 h1 (fun h hm => hg1 h (by simpa using hm))
          refine .p true v c (pvle_ok hp1 (PVR.flat hu (hp2 u ?_)))
          rw [hu.cells1]
          simp
        · rename_i hn1 hn2
          simp only [Option.some.injEq, Prod.mk.injEq] at h
          obtain ⟨rfl, rfl, rfl⟩ := h
          have hv2 := viewPV_ok2 hh ha hvw G1 G2 h1 h2 (fun h hm => hg1 h (by simpa using hm)) hg2
          refine .p fr v c (pvle_ok hp ?_)
          cases fr with
          | false =>
            cases g with
            | false => exact hv2
            | true => exact viewPV_ok hh ha hvw G1 h1 (fun h hm => hg1 h (by simpa using hm))
          | true =>
            cases g with
            | true => exact hv2
            | false => exact (hn2 rfl rfl).elim
    | ptr i o =>
      simp only at h
      cases a with
      | ptr q o' =>
        simp only at h
        split at h
        · rename_i h' ht ho
          split at h
          · rename_i hb
            obtain rfl := Nat.eq_of_beq_eq_true hb
            obtain rfl := Nat.eq_of_beq_eq_true ho
            obtain ⟨ob, hob, _⟩ := hf i _ ht
            cases ha with | ptr _ _ b cp o0 q1 q2 => exact .ptr i o b cp ob hob (by rw [rhoOf_at, ht]; exact q2)
          · cases h
        · cases h
      | _ => cases h
    | rowf i =>
      simp only at h
      cases a with
      | rowf q =>
        simp only at h
        split at h
        · rename_i h' ht
          split at h
          · rename_i hb
            obtain rfl := Nat.eq_of_beq_eq_true hb
            obtain ⟨ob, hob, hm⟩ := hf i _ ht
            cases ha with | rowf _ _ o0 q1 q2 q3 q4 =>
            refine .rowf i c ob hob q2 (fun e sz fr fz els he => ?_) fun e sz ie els he => ?_
            · subst he
              obtain ⟨_, fr', hH, _⟩ := hm
              rw [hH] at q1
              obtain rfl := Option.some.inj q1
              rw [rhoOf_at, ht]
              exact q3 _ _ _ _ _ rfl
            · subst he
              obtain ⟨els', hH, rfl⟩ := hm
              rw [hH] at q1
              obtain rfl := Option.some.inj q1
              rw [rhoOf_at, ht, List.length_map]
              exact q4 _ _ _ _ rfl
          · cases h
        · cases h
      | row q o n' =>
        simp only at h
        split at h
        · rename_i h' n2 ht
          split at h
          · rename_i hb
            obtain rfl := Nat.eq_of_beq_eq_true hb
            simp only [Option.some.injEq, Prod.mk.injEq] at h
            obtain ⟨rfl, rfl, rfl⟩ := h
            obtain rfl : n' = n2 := hp
            obtain ⟨ob, hob, hm⟩ := hf i _ ht
            cases ha with | row _ _ _ _ o0 q1 q2 q3 =>
            refine .rowf i c ob hob q2 (fun e sz fr fz els he => ?_) (fun e sz ie els he => by subst he; exact hm.elim)
            subst he
            obtain ⟨_, fr', els', hH, _, hel, hle⟩ := hm
            rw [hH] at q1
            obtain rfl := Option.some.inj q1
            rw [rhoOf_at, ht, hel, List.length_take, Nat.min_eq_left hle]
            exact (q3 _ _ _ _ _ rfl).1
          · cases h
        · cases h
      | p fr u =>
        cases u with
        | nilsl =>
          simp only at h
          split at h
          · rename_i ht
            obtain ⟨ob, hob, hm⟩ := hf i _ ht
            cases ha with | p _ _ _ ha => cases ha with | nilsl A =>
            refine .rowf i _ ob hob ⟨_, _, _, rfl⟩ (fun e sz fr fz els he => ?_) fun e sz ie els he => ?_
            · subst he
              obtain ⟨_, _, rfl⟩ := hm
              rw [rhoOf_at, ht]
              exact ⟨rfl, rfl, A, rfl⟩
            · subst he
              obtain ⟨_, rfl⟩ := hm
              rw [rhoOf_at, ht]
              exact ⟨rfl, rfl, A, rfl⟩
          · cases h
        | _ => cases h
      | _ => cases h
    | row i o n0 =>
      simp only at h
      cases a with
      | row q o' n' =>
        simp only at h
        split at h
        · rename_i h' ht
          split at h
          · rename_i hb
            obtain rfl := Nat.eq_of_beq_eq_true hb
            simp only [Option.some.injEq, Prod.mk.injEq] at h
            obtain ⟨rfl, rfl, rfl⟩ := h
            obtain ⟨rfl, rfl⟩ : o = o' ∧ n0 = n' := hp
            obtain ⟨ob, hob, hm⟩ := hf i _ ht
            cases ha with | row _ _ _ _ o0 q1 q2 q3 =>
            refine .row i o n0 c ob hob q2 fun e sz fr fz els he => ?_
            subst he
            obtain ⟨_, fr', hH, _⟩ := hm
            rw [hH] at q1
            obtain rfl := Option.some.inj q1
            rw [rhoOf_at, ht]
            exact q3 _ _ _ _ _ rfl
          · cases h
        · cases h
      | _ => cases h
    | func g x y =>
      simp only at h
      cases a with
      | func g' z u =>
        simp only at h
        split at h
        · rename_i hb
          obtain rfl := Nat.eq_of_beq_eq_true hb
          obtain ⟨p1, f1, b1, p2, f2, b2, e1, e2, rfl, rfl, rfl⟩ := Mt.and_some h
          obtain ⟨hp1, hp2⟩ := allP_append hp
          cases ha with | func _ _ _ fv cv q1 q2 q3 q4 =>
          obtain ⟨r1, r2⟩ := hlist x z fv p1 f1 b1 e1 hp1 q1 q2 (fun h hm => hg1 h (by rcases List.mem_append.1 hm with h | h <;> simp [h])) (fun h hm => hg2 h (by simp [hm])) (fun h hm => hg3 h (by simp [hm]))
          obtain ⟨r3, r4⟩ := hlist y u cv p2 f2 b2 e2 hp2 q3 q4 (fun h hm => hg1 h (by rcases List.mem_append.1 hm with h | h <;> simp [h])) (fun h hm => hg2 h (by simp [hm])) (fun h hm => hg3 h (by simp [hm]))
          exact .func g x y fv cv r1 r2 r3 r4
        · cases h
      | _ => cases h
    | agg x =>
      simp only at h
      cases a with
      | agg z =>
        cases ha with | agg _ vs q1 q2 =>
        obtain ⟨r1, r2⟩ := hlist x z vs ps fz bo h hp q1 q2 hg1 hg2 hg3
        exact .agg x vs r1 r2
      | _ => cases h
    | tuple x =>
      simp only at h
      cases a with
      | tuple z =>
        cases ha with | tuple _ vs q1 q2 =>
        obtain ⟨r1, r2⟩ := hlist x z vs ps fz bo h hp q1 q2 hg1 hg2 hg3
        exact .tuple x vs r1 r2
      | _ => cases h
    | eptr => cases h
    | rptr => cases h
theorem mtVs_ok (hh : HeapR k0 w F1 F2 ρ H) (hf : ∀ i t, tgt σ i = some t → ∃ o, FH i = some o ∧ ObM H o t) (h1 : ∀ b, F1 b → G1 b) (h2 : ∀ b, F2 b → G2 b) (bor : Bool) (n : Nat) :
    ∀ (xs ys : List AV) (cs : Nat → Value) (ps : List Prop) (fz bo : List Nat), zipMt (mtV σ H k0 bor n) xs ys = some (ps, fz, bo) → allP ps → (∀ (i : Nat) (v : AV), ys[i]? = some v → AVR w F1 F2 ρ H v (cs i)) →
      (∀ h ∈ fz ++ bo, ∀ b cp, ρ h = some (b, cp) → G1 b) → (∀ h ∈ fz, k0 ≤ h → ∀ b cp, ρ h = some (b, cp) → G2 b) → (∀ h ∈ bo, ∀ b, TreeB ρ H h b → G1 b) → xs.length = ys.length ∧ ∀ (i : Nat) (v : AV), xs[i]? = some v → AVR w G1 G2 (rhoOf σ ρ) FH v (cs i) := by
  intro xs
  induction xs with
  | nil =>
    intro ys cs ps fz bo hz hp hv _ _ _
    cases ys with
    | nil => exact ⟨rfl, fun i v hv => by simp at hv⟩
    | cons y r => cases hz
  | cons x r ihl =>
    intro ys cs ps fz bo hz hp hv hg1 hg2 hg3
    cases ys with
    | nil => cases hz
    | cons y s =>
      obtain ⟨p1, f1, b1, p2, f2, b2, e1, e2, rfl, rfl, rfl⟩ := Mt.and_some hz
      obtain ⟨hp1, hp2⟩ := allP_append hp
      have q1 := mtV_ok hh hf h1 h2 bor n x y (cs 0) p1 f1 b1 e1 hp1 (hv 0 y (by simp)) (fun h hm => hg1 h (by rcases List.mem_append.1 hm with h | h <;> simp [h])) (fun h hm => hg2 h (by simp [hm])) (fun h hm => hg3 h (by simp [hm]))
      obtain ⟨q2, q3⟩ := ihl s (fun i => cs (i + 1)) p2 f2 b2 e2 hp2 (fun i v h => hv (i + 1) v (by simpa using h)) (fun h hm => hg1 h (by rcases List.mem_append.1 hm with h | h <;> simp [h])) (fun h hm => hg2 h (by simp [hm])) (fun h hm => hg3 h (by simp [hm]))
      refine ⟨by simp [q2], fun i v hv => ?_⟩
      cases i with
      | zero =>
        obtain rfl : x = v := by simpa using hv
        exact q1
      | succ i => exact q3 i v (by simpa using hv)

theorem mtOb_ok {o : Ob} {t : Tgt} {ps : List Prop} {fz bo : List Nat} (h : mtOb σ H k0 o t = some (ps, fz, bo)) (hp : allP ps) : ObM H o t ∧
    ∀ cs h', o = .box cs → t = .full h' → ∃ ds, H h' = some (.box ds) ∧ zipMt (mtV σ H k0 false 5) cs ds = some (ps, fz, bo) := by
  unfold mtOb at h
  split at h
  · rename_i cs h'
    split at h
    · rename_i ds hH
      exact ⟨⟨ds, hH⟩, fun cs' h'' he ht => by cases he; cases ht; exact ⟨ds, hH, h⟩⟩
    · cases h
  · rename_i e sz fr els h'
    split at h
    · rename_i e' sz' fr' els' hH
      split at h
      · rename_i hb
        simp only [Bool.and_eq_true] at hb
        obtain ⟨hb1, hb2⟩ := hb
        obtain rfl := Nat.eq_of_beq_eq_true hb1
        obtain rfl := Nat.eq_of_beq_eq_true hb2
        split at h
        · rename_i hb3
          simp only [Bool.or_eq_true, Bool.not_eq_true'] at hb3
          simp only [Option.some.injEq, Prod.mk.injEq] at h
          obtain ⟨rfl, rfl, rfl⟩ := h
          obtain rfl : els = els' := hp
          exact ⟨⟨rfl, fr', hH, fun h => .inl (hb3.elim (fun h3 => by rw [h] at h3; cases h3) (fun h3 => h3))⟩, fun cs' h'' he ht => by cases he⟩
        · simp only [Option.some.injEq, Prod.mk.injEq] at h
          obtain ⟨rfl, rfl, rfl⟩ := h
          obtain ⟨rfl, hfl⟩ : els = els' ∧ ∀ v ∈ els', v.isFlat := hp
          exact ⟨⟨rfl, fr', hH, fun h => .inr hfl⟩, fun cs' h'' he ht => by cases he⟩
      · cases h
    · cases h
  · rename_i e sz fr els h' n
    split at h
    · rename_i e' sz' fr' els' hH
      split at h
      · rename_i hb
        simp only [Bool.and_eq_true] at hb
        obtain ⟨hb1, hb2⟩ := hb
        obtain rfl := Nat.eq_of_beq_eq_true hb1
        obtain rfl := Nat.eq_of_beq_eq_true hb2
        split at h
        · rename_i hb3
          simp only [Bool.or_eq_true, Bool.not_eq_true'] at hb3
          simp only [Option.some.injEq, Prod.mk.injEq] at h
          obtain ⟨rfl, rfl, rfl⟩ := h
          obtain ⟨hp1, hp2⟩ : els = els'.take n ∧ n ≤ els'.length := hp
          exact ⟨⟨rfl, fr', els', hH, fun h => .inl (hb3.elim (fun h3 => by rw [h] at h3; cases h3) (fun h3 => h3)), hp1, hp2⟩, fun cs' h'' he ht => by cases he⟩
        · simp only [Option.some.injEq, Prod.mk.injEq] at h
          obtain ⟨rfl, rfl, rfl⟩ := h
          obtain ⟨hp1, hp2, hp3⟩ : els = els'.take n ∧ n ≤ els'.length ∧ ∀ v ∈ els', v.isFlat := hp
          exact ⟨⟨rfl, fr', els', hH, fun h => .inr hp3, hp1, hp2⟩, fun cs' h'' he ht => by cases he⟩
      · cases h
    · cases h
  · rename_i e sz fr els
    split at h
    · rename_i hb
      simp only [Option.some.injEq, Prod.mk.injEq] at h
      obtain ⟨rfl, rfl, rfl⟩ := h
      exact ⟨⟨rfl, Nat.le_of_ble_eq_true hb, hp⟩, fun cs' h'' he ht => by cases he⟩
    · cases h
  · rename_i e sz ie els h'
    split at h
    · rename_i e' sz' ie' els' hH
      split at h
      · rename_i hb
        simp only [Bool.and_eq_true] at hb
        obtain ⟨⟨hb1, hb2⟩, hb3⟩ := hb
        obtain rfl := Nat.eq_of_beq_eq_true hb1
        obtain rfl := Nat.eq_of_beq_eq_true hb2
        obtain rfl := Nat.eq_of_beq_eq_true hb3
        simp only [Option.some.injEq, Prod.mk.injEq] at h
        obtain ⟨rfl, rfl, rfl⟩ := h
        exact ⟨⟨els', hH, hp⟩, fun cs' h'' he ht => by cases he⟩
      · cases h
    · cases h
  · rename_i e sz ie els
    split at h
    · rename_i hb
      simp only [Option.some.injEq, Prod.mk.injEq] at h
      obtain ⟨rfl, rfl, rfl⟩ := h
      exact ⟨⟨Nat.le_of_ble_eq_true hb, hp⟩, fun cs' h'' he ht => by cases he⟩
    · cases h
  · rename_i h'
    split at h
    · rename_i o' hH
      exact ⟨⟨o', hH⟩, fun cs' h'' he ht => by cases he⟩
    · cases h
  · cases h
theorem mtH_ok : ∀ {FL : List (Nat × Ob)} {ps : List Prop} {fz bo : List Nat}, mtH σ H k0 FL = some (ps, fz, bo) → allP ps → ∀ i o, (i, o) ∈ FL → ∃ t ps' fz' bo', tgt σ i = some t ∧ mtOb σ H k0 o t = some (ps', fz', bo') ∧ allP ps' ∧ (∀ h ∈ fz', h ∈ fz) ∧ (∀ h ∈ bo', h ∈ bo)
  | [], ps, fz, bo, _, _, i, o, hm => by cases hm
  | (j, q) :: r, ps, fz, bo, h, hp, i, o, hm => by
    unfold mtH at h
    cases ht : tgt σ j with
    | none => rw [ht] at h; cases h
    | some t =>
      rw [ht] at h
      obtain ⟨p1, f1, b1, p2, f2, b2, e1, e2, rfl, rfl, rfl⟩ := Mt.and_some h
      obtain ⟨hp1, hp2⟩ := allP_append hp
      rcases List.mem_cons.1 hm with he | he
      · obtain ⟨rfl, rfl⟩ := Prod.mk.inj he
        exact ⟨t, p1, f1, b1, ht, e1, hp1, fun h hm => by simp [hm], fun h hm => by simp [hm]⟩
      · obtain ⟨t', ps', fz', bo', q1, q2, q3, q4, q5⟩ := mtH_ok e2 hp2 i o he
        exact ⟨t', ps', fz', bo', q1, q2, q3, fun h hm => by simp [q4 h hm], fun h hm => by simp [q5 h hm]⟩
end
end Go.Proofs.Ytonbbaimkpjcfaa.Ev
/-! ## One state stands within another: memory. No conditions. -/
namespace Go.Proofs.Ytonbbaimkpjcfaa.Ev
open Go
set_option linter.unusedVariables false
set_option linter.unusedSimpArgs false

theorem memN_iff {l : List Nat} {k : Nat} : memN l k = true ↔ k ∈ l := by
  induction l with
  | nil => simp [memN]
  | cons i r ih =>
    simp only [memN, Bool.or_eq_true, ih, List.mem_cons]
    constructor
    · rintro (h | h)
      · exact .inl (Nat.eq_of_beq_eq_true h).symm
      · exact .inr h
    · rintro (h | h)
      · subst h; exact .inl (by simp)
      · exact .inr h
theorem disj_iff {a b : List Nat} : disj a b = true ↔ ∀ i ∈ a, i ∉ b := by
  induction a with
  | nil => simp [disj]
  | cons i r ih =>
    simp only [disj, Bool.and_eq_true, Bool.not_eq_true', ih, List.mem_cons, forall_eq_or_imp]
    rw [← Bool.not_eq_true, memN_iff]
theorem nodup_cons {i : Nat} {r : List Nat} (h : nodup (i :: r) = true) : i ∉ r ∧ nodup r = true := by
  simp only [nodup, Bool.and_eq_true, Bool.not_eq_true'] at h
  refine ⟨fun hm => ?_, h.2⟩
  rw [memN_iff.2 hm] at h
  exact absurd h.1 (by simp)
theorem look_of_mem {α : Type _} : ∀ {l : List (Nat × α)} {i : Nat} {v : α}, nodup (ids l) = true → (i, v) ∈ l → look l i = some v
  | [], _, _, _, h => by cases h
  | (j, u) :: r, i, v, hn, h => by
    obtain ⟨h1, h2⟩ := nodup_cons hn
    rcases List.mem_cons.1 h with he | he
    · obtain ⟨rfl, rfl⟩ := Prod.mk.inj he
      exact look_cons_same _ _ _
    · have : j ≠ i := by
        intro hji
        subst hji
        apply h1
        clear h2 hn h h1
        induction r with
        | nil => cases he
        | cons x s ih =>
          obtain ⟨k, y⟩ := x
          rcases List.mem_cons.1 he with h3 | h3
          · obtain ⟨rfl, rfl⟩ := Prod.mk.inj h3
            simp [ids]
          · simp only [ids, List.mem_cons]
            exact .inr (ih h3)
      rw [look_cons_ne _ _ this]
      exact look_of_mem h2 he
theorem mem_ids {α : Type _} {l : List (Nat × α)} {i : Nat} : i ∈ ids l ↔ ∃ v, (i, v) ∈ l := by
  induction l with
  | nil => simp [ids]
  | cons x r ih =>
    obtain ⟨j, u⟩ := x
    simp only [ids, List.mem_cons, ih, Prod.mk.injEq]
    constructor
    · rintro (rfl | ⟨v, h⟩)
      · exact ⟨u, .inl ⟨rfl, rfl⟩⟩
      · exact ⟨v, .inr h⟩
    · rintro ⟨v, ⟨rfl, _⟩ | h⟩
      · exact .inl rfl
      · exact .inr ⟨v, h⟩
theorem sgIn_ok {l : List Nat} : ∀ {σ : Sg}, sgIn l σ = true → ∀ i t, (i, t) ∈ σ → i ∈ l
  | [], _, i, t, h => by cases h
  | (j, u) :: r, hs, i, t, h => by
    simp only [sgIn, Bool.and_eq_true] at hs
    rcases List.mem_cons.1 h with he | he
    · obtain ⟨rfl, rfl⟩ := Prod.mk.inj he
      exact memN_iff.1 hs.1
    · exact sgIn_ok hs.2 i t he
theorem sgIds_mem {σ : Sg} {i h : Nat} {t : Tgt} (hm : (i, t) ∈ σ) (ht : t.id = some h) : h ∈ sgIds σ := by
  unfold sgIds
  rw [List.mem_flatMap]
  refine ⟨(i, t), hm, ?_⟩
  cases t with
  | full q => obtain rfl := Option.some.inj ht; simp
  | trunc q n => obtain rfl := Option.some.inj ht; simp
  | nil => cases ht
theorem sg_inj : ∀ {σ : Sg}, nodup (sgIds σ) = true → ∀ {i j h : Nat} {t u : Tgt}, (i, t) ∈ σ → (j, u) ∈ σ → t.id = some h → u.id = some h → (i, t) = (j, u)
  | [], _, i, j, h, t, u, h1, _, _, _ => by cases h1
  | x :: r, hn, i, j, h, t, u, h1, h2, h3, h4 => by
    have hsplit : sgIds (x :: r) = (match x.2 with | .full h => [h] | .trunc h _ => [h] | .nil => []) ++ sgIds r := by
      unfold sgIds
      rw [List.flatMap_cons]
      rfl
    have hhead : ∀ {k : Nat} {s : Tgt}, (k, s) = x → s.id = some h → h ∉ sgIds r ∧ nodup (sgIds r) = true := by
      intro k s he hs
      subst he
      rw [hsplit] at hn
      cases s with
      | full q => obtain rfl := Option.some.inj hs; exact nodup_cons hn
      | trunc q n => obtain rfl := Option.some.inj hs; exact nodup_cons hn
      | nil => cases hs
    have htail : nodup (sgIds r) = true := by
      rw [hsplit] at hn
      obtain ⟨k, s⟩ := x
      cases s with
      | full q => exact (nodup_cons hn).2
      | trunc q n => exact (nodup_cons hn).2
      | nil => exact hn
    rcases List.mem_cons.1 h1 with e1 | e1
    · rcases List.mem_cons.1 h2 with e2 | e2
      · rw [e1, e2]
      · exact absurd (sgIds_mem e2 h4) (hhead e1 h3).1
    · rcases List.mem_cons.1 h2 with e2 | e2
      · exact absurd (sgIds_mem e1 h3) (hhead e2 h4).1
      · exact sg_inj htail e1 e2 h3 h4
theorem rowsOk_ok {H : Hp} : ∀ {l : List Nat}, rowsOk H l = true → ∀ h ∈ l, ∃ e sz fr fz els, H h = some (.row e sz fr fz els)
  | [], _, h, hm => by cases hm
  | q :: r, hr, h, hm => by
    simp only [rowsOk, Bool.and_eq_true] at hr
    rcases List.mem_cons.1 hm with he | he
    · subst he
      have h1 := hr.1
      split at h1
      · rename_i e sz fr fz els hH
        exact ⟨e, sz, fr, fz, els, hH⟩
      · cases h1
    · exact rowsOk_ok hr.2 h he

theorem lentOk_ok {H : Hp} : ∀ {l : List Nat}, lentOk H l = true → ∀ h ∈ l, (∃ e sz fr fz els, H h = some (.row e sz fr fz els)) ∨ ∃ e sz ie els, H h = some (.tree e sz ie els)
  | [], _, h, hm => by cases hm
  | q :: r, hr, h, hm => by
    simp only [lentOk, Bool.and_eq_true] at hr
    rcases List.mem_cons.1 hm with he | he
    · subst he
      have h1 := hr.1
      split at h1
      · rename_i e sz fr fz els hH
        exact .inl ⟨e, sz, fr, fz, els, hH⟩
      · rename_i e sz ie els hH
        exact .inr ⟨e, sz, ie, els, hH⟩
      · cases h1
    · exact lentOk_ok hr.2 h he
theorem lentOk_app {H : Hp} {a b : List Nat} (h1 : rowsOk H a = true) (h2 : lentOk H b = true) : lentOk H (a ++ b) = true := by
  induction a with
  | nil => exact h2
  | cons q r ih =>
    simp only [rowsOk, Bool.and_eq_true] at h1
    rw [List.cons_append]
    simp only [lentOk, Bool.and_eq_true]
    refine ⟨?_, ih h1.2⟩
    have h3 := h1.1
    split at h3
    · rename_i heq
      rw [heq]
    · cases h3
theorem lentOk_of {H : Hp} {a : List Nat} (h1 : rowsOk H a = true) : lentOk H a = true := by
  have := lentOk_app (b := []) h1 rfl
  rwa [List.append_nil] at this

section
variable {k0 kf : Nat} {w : World} {F1 F2 : Nat → Prop} {ρ : Pl} {H : Hp} {σ : Sg} {FL : List (Nat × Ob)}

/-- What lies still, with these rows. -/
def G1of (F1 : Nat → Prop) (ρ : Pl) (H : Hp) (l : List Nat) (b : Nat) : Prop := F1 b ∨ ∃ h ∈ l, RowB ρ H h b ∨ TreeB ρ H h b
def G2of (k0 : Nat) (F2 : Nat → Prop) (ρ : Pl) (H : Hp) (l : List Nat) (b : Nat) : Prop := F2 b ∨ ∃ h ∈ l, k0 ≤ h ∧ RowB ρ H h b

theorem tgt_mem {i : Nat} {t : Tgt} (h : tgt σ i = some t) : (i, t) ∈ σ := look_mem h
theorem ObM.live_target {o : Ob} {t : Tgt} (h : ObM H o t) (hl : o.live) {h' : Nat} (ht : t.id = some h') : ∃ q, H h' = some q ∧ q.live := by
  cases t with
  | full q =>
    obtain rfl := Option.some.inj ht
    cases o with
    | box cs => obtain ⟨ds, hH⟩ := h; exact ⟨_, hH, trivial⟩
    | row e sz fr fz els => obtain ⟨_, fr', hH, _⟩ := h; exact ⟨_, hH, rfl⟩
    | tree e sz ie els => obtain ⟨els', hH, _⟩ := h; exact ⟨_, hH, trivial⟩
    | gone => cases hl
  | trunc q n =>
    obtain rfl := Option.some.inj ht
    cases o with
    | row e sz fr fz els => obtain ⟨_, fr', els', hH, _⟩ := h; exact ⟨_, hH, rfl⟩
    | box => exact h.elim
    | tree => exact h.elim
    | gone => cases hl
  | nil => cases ht
theorem ObM.target {o : Ob} {t : Tgt} {h : Nat} (hm : ObM H o t) (ht : t.id = some h) : ∃ o', H h = some o' := by
  cases t with
  | full q =>
    obtain rfl := Option.some.inj ht
    cases o with
    | box cs => obtain ⟨ds, hH⟩ := hm; exact ⟨_, hH⟩
    | row e sz fr fz els => obtain ⟨_, fr', hH, _⟩ := hm; exact ⟨_, hH⟩
    | tree e sz ie els => obtain ⟨els', hH, _⟩ := hm; exact ⟨_, hH⟩
    | gone => exact hm
  | trunc q n =>
    obtain rfl := Option.some.inj ht
    cases o with
    | row e sz fr fz els => obtain ⟨_, fr', els', hH, _⟩ := hm; exact ⟨_, hH⟩
    | box => exact hm.elim
    | tree => exact hm.elim
    | gone => exact hm.elim
  | nil => cases ht
theorem rhoOf_some {i b c : Nat} (h : rhoOf σ ρ i = some (b, c)) : ∃ t h', tgt σ i = some t ∧ t.id = some h' ∧ ρ h' = some (b, c) := by
  rw [rhoOf_at] at h
  cases ht : tgt σ i with
  | none => rw [ht] at h; cases h
  | some t =>
    rw [ht] at h
    cases t with
    | full q => exact ⟨_, q, rfl, rfl, h⟩
    | trunc q n => exact ⟨_, q, rfl, rfl, h⟩
    | nil => cases h
theorem ownOf {FH : Hp} (hf : ∀ i t, tgt σ i = some t → ∃ o, FH i = some o ∧ ObM H o t) {i b : Nat} {o : Ob} (ho : FH i = some o) (hr : Own (rhoOf σ ρ) i o b) : ∃ t q o', tgt σ i = some t ∧ t.id = some q ∧ H q = some o' ∧ Own ρ q o' b ∧ (o.live → o'.live) := by
  rcases hr with ⟨c, hr⟩ | hr
  · obtain ⟨t, q, h1, h2, h3⟩ := rhoOf_some hr
    obtain ⟨o1, ho1, hm1⟩ := hf i t h1
    rw [ho] at ho1
    obtain rfl := Option.some.inj ho1
    by_cases hl : o.live
    · obtain ⟨x1, hx1, hxl1⟩ := hm1.live_target hl h2
      exact ⟨t, q, x1, h1, h2, hx1, .of h3, fun _ => hxl1⟩
    · obtain ⟨x1, hx1⟩ := hm1.target h2
      exact ⟨t, q, x1, h1, h2, hx1, .of h3, fun h => absurd h hl⟩
  · cases o with
    | tree e sz ie els =>
      obtain ⟨p, j, l', c, h1, h2⟩ := hr
      cases ht : tgt σ i with
      | none => simp [rhoOf, ht] at h2
      | some t =>
        obtain ⟨o1, ho1, hm1⟩ := hf i t ht
        rw [ho] at ho1
        obtain rfl := Option.some.inj ho1
        cases t with
        | full q =>
          rw [rhoOf_iota ht] at h2
          obtain ⟨els', hH, rfl⟩ := hm1
          exact ⟨_, q, _, rfl, rfl, hH, .inr ⟨p, j, l', c, tcAt_unref h1, h2⟩, fun _ => trivial⟩
        | trunc q n => exact hm1.elim
        | nil =>
          obtain ⟨_, rfl⟩ := hm1
          simp [tcAt] at h1
    | _ => exact hr.elim
theorem HeapR.formal (hh : HeapR k0 w F1 F2 ρ H) {bor : Bool} {ps : List Prop} {fz bo : List Nat} {l : List Nat} (hmt : mtH σ H k0 FL = some (ps, fz, bo)) (hp : allP ps) (hfl : ∀ h ∈ fz ++ bo, h ∈ l) {l2 : List Nat} (hl2 : ∀ h ∈ fz, h ∈ l2) (hl12 : ∀ h ∈ l2, h ∈ l)
    (hdj : disj (sgIds σ) l = true) (hnd : nodup (sgIds σ) = true) (hin : sgIn (ids FL) σ = true) (hrows : lentOk H l = true) (hrow2 : rowsOk H l2 = true) (hndF : nodup (ids FL) = true) (hkf : ∀ h, k0 ≤ h → True) :
    (∀ i t, tgt σ i = some t → ∃ o, look FL i = some o ∧ ObM H o t) ∧ HeapR kf w (G1of F1 ρ H l) (G2of k0 F2 ρ H l2) (rhoOf σ ρ) (look FL) := by
  have hf : ∀ i t, tgt σ i = some t → ∃ o, look FL i = some o ∧ ObM H o t := by
    intro i t ht
    obtain ⟨o, ho⟩ := mem_ids.1 (sgIn_ok hin i t (tgt_mem ht))
    obtain ⟨t', ps', fz', bo', h1, h2, h3, _, _⟩ := mtH_ok hmt hp i o ho
    rw [ht] at h1
    obtain rfl := Option.some.inj h1
    exact ⟨o, look_of_mem hndF ho, (mtOb_ok h2 h3).1⟩
  have hrb : ∀ h ∈ l, ∀ b cp, ρ h = some (b, cp) → RowB ρ H h b ∨ TreeB ρ H h b := by
    intro h hm b cp hr
    rcases lentOk_ok hrows h hm with ⟨e, sz, fr, fz, els, hH⟩ | ⟨e, sz, ie, els, hH⟩
    · exact .inl ⟨e, sz, fr, fz, els, cp, hH, hr⟩
    · exact .inr ⟨e, sz, ie, els, hH, .of hr⟩
  have hrb2 : ∀ h ∈ l2, ∀ b cp, ρ h = some (b, cp) → RowB ρ H h b := by
    intro h hm b cp hr
    obtain ⟨e, sz, fr, fz, els, hH⟩ := rowsOk_ok hrow2 h hm
    exact ⟨e, sz, fr, fz, els, cp, hH, hr⟩
  have hown : ∀ i o b, look FL i = some o → Own (rhoOf σ ρ) i o b → ∃ t q o', tgt σ i = some t ∧ t.id = some q ∧ H q = some o' ∧ Own ρ q o' b ∧ (o.live → o'.live) := fun i o b ho hr => ownOf hf ho hr
  have hrow : ∀ h b, (RowB ρ H h b ∨ TreeB ρ H h b) → F1 b ∨ LiveB ρ H b := by
    rintro h b (⟨e, sz, fr, fz, els, c, ho, hr⟩ | ⟨e, sz, ie, els, ho, hr⟩)
    rotate_left
    · exact .inr ⟨h, _, ho, trivial, hr⟩
    cases fz with
    | false => exact .inr ⟨h, _, ho, rfl, .of hr⟩
    | true =>
      obtain ⟨_, _, h3⟩ := hh.row ho
      rw [hr] at h3
      obtain ⟨cur, _, _, _, _, _, h4⟩ := h3
      exact .inl (h4 rfl).1
  have hflag : ∀ {fr fr' : Bool} {els : List PV}, (fr = true → fr' = true ∨ ∀ v ∈ els, v.isFlat) → ∀ (i : Nat) (v : PV) (c : Value), (flat els)[i]? = some v → PVR w (flagF fr' F1 F2) v c → PVR w (flagF fr (G1of F1 ρ H l) (G2of k0 F2 ρ H l2)) v c := by
    intro fr fr' els hq i v c hi hv
    cases fr with
    | true =>
      rcases hq rfl with hq | hq
      · subst hq
        exact hv.mono (fun _ _ => rfl) (fun b hb => .inl hb)
      · exact hv.flat (flat_flat hq i v hi)
    | false => exact hv.mono (fun _ _ => rfl) (fun b hb => .inl (flagF_sub hh.sub fr' b hb))
  refine ⟨hf, fun i o ho => ?_, fun i i' o o' b ho ho' hl hl' hd hr hr' => ?_, fun i o b ho hl hr => ?_, fun b hb => ?_, fun b hb => ?_⟩
  · obtain ⟨t, ps', fz', bo', h1, h2, h3, h4, h5⟩ := mtH_ok hmt hp i o (look_mem ho)
    obtain ⟨hm, hbox⟩ := mtOb_ok h2 h3
    cases t with
    | full q =>
      have hρ : rhoOf σ ρ i = ρ q := by rw [rhoOf_at, h1]
      cases o with
      | box cs =>
        obtain ⟨ds, hH, hz⟩ := hbox cs q rfl rfl
        obtain ⟨b, cp, cur, ty, q1, q2, q3, q4⟩ := hh.obj q _ hH
        obtain ⟨r1, r2⟩ := mtVs_ok (G1 := G1of F1 ρ H l) (G2 := G2of k0 F2 ρ H l2) hh hf (fun b h => .inl h) (fun b h => .inl h) false 5 cs ds (fun i => cur.getD i undef) ps' fz' bo' hz h3 q4
          (fun h hm' b cp hr => .inr ⟨h, hfl h (by rcases List.mem_append.1 hm' with h' | h' <;> simp [h4, h5, h']), hrb h (hfl h (by rcases List.mem_append.1 hm' with h' | h' <;> simp [h4, h5, h'])) b cp hr⟩)
          (fun h hm' hk b cp hr => .inr ⟨h, hl2 h (h4 h hm'), hk, hrb2 h (hl2 h (h4 h hm')) b cp hr⟩) (fun h hm' b hb => .inr ⟨h, hfl h (by simp [h5 h hm']), .inr hb⟩)
        exact ⟨b, cp, cur, ty, by rw [hρ]; exact q1, q2, by omega, r2⟩
      | row e sz fr fz0 els =>
        obtain ⟨rfl, fr', hH, hfr⟩ := hm
        obtain ⟨q1, q2, q3⟩ := hh.row hH
        refine ⟨q1, q2, ?_⟩
        rw [hρ]
        cases hρq : ρ q with
        | none => rw [hρq] at q3; exact q3
        | some gc =>
          obtain ⟨g, cap⟩ := gc
          rw [hρq] at q3
          obtain ⟨cur, r1, r2, r3, r4, r5, _⟩ := q3
          exact ⟨cur, r1, r2, r3, r4, fun j v hj => hflag hfr j v _ hj (r5 j v hj), fun h => by cases h⟩
      | tree e sz ie els =>
        obtain ⟨els', hH, rfl⟩ := hm
        obtain ⟨q1, q2, q3, q4, q5⟩ := hh.obj q _ hH
        have hio := rhoOf_iota (ρ := ρ) h1
        refine ⟨q1, fun x hx => ?_, ?_, ?_, ?_⟩
        · obtain ⟨y, hy, rfl⟩ := List.mem_map.1 hx
          rw [List.length_map]
          exact q2 y hy
        · rw [hρ, hio]
          cases hρq : ρ q with
          | none =>
            rw [hρq] at q3
            simp only at q3
            subst q3
            rfl
          | some gc =>
            obtain ⟨g, cap⟩ := gc
            rw [hρq] at q3
            obtain ⟨cur, r1, r2, r3, r4, r5⟩ := q3
            refine ⟨cur, r1, by simpa using r2, r3, r4, fun a b t ht => ?_⟩
            rw [tcAt_map] at ht
            cases hc : tcAt els' a b with
            | none => rw [hc] at ht; cases ht
            | some u =>
              rw [hc] at ht
              obtain rfl := Option.some.inj ht
              have hu := r5 a b u hc
              cases u with
              | fl v => exact hu
              | ow l => exact hu
              | ref z => exact hu.one
              | dead => exact hu
        · rw [hio]
          intro a b a' b' l1 l2 x c c' g1 g2
          exact q4 a b a' b' l1 l2 x c c' (tcAt_unref g1) (tcAt_unref g2)
        · rw [hio, hρ]
          intro a b l1 x c c' g1
          exact q5 a b l1 x c c' (tcAt_unref g1)
      | gone => trivial
    | trunc q n =>
      have hρ : rhoOf σ ρ i = ρ q := by rw [rhoOf_at, h1]
      cases o with
      | box => exact hm.elim
      | gone => exact hm.elim
      | tree => exact hm.elim
      | row e sz fr fz0 els =>
        obtain ⟨rfl, fr', els', hH, hfr, rfl, hle⟩ := hm
        obtain ⟨q1, q2, q3⟩ := hh.row hH
        refine ⟨q1, fun x hx => q2 x (List.mem_of_mem_take hx), ?_⟩
        rw [hρ]
        cases hρq : ρ q with
        | none =>
          rw [hρq] at q3
          simp only at q3
          subst q3
          simp
        | some gc =>
          obtain ⟨g, cap⟩ := gc
          rw [hρq] at q3
          obtain ⟨cur, r1, r2, r3, r4, r5, _⟩ := q3
          refine ⟨cur, r1, by simp; omega, r3, r4, fun j v hj => ?_, fun h => by cases h⟩
          rw [flat_take q2, List.getElem?_take] at hj
          split at hj
          · exact hflag hfr j v _ hj (r5 j v hj)
          · cases hj
    | nil =>
      have hρ : rhoOf σ ρ i = none := by rw [rhoOf_at, h1]
      cases o with
      | box => exact hm.elim
      | gone => exact hm.elim
      | tree e sz ie els =>
        obtain ⟨hsz, rfl⟩ := hm
        refine ⟨hsz, fun x hx => absurd hx (by simp), ?_, fun a b a' b' l1 l2 x c c' g1 => (by simp [tcAt] at g1), fun a b l1 x c c' g1 => (by simp [tcAt] at g1)⟩
        rw [hρ]
      | row e sz fr fz0 els =>
        obtain ⟨rfl, hsz, rfl⟩ := hm
        refine ⟨hsz, fun x hx => absurd hx (by simp), ?_⟩
        rw [hρ]
  · obtain ⟨t, q, x1, h1, h2, hx1, h3, hxl1⟩ := hown i o b ho hr
    obtain ⟨t', q', x2, h1', h2', hx2, h3', hxl2⟩ := hown i' o' b ho' hr'
    by_cases hqq : q = q'
    · subst hqq
      have := sg_inj hnd (tgt_mem h1) (tgt_mem h1') h2 h2'
      exact hd (Prod.mk.inj this).1
    · exact hh.sep q q' x1 x2 b hx1 hx2 (hxl1 hl) (hxl2 hl') hqq h3 h3'
  · obtain ⟨t, q, x1, h1, h2, hx1, h3, hxl1⟩ := hown i o b ho hr
    rintro (h4 | ⟨h', hm', hrt⟩)
    · exact hh.off q x1 b hx1 (hxl1 hl) h3 h4
    · have hne : q ≠ h' := fun he => by subst he; exact disj_iff.1 hdj q (sgIds_mem (tgt_mem h1) h2) hm'
      rcases hrt with ⟨e, sz, fr, fz', els, c', hH', hr'⟩ | ⟨e, sz, ie, els, hH', hr'⟩
      · cases fz' with
        | false => exact hh.sep q h' x1 _ b hx1 hH' (hxl1 hl) rfl hne h3 (.of hr')
        | true =>
          obtain ⟨_, _, q3⟩ := hh.row hH'
          rw [hr'] at q3
          obtain ⟨cur, _, _, _, _, _, q4⟩ := q3
          exact hh.off q x1 b hx1 (hxl1 hl) h3 (q4 rfl).1
      · exact hh.sep q h' x1 _ b hx1 hH' (hxl1 hl) trivial hne h3 hr'
  · rcases hb with hb | ⟨h, hm, hk, hr⟩
    · exact .inl (hh.sub b hb)
    · exact .inr ⟨h, hl12 h hm, .inl hr⟩
  · rcases hb with hb | ⟨h, hm, hr⟩
    · exact hh.lt b hb
    · rcases hrow h b hr with h1 | ⟨h', o, h1, h2, h3⟩
      · exact hh.lt b h1
      · exact hh.own_lt h1 h2 h3
end
end Go.Proofs.Ytonbbaimkpjcfaa.Ev
/-! ## A piece of the program's text comes to what the reckoner says: branches and loops. No conditions. -/
namespace Go.Proofs.Ytonbbaimkpjcfaa.Ev
open Go
set_option linter.unusedVariables false
set_option linter.unusedSimpArgs false
section
variable {x : Cx} {P : Program} {Γ : List (FuncId × Ctr)} {T : Tab} {H : Hp} {a : Act} {w : World}

/-- What is needed of where a call began. -/
structure CxOk (x : Cx) : Prop where
  dom : ∀ h o, x.H0 h = some o → h < x.k0

theorem allBelow_ok {k : Nat} : ∀ {l : List Nat}, allBelow k l = true → ∀ i ∈ l, i < k
  | [], _, i, h => by cases h
  | j :: r, hb, i, h => by
    simp only [allBelow, Bool.and_eq_true] at hb
    rcases List.mem_cons.1 h with rfl | h1
    · exact Nat.le_of_ble_eq_true hb.1
    · exact allBelow_ok hb.2 i h1
theorem allIds_ok {l : List Nat} : ∀ {k : Nat}, allIds l k = true → ∀ i, i < k → i ∈ l
  | 0, _, i, h => by omega
  | k + 1, hb, i, h => by
    simp only [allIds, Bool.and_eq_true] at hb
    rcases Nat.lt_or_ge i k with h1 | h1
    · exact allIds_ok hb.2 i h1
    · obtain rfl : i = k := by omega
      exact memN_iff.1 hb.1
theorem lentSame_ok {k : Nat} : ∀ {σ : Sg}, lentSame k σ = true → ∀ i t, (i, t) ∈ σ → (i < k → t = .full i) ∧ (k ≤ i → ∀ h, t.id = some h → k ≤ h)
  | [], _, i, t, h => by cases h
  | (j, u) :: r, hb, i, t, h => by
    simp only [lentSame, Bool.and_eq_true] at hb
    rcases List.mem_cons.1 h with he | he
    · obtain ⟨rfl, rfl⟩ := Prod.mk.inj he
      have h1 := hb.1
      cases t with
      | full q =>
        simp only [Bool.or_eq_true, Bool.and_eq_true] at h1
        rcases h1 with ⟨h2, h3⟩ | ⟨h2, h3⟩
        · have h2 : i < k := Nat.le_of_ble_eq_true h2
          obtain rfl := Nat.eq_of_beq_eq_true h3
          exact ⟨fun _ => rfl, fun h => absurd h2 (by omega)⟩
        · have h2 := Nat.le_of_ble_eq_true h2
          have h3 := Nat.le_of_ble_eq_true h3
          exact ⟨fun h => absurd h (by omega), fun _ h hh => by obtain rfl := Option.some.inj hh; exact h3⟩
      | trunc q n =>
        simp only [Bool.and_eq_true] at h1
        have h2 := Nat.le_of_ble_eq_true h1.1
        have h3 := Nat.le_of_ble_eq_true h1.2
        exact ⟨fun h => absurd h (by omega), fun _ h hh => by obtain rfl := Option.some.inj hh; exact h3⟩
      | nil =>
        have h2 := Nat.le_of_ble_eq_true h1
        exact ⟨fun h => absurd h (by omega), fun _ h hh => by cases hh⟩
    · exact lentSame_ok hb.2 i t he
theorem embMtE_ok {s : St} {σ : Sg} {k0 : Nat} : ∀ {E : List (Nat × AV)} {ps : List Prop} {fz bo : List Nat}, embMtE σ s k0 E = some (ps, fz, bo) → allP ps → ∀ t f, (t, f) ∈ E → ∃ v ps' fz' bo', look s.env t = some v ∧ mtV σ (look s.heap) k0 false 5 f v = some (ps', fz', bo') ∧ allP ps' ∧ (∀ h ∈ fz', h ∈ fz) ∧ (∀ h ∈ bo', h ∈ bo)
  | [], ps, fz, bo, _, _, t, f, hm => by cases hm
  | (j, q) :: r, ps, fz, bo, h, hp, t, f, hm => by
    unfold embMtE at h
    cases ht : look s.env j with
    | none => rw [ht] at h; cases h
    | some v =>
      rw [ht] at h
      obtain ⟨p1, f1, b1, p2, f2, b2, e1, e2, rfl, rfl, rfl⟩ := Mt.and_some h
      obtain ⟨hp1, hp2⟩ := allP_append hp
      rcases List.mem_cons.1 hm with he | he
      · obtain ⟨rfl, rfl⟩ := Prod.mk.inj he
        exact ⟨v, p1, f1, b1, ht, e1, hp1, fun h hm => by simp [hm], fun h hm => by simp [hm]⟩
      · obtain ⟨v', ps', fz', bo', q1, q2, q3, q4, q5⟩ := embMtE_ok e2 hp2 t f he
        exact ⟨v', ps', fz', bo', q1, q2, q3, fun h hm => by simp [q4 h hm], fun h hm => by simp [q5 h hm]⟩
/-- Nothing is lent where no loan is allowed. -/
theorem mtV_noBo {σ : Sg} {H : Hp} {k0 : Nat} : ∀ (n : Nat) (f a : AV) {ps : List Prop} {fz bo : List Nat}, mtV σ H k0 false n f a = some (ps, fz, bo) → bo = [] := by
  intro n
  induction n with
  | zero => intro f a ps fz bo h; cases h
  | succ n ih =>
    have hlist : ∀ (xs ys : List AV) {ps : List Prop} {fz bo : List Nat}, zipMt (mtV σ H k0 false n) xs ys = some (ps, fz, bo) → bo = [] := by
      intro xs
      induction xs with
      | nil => intro ys ps fz bo h; cases ys with
        | nil => cases h; rfl
        | cons => cases h
      | cons x r ihl => intro ys ps fz bo h; cases ys with
        | nil => cases h
        | cons y s =>
          obtain ⟨p1, f1, b1, p2, f2, b2, e1, e2, rfl, rfl, rfl⟩ := Mt.and_some h
          rw [ih x y e1, ihl s e2]
          rfl
    intro f a ps fz bo h
    unfold mtV at h
    cases f with
    | p fr v =>
      simp only at h
      split at h
      · split at h
        · rename_i heq _; cases heq
        · cases h; rfl
        · cases h; rfl
      · split at h <;> cases h
    | ptr => simp only at h; split at h <;> (try cases h); split at h <;> (try cases h); split at h <;> (try cases h); rfl
    | rowf =>
      simp only at h
      split at h
      · split at h
        · split at h <;> cases h; rfl
        · cases h
      · split at h
        · split at h <;> cases h; rfl
        · cases h
      · split at h <;> cases h; rfl
      · cases h
    | row => simp only at h; split at h <;> (try cases h); split at h <;> (try cases h); split at h <;> (try cases h); rfl
    | func g x y =>
      simp only at h
      split at h
      · split at h
        · obtain ⟨p1, f1, b1, p2, f2, b2, e1, e2, rfl, rfl, rfl⟩ := Mt.and_some h
          rw [hlist _ _ e1, hlist _ _ e2]
          rfl
        · cases h
      · cases h
    | agg x => simp only at h; split at h <;> first | exact hlist _ _ h | cases h
    | tuple x => simp only at h; split at h <;> first | exact hlist _ _ h | cases h
    | eptr => cases h
    | rptr => cases h
end
end Go.Proofs.Ytonbbaimkpjcfaa.Ev
/-! ## One state stands within another: what holds of the one holds of the other. No conditions. -/
namespace Go.Proofs.Ytonbbaimkpjcfaa.Ev
open Go
set_option linter.unusedVariables false
set_option linter.unusedSimpArgs false
section
variable {x : Cx} {P : Program} {Γ : List (FuncId × Ctr)} {T : Tab} {H : Hp} {a : Act} {w : World}

theorem Mt.fst_some {σ : Sg} {s : St} {k0 : Nat} {S : St} {ps : List Prop} {fz bo : List Nat} (h : embMt S s k0 σ = some (ps, fz, bo)) :
    ∃ p1 f1 b1 p2 f2 b2, embMtE σ s k0 S.env = some (p1, f1, b1) ∧ mtH σ (look s.heap) k0 S.heap = some (p2, f2, b2) ∧ ps = p1 ++ p2 ∧ fz = f1 ++ f2 ∧ bo = b1 ++ b2 := Mt.and_some h
theorem zipMt_noBo {σ : Sg} {H : Hp} {k0 n : Nat} : ∀ (xs ys : List AV) {ps : List Prop} {fz bo : List Nat}, zipMt (mtV σ H k0 false n) xs ys = some (ps, fz, bo) → bo = [] := by
  intro xs
  induction xs with
  | nil => intro ys ps fz bo h; cases ys with
    | nil => cases h; rfl
    | cons => cases h
  | cons x r ihl => intro ys ps fz bo h; cases ys with
    | nil => cases h
    | cons y s =>
      obtain ⟨p1, f1, b1, p2, f2, b2, e1, e2, rfl, rfl, rfl⟩ := Mt.and_some h
      rw [mtV_noBo n x y e1, ihl s e2]
      rfl
theorem mtOb_noBo {σ : Sg} {H : Hp} {k0 : Nat} {o : Ob} {t : Tgt} {ps : List Prop} {fz bo : List Nat} (h : mtOb σ H k0 o t = some (ps, fz, bo)) : bo = [] := by
  unfold mtOb at h
  split at h
  · split at h
    · exact zipMt_noBo _ _ h
    · cases h
  · split at h
    · split at h
      · split at h <;> (cases h; rfl)
      · cases h
    · cases h
  · split at h
    · split at h
      · split at h <;> (cases h; rfl)
      · cases h
    · cases h
  · split at h <;> cases h
    rfl
  · split at h
    · split at h <;> cases h
      rfl
    · cases h
  · split at h <;> cases h
    rfl
  · split at h <;> cases h
    rfl
  · cases h
theorem mtH_noBo {σ : Sg} {H : Hp} {k0 : Nat} : ∀ {FL : List (Nat × Ob)} {ps : List Prop} {fz bo : List Nat}, mtH σ H k0 FL = some (ps, fz, bo) → bo = []
  | [], ps, fz, bo, h => by cases h; rfl
  | (i, o) :: r, ps, fz, bo, h => by
    unfold mtH at h
    split at h
    · obtain ⟨p1, f1, b1, p2, f2, b2, e1, e2, rfl, rfl, rfl⟩ := Mt.and_some h
      rw [mtOb_noBo e1, mtH_noBo e2]
      rfl
    · cases h
theorem embMtE_noBo {σ : Sg} {s : St} {k0 : Nat} : ∀ {E : List (Nat × AV)} {ps : List Prop} {fz bo : List Nat}, embMtE σ s k0 E = some (ps, fz, bo) → bo = []
  | [], ps, fz, bo, h => by cases h; rfl
  | (t, f) :: r, ps, fz, bo, h => by
    unfold embMtE at h
    split at h
    · obtain ⟨p1, f1, b1, p2, f2, b2, e1, e2, rfl, rfl, rfl⟩ := Mt.and_some h
      rw [mtV_noBo _ _ _ e1, embMtE_noBo e2]
      rfl
    · cases h

/-- What an embedding's checks say. -/
theorem emb_parts {full : Bool} {k0 : Nat} {S s : St} (h : emb full k0 S s) : ∃ σ p1 f1 p2 f2,
    embMtE σ s k0 S.env = some (p1, f1, []) ∧ mtH σ (look s.heap) k0 S.heap = some (p2, f2, []) ∧ allP p1 ∧ allP p2 ∧
    disj (sgIds σ) (f1 ++ f2) = true ∧ nodup (sgIds σ) = true ∧ sgIn (ids S.heap) σ = true ∧ rowsOk (look s.heap) (f1 ++ f2) = true ∧ lentSame k0 σ = true ∧ allBelow S.nx (ids S.heap) = true ∧ nodup (ids S.heap) = true ∧ k0 ≤ S.nx ∧ (full = true → allIds (ids S.heap) k0 = true) := by
  unfold emb at h
  rw [fSg_eq] at h
  generalize embSg S s k0 = σ at h
  cases hm : embMt S s k0 σ with
  | none => rw [hm] at h; exact h.elim
  | some y =>
    obtain ⟨ps, fz, bo⟩ := y
    rw [hm] at h
    simp only [fPs_eq, fNs_eq] at h
    split at h
    · rename_i hb
      simp only [Bool.and_eq_true] at hb
      obtain ⟨⟨⟨⟨⟨⟨⟨⟨⟨q1, q2⟩, q3⟩, q4⟩, q5⟩, q6⟩, q7⟩, q8⟩, q9⟩, q10⟩ := hb
      obtain ⟨p1, f1, b1, p2, f2, b2, e1, e2, rfl, rfl, rfl⟩ := Mt.fst_some hm
      obtain rfl := embMtE_noBo e1
      obtain rfl := mtH_noBo e2
      obtain ⟨hp1, hp2⟩ := allP_append h
      refine ⟨σ, p1, f1, p2, f2, e1, e2, hp1, hp2, q1, q2, q4, q5, q6, q7, q8, Nat.le_of_ble_eq_true q9, fun hf => ?_⟩
      subst hf
      simpa using q10
    · exact h.elim

theorem emb_core {full : Bool} {k0 : Nat} {S s : St} (h : emb full k0 S s) {F1 F2 : Nat → Prop} {ρ : Pl} (hh : HeapR k0 w F1 F2 ρ (look s.heap)) : ∃ σ l,
    (∀ i t, tgt σ i = some t → ∃ o, look S.heap i = some o ∧ ObM (look s.heap) o t) ∧ (∀ kf, HeapR kf w (G1of F1 ρ (look s.heap) l) (G2of k0 F2 ρ (look s.heap) l) (rhoOf σ ρ) (look S.heap)) ∧
    (∀ t f, (t, f) ∈ S.env → ∃ v, look s.env t = some v ∧ ∀ c, AVR w F1 F2 ρ (look s.heap) v c → AVR w (G1of F1 ρ (look s.heap) l) (G2of k0 F2 ρ (look s.heap) l) (rhoOf σ ρ) (look S.heap) f c) ∧
    rowsOk (look s.heap) l = true ∧ lentSame k0 σ = true ∧ allBelow S.nx (ids S.heap) = true ∧ nodup (ids S.heap) = true ∧ k0 ≤ S.nx ∧ (∀ i o, look S.heap i = some o → ∃ t, tgt σ i = some t) ∧ (full = true → ∀ i, i < k0 → ∃ o, look S.heap i = some o ∧ ∃ t, tgt σ i = some t) := by
  obtain ⟨σ, p1, f1, p2, f2, e1, e2, hp1, hp2, q1, q2, q4, q5, q6, q7, q8, q9, q10⟩ := emb_parts h
  refine ⟨σ, f1 ++ f2, ?_⟩
  have hform := fun kf => HeapR.formal (kf := kf) hh e2 hp2 (l := f1 ++ f2) (l2 := f1 ++ f2) (fun h hm => List.mem_append.2 (.inr (by simpa using hm))) (fun h hm => List.mem_append.2 (.inr hm)) (fun h hm => hm) q1 q2 q4 (lentOk_of q5) q5 q8 (fun _ _ => trivial) (bor := false)
  have hf := (hform 0).1
  have hrb : ∀ h ∈ f1 ++ f2, ∀ b cp, ρ h = some (b, cp) → RowB ρ (look s.heap) h b := by
    intro h hm b cp hr
    obtain ⟨e, sz, fr, fz, els, hH⟩ := rowsOk_ok q5 h hm
    exact ⟨e, sz, fr, fz, els, cp, hH, hr⟩
  refine ⟨hf, fun kf => (hform kf).2, fun t f hm => ?_, q5, q6, q7, q8, q9, fun i o ho => ?_, fun hfull i hi => ?_⟩
  · obtain ⟨v, ps', fz', bo', r1, r2, r3, r4, r5⟩ := embMtE_ok e1 hp1 t f hm
    obtain rfl := mtV_noBo _ _ _ r2
    refine ⟨v, r1, fun c hc => ?_⟩
    exact mtV_ok hh hf (fun b h => .inl h) (fun b h => .inl h) false 5 f v c ps' fz' [] r2 r3 hc
      (fun h hm b cp hr => .inr ⟨h, by simp [r4 h (by simpa using hm)], .inl (hrb h (by simp [r4 h (by simpa using hm)]) b cp hr)⟩)
      (fun h hm hk b cp hr => .inr ⟨h, by simp [r4 h hm], hk, hrb h (by simp [r4 h hm]) b cp hr⟩) (fun h hm => (List.not_mem_nil hm).elim)
  · obtain ⟨t, _, _, _, ht, _⟩ := mtH_ok e2 hp2 i o (look_mem ho)
    exact ⟨t, ht⟩
  · have := allIds_ok (q10 hfull) i hi
    obtain ⟨o, ho⟩ := mem_ids.1 this
    obtain ⟨t, _, _, _, ht, _⟩ := mtH_ok e2 hp2 i o ho
    exact ⟨o, look_of_mem q8 ho, t, ht⟩

theorem emb_sound (hx : CxOk x) {S s : St} (h : emb true x.k0 S s) (hr : Rel x (look s.env) (look s.heap) a w) : Rel x (look S.env) (look S.heap) a w ∧ S.fresh := by
  obtain ⟨h1, h2, F1, F2, ρ, hc, he⟩ := hr
  obtain ⟨σ, l, hf, hheap, henv, hrows, hls, hbel, hnd, hkn, htg, hall⟩ := emb_core h hc.heap
  have hrow : ∀ h ∈ l, ∀ b, RowB ρ (look s.heap) h b → x.own b := by
    rintro h hm b ⟨e, sz, fr, fz, els, c, ho, hr⟩
    exact hc.own h _ b ho (.of hr)
  have htree : ∀ h ∈ l, ∀ b, TreeB ρ (look s.heap) h b → x.own b := by
    rintro h hm b ⟨e, sz, ie, els, ho, hr⟩
    exact hc.own h _ b ho hr
  refine ⟨⟨h1, h2, _, _, _, ⟨hheap x.k0, hc.os, hc.tape, hc.output, hc.size, hc.wr, hc.blk, fun h o b ho hr => ?_, fun h o ho => ?_, fun b hb => .inl (hc.f1 b hb), fun b hb => ?_, fun b hb => .inl (hc.f2 b hb), fun b hb => ?_⟩, fun t f ht => ?_⟩, fun i hi => ?_⟩
  · obtain ⟨t, q, o', q1, q2, q3, q4, _⟩ := ownOf hf ho hr
    exact hc.own q o' b q3 q4
  · have hlt := hx.dom h o ho
    obtain ⟨o', ho', t, ht⟩ := hall rfl h hlt
    obtain rfl := (lentSame_ok hls h t (tgt_mem ht)).1 hlt
    refine ⟨?_, o', ho'⟩
    rw [rhoOf_at, ht]
    exact (hc.old h o ho).1
  · rcases hb with hb | ⟨h, hm, hr⟩
    · exact hc.g1 b hb
    · exact .inr (hr.elim (hrow h hm b) (htree h hm b))
  · rcases hb with hb | ⟨h, hm, hk, hr⟩
    · exact hc.g2 b hb
    · exact .inr (hrow h hm b hr)
  · obtain ⟨v, hv, hav⟩ := henv t f (look_mem ht)
    exact hav _ (he t v hv)
  · cases hl : look S.heap i with
    | none => rfl
    | some o =>
      have := allBelow_ok hbel i (mem_ids.2 ⟨o, look_mem hl⟩)
      omega
end
end Go.Proofs.Ytonbbaimkpjcfaa.Ev
/-! ## What an operation looks at: the slots it names and the things that the reckoner lists, nothing else. No conditions. -/
namespace Go.Proofs.Ytonbbaimkpjcfaa.Ev
open Go
set_option linter.unusedVariables false
set_option linter.unusedSimpArgs false

theorem evalR_env {e e' : Env} {x : Operand} (h : ∀ t, x = .tmp t → e t = e' t) : evalR e x = evalR e' x := by
  cases x <;> first | exact h _ rfl | rfl
theorem evalRs_env {e e' : Env} : ∀ {l : List Operand}, (∀ x ∈ l, evalR e x = evalR e' x) → evalRs e l = evalRs e' l
  | [], _ => rfl
  | x :: r, h => by
    unfold evalRs
    rw [h x (by simp), evalRs_env (l := r) fun y hy => h y (by simp [hy])]
theorem evalParts_env {e e' : Env} : ∀ {l : List (Nat × Operand)}, (∀ p ∈ l, evalR e p.2 = evalR e' p.2) → evalParts e l = evalParts e' l
  | [], _ => rfl
  | (i, x) :: r, h => by
    unfold evalParts
    rw [h (i, x) (by simp), evalParts_env (l := r) fun y hy => h y (by simp [hy])]
theorem evalOp_env {Γ : List (FuncId × Ctr)} {T : Tab} {k0 : Nat} {o : Oper} {e e' : Env} {H : Hp} {nx : Nat} (h : ∀ x ∈ o.op.operands, evalR e x = evalR e' x) : evalOp Γ T k0 o e H nx = evalOp Γ T k0 o e' H nx := by
  obtain ⟨dst, op, type, pos, after, guard⟩ := o
  unfold evalOp
  cases op <;> simp only [Op.operands] at h <;> simp only
  case build t ps => rw [evalParts_env (l := ps.toList) fun p hp => h p.2 (by simpa using ⟨p.1, by simpa using hp⟩)]
  case buildSlice t n ps => rw [evalParts_env (l := ps.toList) fun p hp => h p.2 (by simpa using ⟨p.1, by simpa using hp⟩)]
  case makeFunc fn first captured =>
    cases fn <;> simp only
    rw [evalRs_env (l := first.toList) fun x hx => h x (by simp at hx ⊢; exact .inl hx), evalRs_env (l := captured.toList) fun x hx => h x (by simp at hx ⊢; exact .inr hx)]
  case call c =>
    cases hc : c.callee with
    | value f =>
      simp only [Call.operands, hc] at h ⊢
      rw [evalRs_env (l := c.args.toList) fun x hx => h x (by simp at hx ⊢; exact .inr hx), h f (by simp)]
    | builtin b =>
      simp only [Call.operands, hc] at h ⊢
      rw [evalRs_env (l := c.args.toList) fun x hx => h x (by simpa using hx)]
    | invoke r m => simp only
  case slice t x lo hi mx => cases lo <;> cases hi <;> cases mx <;> simp_all
  all_goals (first | rfl | (simp_all; done))

section
variable {H H' : Hp} {k0 : Nat} {T : Tab}
theorem viewPV_foot {a : AV} {r : Bool × PV × List Nat} (h : viewPV H k0 a = some r) (hag : ∀ i ∈ r.2.2, H i = H' i) : viewPV H' k0 a = some r := by
  unfold viewPV at h ⊢
  split at h
  · exact h
  · split at h
    · rename_i heq
      cases h
      rw [hag _ (by simp)] at heq
      simp only [heq]
    · cases h
  · split at h
    · rename_i heq
      cases h
      rw [hag _ (by simp)] at heq
      simp only [heq]
    · cases h
  · cases h
theorem viewPVs_foot : ∀ {l : List AV} {r : Bool × List PV × List Nat}, viewPVs H k0 l = some r → (∀ i ∈ r.2.2, H i = H' i) → viewPVs H' k0 l = some r
  | [], r, h, _ => h
  | x :: s, r, h, hag => by
    unfold viewPVs at h ⊢
    cases h1 : viewPV H k0 x with
    | none => rw [h1] at h; cases h
    | some a =>
      cases h2 : viewPVs H k0 s with
      | none => rw [h1, h2] at h; cases h
      | some b =>
        rw [h1, h2] at h
        obtain ⟨f, v, l⟩ := a
        obtain ⟨g, vs, m⟩ := b
        cases h
        rw [viewPV_foot h1 fun i hi => hag i (by simp at hi ⊢; exact .inl hi), viewPVs_foot h2 fun i hi => hag i (by simp at hi ⊢; exact .inr hi)]
theorem viewEl_foot {a : AV} {r : Bool × PV × List Nat} (h : viewEl H k0 a = some r) (hag : ∀ i ∈ r.2.2, H i = H' i) : viewEl H' k0 a = some r := by
  unfold viewEl at h ⊢
  split at h
  · split at h
    · rename_i heq
      cases h
      rw [viewPVs_foot heq hag]
    · cases h
  · exact viewPV_foot h hag
theorem viewEls_foot : ∀ {l : List AV} {r : Bool × List PV × List Nat}, viewEls H k0 l = some r → (∀ i ∈ r.2.2, H i = H' i) → viewEls H' k0 l = some r
  | [], r, h, _ => h
  | x :: s, r, h, hag => by
    unfold viewEls at h ⊢
    cases h1 : viewEl H k0 x with
    | none => rw [h1] at h; cases h
    | some a =>
      cases h2 : viewEls H k0 s with
      | none => rw [h1, h2] at h; cases h
      | some b =>
        rw [h1, h2] at h
        obtain ⟨f, v, l⟩ := a
        obtain ⟨g, vs, m⟩ := b
        cases h
        rw [viewEl_foot h1 fun i hi => hag i (by simp at hi ⊢; exact .inl hi), viewEls_foot h2 fun i hi => hag i (by simp at hi ⊢; exact .inr hi)]
theorem freeze_foot : ∀ {l : List Nat}, (∀ i ∈ l, H i = H' i) → freeze H' l = freeze H l
  | [], _ => rfl
  | i :: r, h => by
    unfold freeze
    rw [← h i (by simp), freeze_foot (l := r) fun j hj => h j (by simp [hj])]
/-- The same comes of it where the listed things are the same. -/
def Foot (H H' : Hp) (s s' : Step) : Prop := ∀ cs v rd ups, s = .ok cs v rd ups → (∀ i ∈ rd, H i = H' i) → s' = .ok cs v rd ups
theorem Foot.refl (s : Step) : Foot H H' s s := fun _ _ _ _ h _ => h
theorem lenOf_foot {a : AV} {r : Nat × List Nat} (h : lenOf H a = some r) (hag : ∀ i ∈ r.2, H i = H' i) : lenOf H' a = some r := by
  unfold lenOf at h ⊢
  split at h
  · exact h
  · exact h
  · exact h
  · split at h
    · rename_i heq
      cases h
      rw [hag _ (by simp)] at heq
      simp only [heq]
    · rename_i heq
      cases h
      rw [hag _ (by simp)] at heq
      simp only [heq]
    · cases h
  · split at h
    · rename_i heq
      cases h
      rw [hag _ (by simp)] at heq
      simp only [heq]
    · cases h
  · cases h
theorem evalConv_foot {d s : TypeId} {x : AV} : Foot H H' (evalConv T H k0 d s x) (evalConv T H' k0 d s x) := by
  intro cs v rd ups h hag
  unfold evalConv at h ⊢
  split at h
  · rename_i dd ds h1 h2
    split at h
    · exact h
    · exact h
    · exact h
    · split at h
      · rename_i hte heq
        split at h
        · rename_i hk
          cases h
          rw [hte, viewPV_foot heq hag]
          simp only [hk]
        · cases h
      · rename_i hte heq
        split at h
        · rename_i hk
          cases h
          rw [hte, viewPV_foot heq hag]
          simp only [hk]
        · cases h
      · cases h
    · rename_i h0 _ _
      split at h
      · rename_i hte heq
        split at h
        · rename_i hk hb
          cases h
          rw [hag _ (by simp)] at heq
          rw [hte, heq]
          simp only [hk, hb]
        · cases h
      · cases h
    · cases h
  · cases h
theorem loadCells_foot {fr : Bool} {t : TypeId} {c : List PV} {r : List Nat} {cs : List Prop} {v : Option AV} {rd : List Nat} {ups : List (Nat × Ob)} (h : loadCells T fr t c r = .ok cs v rd ups) : rd = r := by
  unfold loadCells at h
  split at h
  · split at h
    · cases h; rfl
    · split at h
      · cases h; rfl
      · cases h
  · cases h
theorem loadEl_foot {fr : Bool} {t : TypeId} {sz off : Nat} {x : PV} {r : List Nat} {cs : List Prop} {v : Option AV} {rd : List Nat} {ups : List (Nat × Ob)} (h : loadEl T fr t sz off x r = .ok cs v rd ups) : rd = r := by
  unfold loadEl at h
  split at h
  · split at h
    · split at h
      · cases h; rfl
      · exact loadCells_foot h
    · cases h
  · exact loadCells_foot h
theorem evalLoad_foot {nx : Nat} {t : TypeId} {x : AV} : Foot H H' (evalLoad T H nx t x) (evalLoad T H' nx t x) := by
  intro cs v rd ups h hag
  unfold evalLoad at h ⊢
  split at h
  · rename_i hh off
    split at h
    · rename_i c d h1 h2
      have hrd : rd = [hh] := by
        split at h
        · cases h; rfl
        · split at h
          · cases h; rfl
          · cases h
      rw [← hag hh (by simp [hrd]), h1, h2]
      exact h
    · cases h
  · exact h
  · rename_i hh i off
    split at h
    · rename_i h1
      have h' := h
      rw [withDfl_eq] at h'
      rw [← hag hh (by simp [loadEl_foot h']), h1]
      exact h
    · rename_i h1
      have hrd : rd = [hh] := by
        split at h
        · split at h
          · split at h <;> (cases h; try rfl)
          · cases h
        · cases h
      rw [← hag hh (by simp [hrd]), h1]
      exact h
    · cases h
  · cases h
theorem evalStore_foot {t : TypeId} {x y : AV} : Foot H H' (evalStore T H k0 t x y) (evalStore T H' k0 t x y) := by
  intro cs v rd ups h hag
  unfold evalStore at h ⊢
  split at h
  · rename_i hh off
    split at h
    · rename_i c d h1 h2
      have hrd : rd = [hh] := by
        split at h
        · cases h; rfl
        · cases h
      rw [← hag hh (by simp [hrd]), h1, h2]
      exact h
    · cases h
  · rename_i hh i
    split at h
    · rename_i h1 h2
      have hrd : rd = [hh] := by
        split at h
        · cases h; rfl
        · cases h
      rw [← hag hh (by simp [hrd]), h1, h2]
      exact h
    · cases h
  · rename_i hh i o
    split at h
    · rename_i e sz fr els f wv rd2 d h1 hv h2
      split at h
      · rename_i cs h3 h4
        cases h
        rw [← hag hh (by simp), h1, viewPV_foot hv fun j hj => hag j (by simp at hj ⊢; exact .inr hj), h2]
        simp only [h3, h4]
        rw [freeze_foot fun j hj => hag j (by simp [hj])]
      · cases h
    · cases h
  · cases h
theorem evalFieldAddr_foot {s : TypeId} {f : Nat} {x : AV} : Foot H H' (evalFieldAddr T H s f x) (evalFieldAddr T H' s f x) := by
  intro cs v rd ups h hag
  unfold evalFieldAddr at h ⊢
  split at h
  · split at h
    · split at h
      · split at h
        · cases h
        · split at h
          · exact h
          · exact h
          · rename_i hh i off
            split at h
            · rename_i h1
              cases h
              rw [hag hh (by simp)] at h1
              simp only [h1]
            · rename_i h1
              cases h
              rw [hag hh (by simp)] at h1
              simp only [h1]
            · cases h
          · cases h
      · cases h
    · cases h
  · cases h
theorem evalIndexAddr_foot {t : TypeId} {x y : AV} : Foot H H' (evalIndexAddr T H t x y) (evalIndexAddr T H' t x y) := by
  intro cs v rd ups h hag
  unfold evalIndexAddr at h ⊢
  split at h
  · split at h
    · exact h
    · rename_i e hh hk
      split at h
      · rename_i h1
        have hrd : rd = [hh] := by
          split at h
          · cases h; rfl
          · cases h
        rw [← hag hh (by simp [hrd]), h1]
        exact h
      · rename_i h1
        have hrd : rd = [hh] := by
          split at h
          · cases h; rfl
          · cases h
        rw [← hag hh (by simp [hrd]), h1]
        exact h
      · cases h
    · rename_i e hh off n hk
      split at h
      · rename_i h1
        have hrd : rd = [hh] := by
          split at h
          · cases h; rfl
          · cases h
        rw [← hag hh (by simp [hrd]), h1]
        exact h
      · cases h
    · split at h
      · exact h
      · cases h
    · cases h
  · cases h
theorem evalSlice_foot {t : TypeId} {x : AV} {lo hi : Option AV} : Foot H H' (evalSlice T H t x lo hi) (evalSlice T H' t x lo hi) := by
  intro cs v rd ups h hag
  unfold evalSlice at h ⊢
  split at h
  · split at h
    · exact h
    · exact h
    · exact h
    · rename_i e hh hk
      split at h
      · rename_i h1
        have hrd : rd = [hh] := by
          split at h
          · cases h; rfl
          · cases h
        rw [← hag hh (by simp [hrd]), h1]
        exact h
      · cases h
    · rename_i e hh off n hk
      split at h
      · rename_i h1
        have hrd : rd = [hh] := by
          split at h
          · cases h; rfl
          · cases h
        rw [← hag hh (by simp [hrd]), h1]
        exact h
      · cases h
    · cases h
  · cases h
theorem takeCell_foot {ie : TypeId} {a : AV} {r : TC × List Nat × List Prop} (h : takeCell H k0 ie a = some r) (hag : ∀ i ∈ r.2.1, H i = H' i) : takeCell H' k0 ie a = some r := by
  unfold takeCell at h ⊢
  split at h <;> try exact h
  all_goals
    rename_i q
    split at h <;> try (cases h; done)
    rename_i heq
    split at h <;> try (cases h; done)
    rename_i hb
    cases h
    rw [hag _ (by simp)] at heq
    simp only [heq, hb]
theorem takeCells_foot {ie : TypeId} : ∀ {l : List AV} {r : List TC × List Nat × List Prop}, takeCells H k0 ie l = some r → (∀ i ∈ r.2.1, H i = H' i) → takeCells H' k0 ie l = some r
  | [], r, h, _ => h
  | x :: s, r, h, hag => by
    unfold takeCells at h ⊢
    split at h
    · rename_i c u p cs u2 p2 h1 h2
      cases h
      rw [takeCell_foot h1 fun i hi => hag i (List.mem_append.2 (.inl hi)), takeCells_foot h2 fun i hi => hag i (List.mem_append.2 (.inr hi))]
    · cases h
theorem takeEls_foot {ie : TypeId} : ∀ {l : List AV} {r : List (List TC) × List Nat × List Prop}, takeEls H k0 ie l = some r → (∀ i ∈ r.2.1, H i = H' i) → takeEls H' k0 ie l = some r
  | [], r, h, _ => h
  | x :: s, r, h, hag => by
    unfold takeEls at h ⊢
    split at h
    · rename_i c u p cs u2 p2 h1 h2
      cases h
      rw [takeCells_foot h1 fun i hi => hag i (List.mem_append.2 (.inl hi)), takeEls_foot h2 fun i hi => hag i (List.mem_append.2 (.inr hi))]
    · cases h
theorem evalBuildTree_foot {nx len : Nat} {e ie : TypeId} {parts : List (Nat × AV)} : Foot H H' (evalBuildTree T H k0 nx e ie len parts) (evalBuildTree T H' k0 nx e ie len parts) := by
  intro cs v rd ups h hag
  unfold evalBuildTree at h ⊢
  split at h
  · rename_i de vs h1 h2
    split at h
    · rename_i els us ps h3 h4
      split at h
      · rename_i h5
        cases h
        rw [h3, takeEls_foot h4 hag]
        simp only [h5]
      · cases h
    · cases h
  · cases h
theorem evalBuildSlice_foot {nx : Nat} {t : TypeId} {len : Nat} {parts : List (Nat × AV)} : Foot H H' (evalBuildSlice T H k0 nx t len parts) (evalBuildSlice T H' k0 nx t len parts) := by
  intro cs v rd ups h hag
  unfold evalBuildSlice at h ⊢
  split at h
  · rename_i d hd
    split at h
    · rename_i e hk
      split at h
      · exact evalBuildTree_foot _ _ _ _ h hag
      split at h
      · rename_i de vs h1 h2
        split at h
        · rename_i fr els r h3 h4
          split at h
          · rename_i h5
            cases h
            rw [h3, viewEls_foot h4 hag]
            simp only [h5]
            rw [freeze_foot hag]
          · cases h
        · cases h
      · cases h
    · cases h
  · cases h
end
end Go.Proofs.Ytonbbaimkpjcfaa.Ev
/-! ## What an operation looks at: appends, calls. No conditions. -/
namespace Go.Proofs.Ytonbbaimkpjcfaa.Ev
open Go
set_option linter.unusedVariables false
set_option linter.unusedSimpArgs false

section
variable {H H' : Hp} {k0 : Nat} {T : Tab}
theorem srcRow_foot {x : AV} {es : Option (TypeId × Nat)} {fr : Bool} {els : List PV} {c : List Prop} {ups : List (Nat × Ob)} {rd : List Nat} (h : srcRow H x = some (es, fr, els, c, ups, rd)) (hag : ∀ i ∈ rd, H i = H' i) : srcRow H' x = some (es, fr, els, c, ups, rd) := by
  unfold srcRow at h ⊢
  split at h
  · exact h
  · split at h
    · rename_i heq
      cases h
      rw [hag _ (by simp)] at heq
      simp only [heq]
    · cases h
  · split at h
    · rename_i heq
      cases h
      rw [hag _ (by simp)] at heq
      simp only [heq]
    · cases h
  · cases h
theorem addedEls_foot {sz : Nat} {x : AV} {r : Bool × List PV × List Nat} (h : addedEls H k0 sz x = some r) (hag : ∀ i ∈ r.2.2, H i = H' i) : addedEls H' k0 sz x = some r := by
  unfold addedEls at h ⊢
  split at h
  · rename_i heq
    split at h
    · rename_i hb
      cases h
      rw [viewPV_foot heq hag]
      simp only [hb]
    · cases h
  · rename_i heq
    cases h
    rw [viewPV_foot heq hag]
  · cases h
theorem srcTree_foot {e sz ie : Nat} {a : AV} {r : List (List TC) × List Nat} (h : srcTree H k0 e sz ie a = some r) (hag : ∀ i ∈ r.2, H i = H' i) : srcTree H' k0 e sz ie a = some r := by
  unfold srcTree at h ⊢
  split at h
  · exact h
  · split at h <;> try (cases h; done)
    rename_i heq
    split at h <;> try (cases h; done)
    rename_i hb
    cases h
    rw [hag _ (by simp)] at heq
    simp only [heq, hb]
  · cases h
theorem evalAppendT_foot {nx : Nat} {e ie : TypeId} {x y : AV} : Foot H H' (evalAppendT T H k0 nx e ie x y) (evalAppendT T H' k0 nx e ie x y) := by
  intro cs v rd ups h hag
  unfold evalAppendT at h ⊢
  split at h
  · split at h
    · rename_i els us els2 us2 h1 h2
      split at h
      · rename_i hb
        cases h
        rw [srcTree_foot h1 fun i hi => hag i (List.mem_append.2 (.inl hi)), srcTree_foot h2 fun i hi => hag i (List.mem_append.2 (.inr hi))]
        simp only [hb]
      · cases h
    · cases h
  · cases h
theorem evalAppend_foot {nx : Nat} {t t2 : TypeId} {x y : AV} : Foot H H' (evalAppend T H k0 nx t t2 x y) (evalAppend T H' k0 nx t t2 x y) := by
  intro cs v rd ups h hag
  unfold evalAppend at h ⊢
  cases ht : look T t with
  | none => rw [ht] at h; cases h
  | some d =>
  cases ht2 : look T t2 with
  | none => rw [ht, ht2] at h; cases h
  | some d2 =>
  rw [ht, ht2] at h
  simp only at h ⊢
  cases hk : d.k <;> rw [hk] at h <;> try (cases h; done)
  rename_i e
  simp only at h ⊢
  cases hw : d.owns with
  | some ie =>
    rw [hw] at h
    simp only at h ⊢
    split at h
    · exact evalAppendT_foot _ _ _ _ h hag
    · cases h
  | none =>
  rw [hw] at h
  simp only at h ⊢
  cases he : look T e with
  | none => rw [he] at h; cases h
  | some de =>
  cases hs : srcRow H x with
  | none => rw [he, hs] at h; cases h
  | some q =>
  obtain ⟨es, fr, els, c, us, r⟩ := q
  rw [he, hs] at h
  simp only at h
  have hsub : ∀ i ∈ r, i ∈ rd := by
    split at h
    · split at h
      · cases h; exact fun i hi => hi
      · cases h; exact fun i hi => hi
      · cases h
      · split at h
        · cases h; exact fun i hi => hi
        · cases h
      · split at h
        · cases h; exact fun i hi => List.mem_append.2 (.inl hi)
        · cases h
      · cases h
    · cases h
  rw [srcRow_foot hs fun i hi => hag i (hsub i hi)]
  simp only
  split at h
  · rename_i hb
    split at h
    · exact h
    · exact h
    · cases h
    · exact h
    · split at h
      · rename_i heq
        have : ∀ i, i ∈ rd → H i = H' i := hag
        cases h
        rw [addedEls_foot heq fun i hi => hag i (List.mem_append.2 (.inr hi))]
      · cases h
    · cases h
  · cases h
theorem evalCopy_foot {t t2 : TypeId} {x y : AV} : Foot H H' (evalCopy T H k0 t t2 x y) (evalCopy T H' k0 t t2 x y) := by
  intro cs v rd ups h hag
  unfold evalCopy at h ⊢
  split at h
  · split at h
    · split at h
      · rename_i hz1 hz2 heq
        split at h
        · rename_i hh n f2 els2 rd2 e' fr els hH
          cases h
          rw [hag hh (by simp)] at hH
          rw [hz2, viewPV_foot heq fun i hi => hag i (by simp at hi ⊢; exact .inr hi)]
          simp only [hH]
        · cases h
      · cases h
    · cases h
  · cases h
theorem evalBuiltin_foot {nx : Nat} {b : Builtin} {ts : List TypeId} {args : List AV} : Foot H H' (evalBuiltin T H k0 nx b ts args) (evalBuiltin T H' k0 nx b ts args) := by
  intro cs v rd ups h hag
  unfold evalBuiltin at h ⊢
  split at h
  · split at h
    · split at h
      · rename_i d n r hd hl
        have hrd : rd = r := by
          split at h
          · cases h; rfl
          · cases h
          · cases h; rfl
          · cases h
        rw [hd, lenOf_foot hl (by rw [← hrd]; exact hag)]
        exact h
      · cases h
    · cases h
  · exact h
  · split at h
    · exact evalAppend_foot _ _ _ _ h hag
    · cases h
  · split at h
    · exact evalCopy_foot _ _ _ _ h hag
    · cases h
  · exact h
  · exact h
  · cases h
end
end Go.Proofs.Ytonbbaimkpjcfaa.Ev
/-! ## What an operation looks at: calls; all operations. No conditions. -/
namespace Go.Proofs.Ytonbbaimkpjcfaa.Ev
open Go
set_option linter.unusedVariables false
set_option linter.unusedSimpArgs false

section
variable {H H' : Hp} {k0 : Nat} {T : Tab} {σ : Sg}
theorem zipMt_foot {f g : AV → AV → Mt} (hfg : ∀ a b ps fz bo, f a b = some (ps, fz, bo) → (∀ i ∈ fz ++ bo, H i = H' i) → g a b = some (ps, fz, bo)) :
    ∀ (xs ys : List AV) (ps : List Prop) (fz bo : List Nat), zipMt f xs ys = some (ps, fz, bo) → (∀ i ∈ fz ++ bo, H i = H' i) → zipMt g xs ys = some (ps, fz, bo) := by
  intro xs
  induction xs with
  | nil => intro ys ps fz bo h hag; cases ys with
    | nil => exact h
    | cons => cases h
  | cons x r ih => intro ys ps fz bo h hag; cases ys with
    | nil => cases h
    | cons y s =>
      obtain ⟨p1, f1, b1, p2, f2, b2, e1, e2, rfl, rfl, rfl⟩ := Mt.and_some h
      unfold zipMt
      rw [hfg x y p1 f1 b1 e1 fun i hi => hag i (by simp at hi ⊢; rcases hi with h | h <;> simp [h]), ih s p2 f2 b2 e2 fun i hi => hag i (by simp at hi ⊢; rcases hi with h | h <;> simp [h])]
      rfl
theorem Mt.and_foot {a b a' b' : Mt} {ps : List Prop} {fz bo : List Nat} (h : Mt.and a b = some (ps, fz, bo)) (hag : ∀ i ∈ fz ++ bo, H i = H' i)
    (ha : ∀ ps fz bo, a = some (ps, fz, bo) → (∀ i ∈ fz ++ bo, H i = H' i) → a' = some (ps, fz, bo)) (hb : ∀ ps fz bo, b = some (ps, fz, bo) → (∀ i ∈ fz ++ bo, H i = H' i) → b' = some (ps, fz, bo)) : Mt.and a' b' = some (ps, fz, bo) := by
  obtain ⟨p1, f1, b1, p2, f2, b2, e1, e2, rfl, rfl, rfl⟩ := Mt.and_some h
  rw [ha _ _ _ e1 fun i hi => hag i (by simp at hi ⊢; rcases hi with h | h <;> simp [h]), hb _ _ _ e2 fun i hi => hag i (by simp at hi ⊢; rcases hi with h | h <;> simp [h])]
  rfl
theorem mtV_foot {bor : Bool} : ∀ (n : Nat) (f a : AV) (ps : List Prop) (fz bo : List Nat), mtV σ H k0 bor n f a = some (ps, fz, bo) → (∀ i ∈ fz ++ bo, H i = H' i) → mtV σ H' k0 bor n f a = some (ps, fz, bo) := by
  intro n
  induction n with
  | zero => intro f a ps fz bo h; cases h
  | succ n ih =>
    intro f a ps fz bo h hag
    unfold mtV at h ⊢
    cases f with
    | p fr v =>
      simp only at h ⊢
      cases hv : viewPV H k0 a with
      | none =>
        rw [hv] at h
        simp only at h
        split at h
        · rename_i u q p hvt
          split at h
          · have hq : H q = H' q := by
              cases h
              exact hag q (by simp)
            unfold viewT at hvt
            split at hvt
            · rename_i q2
              split at hvt
              · rename_i hH
                cases hvt
                have hH' := hH
                rw [hq] at hH'
                have h1 : viewPV H' k0 (.rowf q) = none := by simp only [viewPV, hH']
                rw [h1]
                simp only [viewT, hH']
                exact h
              · cases hvt
            · cases hvt
          · cases h
        · cases h
      | some q =>
        obtain ⟨g, u, l⟩ := q
        rw [hv] at h
        have hl : ∀ i ∈ l, i ∈ fz ++ bo := by
          simp only at h
          split at h
          · cases h; exact fun i hi => by simpa using hi
          · cases h; exact fun i hi => by simpa using hi
          · cases h; exact fun i hi => by simpa using hi
        rw [viewPV_foot hv fun i hi => hag i (hl i hi)]
        exact h
    | func g x y =>
      simp only at h ⊢
      split at h
      · split at h
        · exact Mt.and_foot h hag (fun ps fz bo => zipMt_foot ih _ _ ps fz bo) (fun ps fz bo => zipMt_foot ih _ _ ps fz bo)
        · cases h
      · cases h
    | agg x =>
      simp only at h ⊢
      split at h
      · exact zipMt_foot ih _ _ _ _ _ h hag
      · cases h
    | tuple x =>
      simp only at h ⊢
      split at h
      · exact zipMt_foot ih _ _ _ _ _ h hag
      · cases h
    | _ => exact h
theorem tgt_sgIds {i h : Nat} {t : Tgt} (ht : tgt σ i = some t) (hh : t.id = some h) : h ∈ sgIds σ := sgIds_mem (tgt_mem ht) hh
theorem mtOb_foot {o : Ob} {t : Tgt} {ps : List Prop} {fz bo : List Nat} (h : mtOb σ H k0 o t = some (ps, fz, bo)) (ht : ∀ i, t.id = some i → H i = H' i) (hag : ∀ i ∈ fz ++ bo, H i = H' i) : mtOb σ H' k0 o t = some (ps, fz, bo) := by
  unfold mtOb at h ⊢
  split at h
  · rename_i cs q
    rw [← ht q rfl]
    split at h
    · exact zipMt_foot (mtV_foot 5) _ _ _ _ _ h hag
    · cases h
  · rename_i q
    rw [← ht q rfl]
    exact h
  · rename_i q n
    rw [← ht q rfl]
    exact h
  · exact h
  · rename_i q
    rw [← ht q rfl]
    exact h
  · exact h
  · rename_i q
    rw [← ht q rfl]
    exact h
  · cases h
theorem mtH_foot (hσ : ∀ i ∈ sgIds σ, H i = H' i) : ∀ {FL : List (Nat × Ob)} {ps : List Prop} {fz bo : List Nat}, mtH σ H k0 FL = some (ps, fz, bo) → (∀ i ∈ fz ++ bo, H i = H' i) → mtH σ H' k0 FL = some (ps, fz, bo)
  | [], _, _, _, h, _ => h
  | (j, o) :: r, ps, fz, bo, h, hag => by
    unfold mtH at h ⊢
    cases ht : tgt σ j with
    | none => rw [ht] at h; cases h
    | some t =>
      rw [ht] at h
      exact Mt.and_foot h hag (fun ps fz bo h1 h2 => mtOb_foot h1 (fun i hi => hσ i (tgt_sgIds ht hi)) h2) (fun ps fz bo h1 h2 => mtH_foot hσ h1 h2)
theorem chase_sub {fH : List (Nat × Ob)} : ∀ (n : Nat) (done new : Sg) (x : Nat × Tgt), x ∈ done → x ∈ chase n fH H done new
  | 0, done, new, x, h => h
  | n + 1, done, new, x, h => by
    unfold chase
    rw [fSg_eq]
    exact chase_sub n _ _ x (List.mem_append.2 (.inl h))
theorem fm_congr {α β : Type} {f g : α → List β} : ∀ (l : List α), (∀ x ∈ l, f x = g x) → l.flatMap f = l.flatMap g
  | [], _ => rfl
  | x :: r, h => by rw [List.flatMap_cons, List.flatMap_cons, h x (by simp), fm_congr r fun y hy => h y (by simp [hy])]
theorem chase_foot {fH : List (Nat × Ob)} : ∀ (n : Nat) (done new : Sg), (∀ i ∈ sgIds (chase n fH H done new), H i = H' i) → chase n fH H' done new = chase n fH H done new
  | 0, done, new, h => rfl
  | n + 1, done, new, h => by
    unfold chase at h ⊢
    rw [fSg_eq] at h ⊢
    rw [fSg_eq]
    have hnew : ∀ x ∈ new, ∀ q, x.2 = .full q → H q = H' q := by
      rintro ⟨i, t⟩ hx q rfl
      exact h q (sgIds_mem (chase_sub n _ _ _ (List.mem_append.2 (.inr hx))) rfl)
    refine (congrArg (chase n fH H' (done ++ new)) (fm_congr new fun x hx => ?_)).trans (chase_foot n _ _ h)
    obtain ⟨i, t⟩ := x
    cases t with
    | full q => simp only [hnew (i, .full q) hx q rfl]
    | trunc q m => rfl
    | nil => rfl
theorem sgUniq_sub : ∀ {l : Sg} {seen : List Nat} {x : Nat × Tgt}, x ∈ sgUniq l seen → x ∈ l
  | [], _, _, h => by cases h
  | (i, t) :: r, seen, x, h => by
    unfold sgUniq at h
    split at h
    · exact List.mem_cons_of_mem _ (sgUniq_sub h)
    · rcases List.mem_cons.1 h with h | h
      · rw [h]; exact List.mem_cons_self
      · exact List.mem_cons_of_mem _ (sgUniq_sub h)
theorem sgIds_iff {l : Sg} {h : Nat} : h ∈ sgIds l ↔ ∃ x ∈ l, x.2.id = some h := by
  constructor
  · intro hm
    unfold sgIds at hm
    obtain ⟨x, h1, h2⟩ := List.mem_flatMap.1 hm
    refine ⟨x, h1, ?_⟩
    obtain ⟨i, t⟩ := x
    cases t with
    | full q => obtain rfl := List.mem_singleton.1 h2; rfl
    | trunc q m => obtain rfl := List.mem_singleton.1 h2; rfl
    | nil => cases h2
  · rintro ⟨⟨i, t⟩, h1, h2⟩
    exact sgIds_mem h1 h2
theorem rowsOk_foot : ∀ {l : List Nat}, (∀ i ∈ l, H i = H' i) → rowsOk H' l = rowsOk H l
  | [], _ => rfl
  | i :: r, h => by
    unfold rowsOk
    rw [← h i (by simp), rowsOk_foot (l := r) fun j hj => h j (by simp [hj])]
theorem lentOk_foot : ∀ {l : List Nat}, (∀ i ∈ l, H i = H' i) → lentOk H' l = lentOk H l
  | [], _ => rfl
  | i :: r, h => by
    unfold lentOk
    rw [← h i (by simp), lentOk_foot (l := r) fun j hj => h j (by simp [hj])]
theorem callAll_eq (c : Ctr) (H : Hp) (k0 nx : Nat) (args : List AV) (x : c.Ix) : callAll c H k0 nx args x = match callMt c x H k0 args (sgUniq (callRaw c x H args) []) with
    | some (ps, fz, bo) => callGo c x H k0 nx (callRaw c x H args) (sgUniq (callRaw c x H args) []) ps fz bo
    | none => none := by
  unfold callAll
  simp only [fSg_eq, fPs_eq, fNs_eq]
  rfl
theorem samePtrs_eq : ∀ {a b : List AV}, samePtrs a b = true → a = b
  | [], [], _ => rfl
  | [], _ :: _, h => by simp [samePtrs] at h
  | x :: r, [], h => by cases x <;> simp [samePtrs] at h
  | x :: r, y :: t, h => by
    cases x <;> cases y <;> simp only [samePtrs, Bool.false_eq_true, Bool.and_eq_true] at h
    obtain ⟨⟨h1, h2⟩, h3⟩ := h
    rw [Nat.eq_of_beq_eq_true h1, Nat.eq_of_beq_eq_true h2, samePtrs_eq h3]
theorem dropSame_cons (H : Hp) (l0 : List Nat) (nx i : Nat) (o : Ob) (r : List (Nat × Ob)) :
    dropSame H l0 nx ((i, o) :: r) = (i, o) :: dropSame H l0 nx r ∨ (dropSame H l0 nx ((i, o) :: r) = dropSame H l0 nx r ∧ i ∈ l0 ∧ i < nx ∧ i ∉ ids r ∧ H i = some o) := by
  cases h1 : memN l0 i && Nat.blt i nx && !memN (ids r) i with
  | false => exact .inl (by simp only [dropSame, h1])
  | true =>
    cases h2 : keepB H i o with
    | true => exact .inl (by simp only [dropSame, h1, h2])
    | false =>
      simp only [Bool.and_eq_true, Bool.not_eq_true'] at h1
      refine .inr ⟨by simp only [dropSame, h1.1.1, h1.1.2, h1.2, h2, Bool.not_false, Bool.and_self], memN_iff.1 h1.1.1, Nat.le_of_ble_eq_true h1.1.2, fun hm => ?_, ?_⟩
      · rw [memN_iff.2 hm] at h1
        exact absurd h1.2 (by simp)
      · unfold keepB at h2
        split at h2
        · split at h2
          · rename_i ds hd
            have h3 := samePtrs_eq (by simpa using h2)
            rw [hd, h3]
          · cases h2
        · cases h2
theorem look_none_ids {α : Type _} {l : List (Nat × α)} {i : Nat} (h : i ∉ ids l) : look l i = none := by
  cases hl : look l i with
  | none => rfl
  | some v => exact absurd (mem_ids.2 ⟨v, look_mem hl⟩) h
theorem dropSame_look (H : Hp) (l0 : List Nat) (nx : Nat) : ∀ (l : List (Nat × Ob)) (i : Nat), look (dropSame H l0 nx l) i = look l i ∨ (look (dropSame H l0 nx l) i = none ∧ i < nx ∧ ∃ o, look l i = some o ∧ H i = some o)
  | [], i => .inl rfl
  | (j, o) :: r, i => by
    have ih := dropSame_look H l0 nx r i
    rcases dropSame_cons H l0 nx j o r with h | ⟨h, h1, h2, h3, h4⟩
    · rw [h]
      by_cases hij : j = i
      · subst hij
        exact .inl (by rw [look_cons_same, look_cons_same])
      · rw [look_cons_ne _ _ hij, look_cons_ne _ _ hij]
        exact ih
    · rw [h]
      by_cases hij : j = i
      · subst hij
        rw [look_none_ids h3] at ih
        refine .inr ⟨?_, h2, o, by rw [look_cons_same], h4⟩
        rcases ih with ih | ⟨ih, _⟩ <;> exact ih
      · rw [look_cons_ne _ _ hij]
        exact ih
theorem upd_dropSame (H : Hp) (l0 : List Nat) (nx : Nat) (l : List (Nat × Ob)) : upd H (dropSame H l0 nx l) = upd H l := by
  funext i
  unfold upd
  rcases dropSame_look H l0 nx l i with h | ⟨h, _, o, h1, h2⟩
  · rw [h]
  · rw [h, h1, h2]
theorem dropSame_foot {l0 : List Nat} (hag : ∀ i ∈ l0, H i = H' i) (nx : Nat) : ∀ (l : List (Nat × Ob)), dropSame H' l0 nx l = dropSame H l0 nx l
  | [] => rfl
  | (i, o) :: r => by
    have ih := dropSame_foot hag nx r
    have hk : memN l0 i = true → keepB H' i o = keepB H i o := fun hm => by unfold keepB; rw [hag i (memN_iff.1 hm)]
    simp only [dropSame, ih]
    cases h1 : memN l0 i with
    | false => rfl
    | true => rw [hk h1]
theorem callAll_foot {c : Ctr} {nx : Nat} {args : List AV} {x : c.Ix} {ps : List Prop} {v : AV} {rd : List Nat} {ups : List (Nat × Ob)} (h : callAll c H k0 nx args x = some (ps, v, rd, ups)) (hag : ∀ i ∈ rd, H i = H' i) : callAll c H' k0 nx args x = some (ps, v, rd, ups) := by
  rw [callAll_eq] at h ⊢
  split at h
  · rename_i qs fz bo heq
    have hrd : rd = sgIds (callRaw c x H args) ++ (fz ++ bo) := by
      unfold callGo at h
      split at h <;> cases h
      rfl
    rw [hrd] at hag
    have h1 : callRaw c x H' args = callRaw c x H args := chase_foot _ _ _ fun i hi => hag i (List.mem_append.2 (.inl hi))
    have h2 : ∀ i ∈ sgIds (sgUniq (callRaw c x H args) []), H i = H' i := by
      intro i hi
      obtain ⟨y, h3, h4⟩ := sgIds_iff.1 hi
      exact hag i (List.mem_append.2 (.inl (sgIds_iff.2 ⟨y, sgUniq_sub h3, h4⟩)))
    rw [h1]
    have h3 : callMt c x H' k0 args (sgUniq (callRaw c x H args) []) = some (qs, fz, bo) :=
      Mt.and_foot heq (fun i hi => hag i (List.mem_append.2 (.inr hi))) (fun ps fz bo h1 h2 => zipMt_foot (mtV_foot 5) _ _ _ _ _ h1 h2) (fun ps fz bo h1 h4 => mtH_foot h2 h1 h4)
    rw [h3]
    simp only
    unfold callGo at h ⊢
    rw [rowsOk_foot (l := fz) fun i hi => hag i (by simp [hi]), lentOk_foot (l := bo) fun i hi => hag i (by simp [hi]), freeze_foot fun i hi => hag i (by simp [hi]), dropSame_foot h2]
    exact h
  · cases h

def Step.nc (s : Step) : Prop := ∀ Ix r, s ≠ .call Ix r
theorem loadCells_nc {fr : Bool} {t : TypeId} {c : List PV} {r : List Nat} : (loadCells T fr t c r).nc := by
  intro Ix f h; unfold loadCells at h; (repeat' (split at h)) <;> cases h
theorem loadEl_nc {fr : Bool} {t : TypeId} {sz off : Nat} {x : PV} {r : List Nat} : (loadEl T fr t sz off x r).nc := by
  intro Ix f h; unfold loadEl at h; (repeat' (split at h)) <;> first | cases h; done | exact loadCells_nc _ _ h
theorem evalConv_nc {d s : TypeId} {x : AV} : (evalConv T H k0 d s x).nc := by
  intro Ix f h; unfold evalConv ok1 at h; (repeat' (split at h)) <;> cases h
theorem evalLoad_nc {nx : Nat} {t : TypeId} {x : AV} : (evalLoad T H nx t x).nc := by
  intro Ix f h; unfold evalLoad at h; (repeat' (split at h)) <;> first | cases h; done | (rw [withDfl_eq] at h; exact loadEl_nc _ _ h) | exact loadCells_nc _ _ h
theorem evalStore_nc {t : TypeId} {x y : AV} : (evalStore T H k0 t x y).nc := by
  intro Ix f h; unfold evalStore at h; (repeat' (split at h)) <;> cases h
theorem evalFieldAddr_nc {s : TypeId} {f : Nat} {x : AV} : (evalFieldAddr T H s f x).nc := by
  intro Ix f h; unfold evalFieldAddr ok1 at h; (repeat' (split at h)) <;> cases h
theorem evalIndexAddr_nc {t : TypeId} {x y : AV} : (evalIndexAddr T H t x y).nc := by
  intro Ix f h; unfold evalIndexAddr at h; (repeat' (split at h)) <;> first | cases h; done | (rw [withDfl_eq] at h; cases h)
theorem evalSlice_nc {t : TypeId} {x : AV} {lo hi : Option AV} : (evalSlice T H t x lo hi).nc := by
  intro Ix f h; unfold evalSlice at h; (repeat' (split at h)) <;> cases h
theorem evalBuildTree_nc {nx len : Nat} {e ie : TypeId} {parts : List (Nat × AV)} : (evalBuildTree T H k0 nx e ie len parts).nc := by
  intro Ix f h; unfold evalBuildTree at h; (repeat' (split at h)) <;> cases h
theorem evalAppendT_nc {nx : Nat} {e ie : TypeId} {x y : AV} : (evalAppendT T H k0 nx e ie x y).nc := by
  intro Ix f h; unfold evalAppendT at h; (repeat' (split at h)) <;> cases h
theorem evalBuildSlice_nc {nx : Nat} {t : TypeId} {len : Nat} {parts : List (Nat × AV)} : (evalBuildSlice T H k0 nx t len parts).nc := by
  intro Ix f h; unfold evalBuildSlice at h; (repeat' (split at h)) <;> first | cases h; done | exact evalBuildTree_nc _ _ h
theorem evalAppend_nc {nx : Nat} {t t2 : TypeId} {x y : AV} : (evalAppend T H k0 nx t t2 x y).nc := by
  intro Ix f h; unfold evalAppend at h; (repeat' (split at h)) <;> first | cases h; done | exact evalAppendT_nc _ _ h
theorem evalCopy_nc {t t2 : TypeId} {x y : AV} : (evalCopy T H k0 t t2 x y).nc := by
  intro Ix f h; unfold evalCopy at h; (repeat' (split at h)) <;> cases h
theorem evalBuiltin_nc {nx : Nat} {b : Builtin} {ts : List TypeId} {args : List AV} : (evalBuiltin T H k0 nx b ts args).nc := by
  intro Ix f h; unfold evalBuiltin ok1 at h; (repeat' (split at h)) <;> first | cases h; done | exact evalAppend_nc _ _ h | exact evalCopy_nc _ _ h

/-- The same comes of it, or a call does. -/
def Foot2 (H H' : Hp) (s s' : Step) : Prop := (∀ cs v rd ups, s = .ok cs v rd ups → (∀ i ∈ rd, H i = H' i) → s' = .ok cs v rd ups) ∧
  ∀ Ix r, s = .call Ix r → ∃ r', s' = .call Ix r' ∧ ∀ ix ps v rd ups, r ix = some (ps, v, rd, ups) → (∀ i ∈ rd, H i = H' i) → r' ix = some (ps, v, rd, ups)
theorem Foot2.of {s s' : Step} (h : Foot H H' s s') (hn : s.nc) : Foot2 H H' s s' := ⟨h, fun Ix r hs => absurd hs (hn Ix r)⟩
theorem Foot2.refl (s : Step) : Foot2 H H' s s := ⟨fun _ _ _ _ h _ => h, fun Ix r hs => ⟨r, hs, fun _ _ _ _ _ h _ => h⟩⟩
theorem evalCall_foot {Γ : List (FuncId × Ctr)} {nx : Nat} {f : FuncId} {args : List AV} : Foot2 H H' (evalCall Γ H k0 nx f args) (evalCall Γ H' k0 nx f args) := by
  unfold evalCall
  split
  · refine ⟨fun cs v rd ups h => (by cases h), fun Ix r h => ?_⟩
    cases h
    exact ⟨_, rfl, fun ix ps v rd ups h hag => callAll_foot h hag⟩
  · exact Foot2.refl _
theorem evalOp_foot {Γ : List (FuncId × Ctr)} {o : Oper} {e : Env} {nx : Nat} (hd : ∀ c rd, evalOp Γ T k0 o e H nx ≠ .dem c rd) : Foot2 H H' (evalOp Γ T k0 o e H nx) (evalOp Γ T k0 o e H' nx) := by
  have hbin : ∀ {op : BinOp} {t : TypeId} {a : AV}, (∀ c rd, evalNil T H op t a ≠ .dem c rd) → Foot2 H H' (evalNil T H op t a) (evalNil T H' op t a) := by
    intro op t a hn
    cases hq : evalNil T H op t a with
    | bad => exact ⟨fun cs v rd ups h => by (cases h), fun Ix r h => by (cases h)⟩
    | dem c rd => exact absurd hq (hn c rd)
    | ok cs v rd ups => unfold evalNil at hq; (repeat' (split at hq)) <;> cases hq
    | call Ix r => unfold evalNil at hq; (repeat' (split at hq)) <;> cases hq
  obtain ⟨dst, op, type, pos, after, guard⟩ := o
  unfold evalOp at hd ⊢
  cases op <;> simp only at hd ⊢ <;> try exact Foot2.refl _
  case makeFunc f a b => cases f <;> exact Foot2.refl _
  case buildSlice t n ps => split <;> first | exact Foot2.of evalBuildSlice_foot evalBuildSlice_nc | exact Foot2.refl _
  case load t a => split <;> first | exact Foot2.of evalLoad_foot evalLoad_nc | exact Foot2.refl _
  case store t a x => split <;> first | exact Foot2.of evalStore_foot evalStore_nc | exact Foot2.refl _
  case binOp op t x y p =>
    split
    · rename_i hc
      rw [hc] at hd
      split
      · rename_i h1
        simp only [h1] at hd
        exact hbin hd
      · exact Foot2.refl _
    · exact Foot2.refl _
  case convert s d x => split <;> first | exact Foot2.of evalConv_foot evalConv_nc | exact Foot2.refl _
  case slice t x lo hi mx =>
    cases mx <;> simp only <;> try exact Foot2.refl _
    split
    · cases lo <;> cases hi <;> simp only
      · exact Foot2.of evalSlice_foot evalSlice_nc
      · split <;> first | exact Foot2.of evalSlice_foot evalSlice_nc | exact Foot2.refl _
      · split <;> first | exact Foot2.of evalSlice_foot evalSlice_nc | exact Foot2.refl _
      · split <;> first | exact Foot2.of evalSlice_foot evalSlice_nc | exact Foot2.refl _
    · exact Foot2.refl _
  case fieldAddr s x f => split <;> first | exact Foot2.of evalFieldAddr_foot evalFieldAddr_nc | exact Foot2.refl _
  case indexAddr t x ix => split <;> first | exact Foot2.of evalIndexAddr_foot evalIndexAddr_nc | exact Foot2.refl _
  case call c =>
    split
    · split <;> first | exact Foot2.of evalBuiltin_foot evalBuiltin_nc | exact Foot2.refl _
    · split <;> first | exact evalCall_foot | exact Foot2.refl _
    · exact Foot2.refl _

theorem OutOk.foot {Γ : List (FuncId × Ctr)} {o : Oper} {e e' : Env} {nx : Nat} {out : Out} (h : OutOk Γ T k0 o e H nx out) (hd : ∀ c rd, evalOp Γ T k0 o e H nx ≠ .dem c rd) (he : ∀ x ∈ o.op.operands, evalR e x = evalR e' x) (hag : ∀ i ∈ out.rd, H i = H' i) :
    OutOk Γ T k0 o e' H' nx out ∧ ∀ c rd, evalOp Γ T k0 o e' H' nx ≠ .dem c rd := by
  have hf := evalOp_foot (H' := H') hd
  unfold OutOk at h ⊢
  rw [← evalOp_env he]
  cases hs : evalOp Γ T k0 o e H nx with
  | bad => rw [hs] at h; exact h.elim
  | ok cs v rd ups =>
    rw [hs] at h hf
    obtain ⟨h1, rfl⟩ := h
    rw [hf.1 _ _ _ _ rfl hag]
    exact ⟨⟨h1, rfl⟩, fun c rd h => by cases h⟩
  | dem c rd => exact absurd hs (hd c rd)
  | call Ix r =>
    rw [hs] at h hf
    obtain ⟨ix, ps, h1, h2⟩ := h
    obtain ⟨r', h3, h4⟩ := hf.2 _ _ rfl
    rw [h3]
    exact ⟨⟨ix, ps, h4 _ _ _ _ _ h1 hag, h2⟩, fun c rd h => by cases h⟩
end
end Go.Proofs.Ytonbbaimkpjcfaa.Ev
