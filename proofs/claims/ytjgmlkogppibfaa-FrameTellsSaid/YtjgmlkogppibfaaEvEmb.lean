/- One state stands within another. No conditions. -/
import Derived.Test.YtjgmlkogppibfaaEvRun2
namespace Go.Proofs.Ytjgmlkogppibfaa.Ev
open Go
set_option linter.unusedVariables false
set_option linter.unusedSimpArgs false

theorem Mt.and_some {a b : Mt} {ps : List Prop} {fz bo : List Nat} (h : Mt.and a b = some (ps, fz, bo)) : ∃ p1 f1 b1 p2 f2 b2, a = some (p1, f1, b1) ∧ b = some (p2, f2, b2) ∧ ps = p1 ++ p2 ∧ fz = f1 ++ f2 ∧ bo = b1 ++ b2 := by
  cases a with
  | none => cases h
  | some x =>
    obtain ⟨p1, f1, b1⟩ := x
    cases b with
    | none => cases h
    | some y =>
      obtain ⟨p2, f2, b2⟩ := y
      simp only [Mt.and, Option.some.injEq, Prod.mk.injEq] at h
      obtain ⟨rfl, rfl, rfl⟩ := h
      exact ⟨p1, f1, b1, p2, f2, b2, rfl, rfl, rfl, rfl, rfl⟩

/-- Where the formal things lie. -/
def rhoOf (σ : Sg) (ρ : Nat → Option (Nat × Nat)) (i : Nat) : Option (Nat × Nat) := match tgt σ i with
  | some (.full h) => ρ h
  | some (.trunc h _) => ρ h
  | some .nil => none
  | none => none

/-- What a formal thing is, beside the thing that it stands for. -/
def ObM (H : Hp) (o : Ob) : Tgt → Prop
  | .full h => match o with
    | .box cs => ∃ ds, H h = some (.box ds)
    | .row e sz fr fz els => fz = false ∧ ∃ fr', H h = some (.row e sz fr' false els) ∧ (fr = true → fr' = true ∨ ∀ v ∈ els, v.isFlat)
    | .gone => ∃ o', H h = some o'
  | .trunc h n => match o with
    | .row e sz fr fz els => fz = false ∧ ∃ fr' els', H h = some (.row e sz fr' false els') ∧ (fr = true → fr' = true ∨ ∀ v ∈ els', v.isFlat) ∧ els = els'.take n ∧ n ≤ els'.length
    | _ => False
  | .nil => match o with
    | .row e sz fr fz els => fz = false ∧ 0 < sz ∧ els = []
    | _ => False
section
variable {k0 : Nat} {w : World} {F1 F2 G1 G2 : Nat → Prop} {ρ : Nat → Option (Nat × Nat)} {H FH : Hp} {σ : Sg}

theorem pvle_ok {v u : PV} {F : Nat → Prop} {c : Value} (h : pvle v u) (hu : PVR w F u c) : PVR w F v c := by
  unfold pvle at h
  split at h
  · split at h
    · subst h
      cases hu with | nilsl A => exact .slnil _ _ _
    · subst h
      exact hu
  · rw [h]
    exact hu
theorem mtV_ok (hh : HeapR k0 w F1 F2 ρ H) (hf : ∀ i t, tgt σ i = some t → ∃ o, FH i = some o ∧ ObM H o t) (h1 : ∀ b, F1 b → G1 b) (h2 : ∀ b, F2 b → G2 b) (bor : Bool) :
    ∀ (n : Nat) (f a : AV) (c : Value) (ps : List Prop) (fz bo : List Nat), mtV σ H k0 bor n f a = some (ps, fz, bo) → allP ps → AVR w F1 F2 ρ H a c →
      (∀ h ∈ fz ++ bo, ∀ b cp, ρ h = some (b, cp) → G1 b) → (∀ h ∈ fz, k0 ≤ h → ∀ b cp, ρ h = some (b, cp) → G2 b) → AVR w G1 G2 (rhoOf σ ρ) FH f c := by
  intro n
  induction n with
  | zero => intro f a c ps fz bo h; cases h
  | succ n ih =>
    intro f a c ps fz bo h hp ha hg1 hg2
    have hlist : ∀ (xs ys : List AV) (cv : Array Value) (ps : List Prop) (fz bo : List Nat), zipMt (mtV σ H k0 bor n) xs ys = some (ps, fz, bo) → allP ps → cv.size = ys.length → (∀ (i : Nat) (v : AV), ys[i]? = some v → AVR w F1 F2 ρ H v (cv.getD i undef)) →
        (∀ h ∈ fz ++ bo, ∀ b cp, ρ h = some (b, cp) → G1 b) → (∀ h ∈ fz, k0 ≤ h → ∀ b cp, ρ h = some (b, cp) → G2 b) → cv.size = xs.length ∧ ∀ (i : Nat) (v : AV), xs[i]? = some v → AVR w G1 G2 (rhoOf σ ρ) FH v (cv.getD i undef) := by
      intro xs ys cv ps fz bo hz hp hsz hv hg1 hg2
      have key : ∀ (xs ys : List AV) (cs : Nat → Value) (ps : List Prop) (fz bo : List Nat), zipMt (mtV σ H k0 bor n) xs ys = some (ps, fz, bo) → allP ps → (∀ (i : Nat) (v : AV), ys[i]? = some v → AVR w F1 F2 ρ H v (cs i)) →
          (∀ h ∈ fz ++ bo, ∀ b cp, ρ h = some (b, cp) → G1 b) → (∀ h ∈ fz, k0 ≤ h → ∀ b cp, ρ h = some (b, cp) → G2 b) → xs.length = ys.length ∧ ∀ (i : Nat) (v : AV), xs[i]? = some v → AVR w G1 G2 (rhoOf σ ρ) FH v (cs i) := by
        intro xs
        induction xs with
        | nil =>
          intro ys cs ps fz bo hz hp hv _ _
          cases ys with
          | nil => exact ⟨rfl, fun i v hv => by simp at hv⟩
          | cons y r => cases hz
        | cons x r ihl =>
          intro ys cs ps fz bo hz hp hv hg1 hg2
          cases ys with
          | nil => cases hz
          | cons y s =>
            obtain ⟨p1, f1, b1, p2, f2, b2, e1, e2, rfl, rfl, rfl⟩ := Mt.and_some hz
            obtain ⟨hp1, hp2⟩ := allP_append hp
            have q1 := ih x y (cs 0) p1 f1 b1 e1 hp1 (hv 0 y (by simp)) (fun h hm => hg1 h (by rcases List.mem_append.1 hm with h | h <;> simp [h])) (fun h hm => hg2 h (by simp [hm]))
            obtain ⟨q2, q3⟩ := ihl s (fun i => cs (i + 1)) p2 f2 b2 e2 hp2 (fun i v h => hv (i + 1) v (by simpa using h)) (fun h hm => hg1 h (by rcases List.mem_append.1 hm with h | h <;> simp [h])) (fun h hm => hg2 h (by simp [hm]))
            refine ⟨by simp [q2], fun i v hv => ?_⟩
            cases i with
            | zero =>
              obtain rfl : x = v := by simpa using hv
              exact q1
            | succ i => exact q3 i v (by simpa using hv)
      obtain ⟨q1, q2⟩ := key xs ys (fun i => cv.getD i undef) ps fz bo hz hp hv hg1 hg2
      exact ⟨by omega, q2⟩
    unfold mtV at h
    cases f with
    | p fr v =>
      simp only at h
      cases hvw : viewPV H k0 a with
      | none => rw [hvw] at h; cases h
      | some y =>
        obtain ⟨g, u, l⟩ := y
        rw [hvw] at h
        simp only at h
        split at h
        · simp only [Option.some.injEq, Prod.mk.injEq] at h
          obtain ⟨rfl, rfl, rfl⟩ := h
          exact .p false v c (pvle_ok hp (viewPV_ok hh ha hvw G1 h1 (fun h hm => hg1 h (by simpa using hm))))
        · simp only [Option.some.injEq, Prod.mk.injEq] at h
          obtain ⟨rfl, rfl, rfl⟩ := h
          obtain ⟨hp1, hp2⟩ : pvle v u ∧ u.isFlat := hp
          have hu := viewPV_ok hh ha hvw G1 h1 (fun h hm => hg1 h (by simpa using hm))
          refine .p true v c (pvle_ok hp1 (PVR.flat hu (hp2 u ?_)))
          rw [hu.cells1]
          simp
        · rename_i hn1 hn2
          simp only [Option.some.injEq, Prod.mk.injEq] at h
          obtain ⟨rfl, rfl, rfl⟩ := h
          have hv2 := viewPV_ok2 hh ha hvw G1 G2 h1 h2 (fun h hm => hg1 h (by simpa using hm)) hg2
          refine .p fr v c (pvle_ok hp ?_)
          cases fr with
          | false =>
            cases g with
            | false => exact hv2
            | true => exact viewPV_ok hh ha hvw G1 h1 (fun h hm => hg1 h (by simpa using hm))
          | true =>
            cases g with
            | true => exact hv2
            | false => exact (hn2 rfl rfl).elim
    | ptr i o =>
      simp only at h
      cases a with
      | ptr q o' =>
        simp only at h
        split at h
        · rename_i h' ht ho
          split at h
          · rename_i hb
            obtain rfl := Nat.eq_of_beq_eq_true hb
            obtain rfl := Nat.eq_of_beq_eq_true ho
            obtain ⟨ob, hob, _⟩ := hf i _ ht
            cases ha with | ptr _ _ b cp o0 q1 q2 => exact .ptr i o b cp ob hob (by unfold rhoOf; rw [ht]; exact q2)
          · cases h
        · cases h
      | _ => cases h
    | rowf i =>
      simp only at h
      cases a with
      | rowf q =>
        simp only at h
        split at h
        · rename_i h' ht
          split at h
          · rename_i hb
            obtain rfl := Nat.eq_of_beq_eq_true hb
            obtain ⟨ob, hob, hm⟩ := hf i _ ht
            cases ha with | rowf _ _ o0 q1 q2 q3 =>
            refine .rowf i c ob hob q2 fun e sz fr fz els he => ?_
            subst he
            obtain ⟨_, fr', hH, _⟩ := hm
            rw [hH] at q1
            obtain rfl := Option.some.inj q1
            unfold rhoOf
            rw [ht]
            exact q3 _ _ _ _ _ rfl
          · cases h
        · cases h
      | row q o n' =>
        simp only at h
        split at h
        · rename_i h' n2 ht
          split at h
          · rename_i hb
            obtain rfl := Nat.eq_of_beq_eq_true hb
            simp only [Option.some.injEq, Prod.mk.injEq] at h
            obtain ⟨rfl, rfl, rfl⟩ := h
            obtain rfl : n' = n2 := hp
            obtain ⟨ob, hob, hm⟩ := hf i _ ht
            cases ha with | row _ _ _ _ o0 q1 q2 q3 =>
            refine .rowf i c ob hob q2 fun e sz fr fz els he => ?_
            subst he
            obtain ⟨_, fr', els', hH, _, hel, hle⟩ := hm
            rw [hH] at q1
            obtain rfl := Option.some.inj q1
            unfold rhoOf
            rw [ht, hel, List.length_take, Nat.min_eq_left hle]
            exact (q3 _ _ _ _ _ rfl).1
          · cases h
        · cases h
      | p fr u =>
        cases u with
        | nilsl =>
          simp only at h
          split at h
          · rename_i ht
            obtain ⟨ob, hob, hm⟩ := hf i _ ht
            cases ha with | p _ _ _ ha => cases ha with | nilsl A =>
            refine .rowf i _ ob hob ⟨_, _, _, rfl⟩ fun e sz fr fz els he => ?_
            subst he
            obtain ⟨_, _, rfl⟩ := hm
            unfold rhoOf
            rw [ht]
            exact ⟨rfl, rfl, A, rfl⟩
          · cases h
        | _ => cases h
      | _ => cases h
    | row i o n0 =>
      simp only at h
      cases a with
      | row q o' n' =>
        simp only at h
        split at h
        · rename_i h' ht
          split at h
          · rename_i hb
            obtain rfl := Nat.eq_of_beq_eq_true hb
            simp only [Option.some.injEq, Prod.mk.injEq] at h
            obtain ⟨rfl, rfl, rfl⟩ := h
            obtain ⟨rfl, rfl⟩ : o = o' ∧ n0 = n' := hp
            obtain ⟨ob, hob, hm⟩ := hf i _ ht
            cases ha with | row _ _ _ _ o0 q1 q2 q3 =>
            refine .row i o n0 c ob hob q2 fun e sz fr fz els he => ?_
            subst he
            obtain ⟨_, fr', hH, _⟩ := hm
            rw [hH] at q1
            obtain rfl := Option.some.inj q1
            unfold rhoOf
            rw [ht]
            exact q3 _ _ _ _ _ rfl
          · cases h
        · cases h
      | _ => cases h
    | func g x y =>
      simp only at h
      cases a with
      | func g' z u =>
        simp only at h
        split at h
        · rename_i hb
          obtain rfl := Nat.eq_of_beq_eq_true hb
          obtain ⟨p1, f1, b1, p2, f2, b2, e1, e2, rfl, rfl, rfl⟩ := Mt.and_some h
          obtain ⟨hp1, hp2⟩ := allP_append hp
          cases ha with | func _ _ _ fv cv q1 q2 q3 q4 =>
          obtain ⟨r1, r2⟩ := hlist x z fv p1 f1 b1 e1 hp1 q1 q2 (fun h hm => hg1 h (by rcases List.mem_append.1 hm with h | h <;> simp [h])) (fun h hm => hg2 h (by simp [hm]))
          obtain ⟨r3, r4⟩ := hlist y u cv p2 f2 b2 e2 hp2 q3 q4 (fun h hm => hg1 h (by rcases List.mem_append.1 hm with h | h <;> simp [h])) (fun h hm => hg2 h (by simp [hm]))
          exact .func g x y fv cv r1 r2 r3 r4
        · cases h
      | _ => cases h
    | agg x =>
      simp only at h
      cases a with
      | agg z =>
        cases ha with | agg _ vs q1 q2 =>
        obtain ⟨r1, r2⟩ := hlist x z vs ps fz bo h hp q1 q2 hg1 hg2
        exact .agg x vs r1 r2
      | _ => cases h
    | tuple x =>
      simp only at h
      cases a with
      | tuple z =>
        cases ha with | tuple _ vs q1 q2 =>
        obtain ⟨r1, r2⟩ := hlist x z vs ps fz bo h hp q1 q2 hg1 hg2
        exact .tuple x vs r1 r2
      | _ => cases h
    | eptr => cases h
    | rptr => cases h
theorem mtVs_ok (hh : HeapR k0 w F1 F2 ρ H) (hf : ∀ i t, tgt σ i = some t → ∃ o, FH i = some o ∧ ObM H o t) (h1 : ∀ b, F1 b → G1 b) (h2 : ∀ b, F2 b → G2 b) (bor : Bool) (n : Nat) :
    ∀ (xs ys : List AV) (cs : Nat → Value) (ps : List Prop) (fz bo : List Nat), zipMt (mtV σ H k0 bor n) xs ys = some (ps, fz, bo) → allP ps → (∀ (i : Nat) (v : AV), ys[i]? = some v → AVR w F1 F2 ρ H v (cs i)) →
      (∀ h ∈ fz ++ bo, ∀ b cp, ρ h = some (b, cp) → G1 b) → (∀ h ∈ fz, k0 ≤ h → ∀ b cp, ρ h = some (b, cp) → G2 b) → xs.length = ys.length ∧ ∀ (i : Nat) (v : AV), xs[i]? = some v → AVR w G1 G2 (rhoOf σ ρ) FH v (cs i) := by
  intro xs
  induction xs with
  | nil =>
    intro ys cs ps fz bo hz hp hv _ _
    cases ys with
    | nil => exact ⟨rfl, fun i v hv => by simp at hv⟩
    | cons y r => cases hz
  | cons x r ihl =>
    intro ys cs ps fz bo hz hp hv hg1 hg2
    cases ys with
    | nil => cases hz
    | cons y s =>
      obtain ⟨p1, f1, b1, p2, f2, b2, e1, e2, rfl, rfl, rfl⟩ := Mt.and_some hz
      obtain ⟨hp1, hp2⟩ := allP_append hp
      have q1 := mtV_ok hh hf h1 h2 bor n x y (cs 0) p1 f1 b1 e1 hp1 (hv 0 y (by simp)) (fun h hm => hg1 h (by rcases List.mem_append.1 hm with h | h <;> simp [h])) (fun h hm => hg2 h (by simp [hm]))
      obtain ⟨q2, q3⟩ := ihl s (fun i => cs (i + 1)) p2 f2 b2 e2 hp2 (fun i v h => hv (i + 1) v (by simpa using h)) (fun h hm => hg1 h (by rcases List.mem_append.1 hm with h | h <;> simp [h])) (fun h hm => hg2 h (by simp [hm]))
      refine ⟨by simp [q2], fun i v hv => ?_⟩
      cases i with
      | zero =>
        obtain rfl : x = v := by simpa using hv
        exact q1
      | succ i => exact q3 i v (by simpa using hv)

theorem mtOb_ok {o : Ob} {t : Tgt} {ps : List Prop} {fz bo : List Nat} (h : mtOb σ H k0 o t = some (ps, fz, bo)) (hp : allP ps) : ObM H o t ∧
    ∀ cs h', o = .box cs → t = .full h' → ∃ ds, H h' = some (.box ds) ∧ zipMt (mtV σ H k0 false 5) cs ds = some (ps, fz, bo) := by
  unfold mtOb at h
  split at h
  · rename_i cs h'
    split at h
    · rename_i ds hH
      exact ⟨⟨ds, hH⟩, fun cs' h'' he ht => by cases he; cases ht; exact ⟨ds, hH, h⟩⟩
    · cases h
  · rename_i e sz fr els h'
    split at h
    · rename_i e' sz' fr' els' hH
      split at h
      · rename_i hb
        simp only [Bool.and_eq_true] at hb
        obtain ⟨hb1, hb2⟩ := hb
        obtain rfl := Nat.eq_of_beq_eq_true hb1
        obtain rfl := Nat.eq_of_beq_eq_true hb2
        split at h
        · rename_i hb3
          simp only [Bool.or_eq_true, Bool.not_eq_true'] at hb3
          simp only [Option.some.injEq, Prod.mk.injEq] at h
          obtain ⟨rfl, rfl, rfl⟩ := h
          obtain rfl : els = els' := hp
          exact ⟨⟨rfl, fr', hH, fun h => .inl (hb3.elim (fun h3 => by rw [h] at h3; cases h3) (fun h3 => h3))⟩, fun cs' h'' he ht => by cases he⟩
        · simp only [Option.some.injEq, Prod.mk.injEq] at h
          obtain ⟨rfl, rfl, rfl⟩ := h
          obtain ⟨rfl, hfl⟩ : els = els' ∧ ∀ v ∈ els', v.isFlat := hp
          exact ⟨⟨rfl, fr', hH, fun h => .inr hfl⟩, fun cs' h'' he ht => by cases he⟩
      · cases h
    · cases h
  · rename_i e sz fr els h' n
    split at h
    · rename_i e' sz' fr' els' hH
      split at h
      · rename_i hb
        simp only [Bool.and_eq_true] at hb
        obtain ⟨hb1, hb2⟩ := hb
        obtain rfl := Nat.eq_of_beq_eq_true hb1
        obtain rfl := Nat.eq_of_beq_eq_true hb2
        split at h
        · rename_i hb3
          simp only [Bool.or_eq_true, Bool.not_eq_true'] at hb3
          simp only [Option.some.injEq, Prod.mk.injEq] at h
          obtain ⟨rfl, rfl, rfl⟩ := h
          obtain ⟨hp1, hp2⟩ : els = els'.take n ∧ n ≤ els'.length := hp
          exact ⟨⟨rfl, fr', els', hH, fun h => .inl (hb3.elim (fun h3 => by rw [h] at h3; cases h3) (fun h3 => h3)), hp1, hp2⟩, fun cs' h'' he ht => by cases he⟩
        · simp only [Option.some.injEq, Prod.mk.injEq] at h
          obtain ⟨rfl, rfl, rfl⟩ := h
          obtain ⟨hp1, hp2, hp3⟩ : els = els'.take n ∧ n ≤ els'.length ∧ ∀ v ∈ els', v.isFlat := hp
          exact ⟨⟨rfl, fr', els', hH, fun h => .inr hp3, hp1, hp2⟩, fun cs' h'' he ht => by cases he⟩
      · cases h
    · cases h
  · rename_i e sz fr els
    split at h
    · rename_i hb
      simp only [Option.some.injEq, Prod.mk.injEq] at h
      obtain ⟨rfl, rfl, rfl⟩ := h
      exact ⟨⟨rfl, Nat.le_of_ble_eq_true hb, hp⟩, fun cs' h'' he ht => by cases he⟩
    · cases h
  · rename_i h'
    split at h
    · rename_i o' hH
      exact ⟨⟨o', hH⟩, fun cs' h'' he ht => by cases he⟩
    · cases h
  · cases h
theorem mtH_ok : ∀ {FL : List (Nat × Ob)} {ps : List Prop} {fz bo : List Nat}, mtH σ H k0 FL = some (ps, fz, bo) → allP ps → ∀ i o, (i, o) ∈ FL → ∃ t ps' fz' bo', tgt σ i = some t ∧ mtOb σ H k0 o t = some (ps', fz', bo') ∧ allP ps' ∧ (∀ h ∈ fz', h ∈ fz) ∧ (∀ h ∈ bo', h ∈ bo)
  | [], ps, fz, bo, _, _, i, o, hm => by cases hm
  | (j, q) :: r, ps, fz, bo, h, hp, i, o, hm => by
    unfold mtH at h
    cases ht : tgt σ j with
    | none => rw [ht] at h; cases h
    | some t =>
      rw [ht] at h
      obtain ⟨p1, f1, b1, p2, f2, b2, e1, e2, rfl, rfl, rfl⟩ := Mt.and_some h
      obtain ⟨hp1, hp2⟩ := allP_append hp
      rcases List.mem_cons.1 hm with he | he
      · obtain ⟨rfl, rfl⟩ := Prod.mk.inj he
        exact ⟨t, p1, f1, b1, ht, e1, hp1, fun h hm => by simp [hm], fun h hm => by simp [hm]⟩
      · obtain ⟨t', ps', fz', bo', q1, q2, q3, q4, q5⟩ := mtH_ok e2 hp2 i o he
        exact ⟨t', ps', fz', bo', q1, q2, q3, fun h hm => by simp [q4 h hm], fun h hm => by simp [q5 h hm]⟩
end
end Go.Proofs.Ytjgmlkogppibfaa.Ev
