/- What each operation of the program comes to is what the reckoner says: places, cuts, lengths, conversions. No conditions. -/
import Derived.Test.YtjgmlkogppibfaaEvOps3
namespace Go.Proofs.Ytjgmlkogppibfaa.Ev
open Go
set_option linter.unusedVariables false
set_option linter.unusedSimpArgs false
section
variable {P : Program} {T : Tab} {k0 : Nat} {w : World} {F1 F2 : Nat → Prop} {ρ : Nat → Option (Nat × Nat)} {H : Hp}

theorem fieldsOk_get : ∀ {fs : List Field} {gs : List (Nat × Nat × Bool)}, fieldsOk P fs gs = true → ∀ {j o n : Nat} {g : Bool}, gs[j]? = some (o, n, g) →
    ∃ f, fs[j]? = some f ∧ f.offset = o ∧ (∀ w, (sizeOf f.type).run P w = .ok n w) ∧ (∀ w, (isAgg f.type).run P w = .ok g w) ∧ ∃ i, P.info? f.type = some i ∧ i.size = n
  | [], [], _, j, o, n, g, h => by simp at h
  | [], _ :: _, h0, _, _, _, _, _ => by simp [fieldsOk] at h0
  | _ :: _, [], h0, _, _, _, _, _ => by simp [fieldsOk] at h0
  | f :: r, (o', n', g') :: s, h0, j, o, n, g, h => by
    simp only [fieldsOk, Bool.and_eq_true] at h0
    cases j with
    | succ j => simpa using fieldsOk_get h0.2 (by simpa using h)
    | zero =>
      obtain ⟨rfl, h2⟩ := Prod.mk.inj (Option.some.inj (by simpa using h : some (o', n', g') = some (o, n, g)))
      obtain ⟨rfl, rfl⟩ := Prod.mk.inj h2
      cases hi : P.info? f.type with
      | none => simp [hi] at h0
      | some i =>
        rw [hi] at h0
        have hn : i.size = n' := Nat.eq_of_beq_eq_true h0.1.1.2
        refine ⟨f, by simp, Nat.eq_of_beq_eq_true h0.1.1.1, fun w => by simp [sizeOf, typeInfo, hi, hn], fun w => ?_, i, hi, hn⟩
        have h3 := h0.1.2
        cases hu : P.underlying f.type with
        | none => simp [hu] at h3
        | some u =>
          rw [hu] at h3
          unfold isAgg
          rw [Sem.run_bind, run_underlying hu w]
          cases u <;> simp_all
theorem evalFieldAddr_ok (hT : tabOk P T = true) (hh : HeapR k0 w F1 F2 ρ H) (s : TypeId) (f : Nat) {a : AV} {x : Value} (ha : AVR w F1 F2 ρ H a x) : StepOk P k0 w F1 F2 ρ H (Instr.fieldAt s x f) (evalFieldAddr T H s f a) := by
  unfold evalFieldAddr
  split
  · rename_i d ht
    have hty := tyOk hT ht
    split
    · rename_i fs hk
      obtain ⟨fields, hu, hf⟩ := hty.struct hk
      split
      · rename_i o n g hg
        obtain ⟨fd, h1, h2, h3, _, _⟩ := fieldsOk_get hf hg
        have h1' : fields[f]? = some fd := by rw [← Array.getElem?_toList]; exact h1
        split
        · trivial
        · rename_i hn0
          have hrun : ∀ ad : Addr, (Instr.fieldAt s (.pointer (some ad)) f).run P w = .ok (.pointer (some (ad.add o))) w := fun ad => by
            simp [Instr.fieldAt, run_underlying hu, h1', Instr.sureAddr, fieldPlace, h3, show ¬ n = 0 from hn0, h2]
          split
          · cases ha with | ptr _ _ b cp ob ho hr =>
            intro _
            exact VRuns.pure hh (hrun _) (by rw [Addr.add_mid]; exact .ptr _ _ b cp ob ho hr)
          · rename_i fr cs
            cases ha with | eptr _ _ ad hsp hF hc =>
            intro _
            refine VRuns.pure hh (hrun ad) (.eptr fr _ _ (add_spot hsp _) (by rw [add_block]; exact hF) fun i v hv => ?_)
            rw [List.getElem?_drop] at hv
            obtain ⟨c, hc1, hc2⟩ := hc _ v hv
            exact ⟨c, by rw [add_add hsp]; exact hc1, hc2⟩
          · rename_i h i off
            split
            · rename_i e sz fr fz els hH
              cases ha with | rptr _ _ _ _ ob ho _ hr =>
              rw [hH] at ho
              obtain rfl := Option.some.inj ho
              intro _
              obtain ⟨hi, g', cap, hρ, rfl⟩ := hr _ _ _ _ _ rfl
              refine VRuns.pure hh (hrun _) (.rptr _ _ _ _ _ hH ⟨_, rfl⟩ fun e' sz' fr' fz' els' he => ?_)
              obtain ⟨rfl, rfl, rfl, rfl, rfl⟩ := Ob.row.inj he
              exact ⟨hi, g', cap, hρ, by rw [Addr.add_mid, Nat.add_assoc]⟩
            · trivial
          · trivial
      · trivial
    · trivial
  · trivial

theorem get_take_drop {α : Type _} {l : List α} {o n i : Nat} {v : α} (h : ((l.drop o).take n)[i]? = some v) : i < n ∧ l[o + i]? = some v := by
  rw [List.getElem?_take] at h
  split at h
  · exact ⟨by assumption, by rwa [List.getElem?_drop] at h⟩
  · cases h
theorem evalField_ok (hT : tabOk P T = true) (hh : HeapR k0 w F1 F2 ρ H) (s : TypeId) (f : Nat) {a : AV} {x : Value} (ha : AVR w F1 F2 ρ H a x) : StepOk P k0 w F1 F2 ρ H (Instr.field s x f) (evalField T s f a) := by
  unfold evalField
  split
  · rename_i d cs ht
    have hty := tyOk hT ht
    cases ha with | agg _ vs hsz hv =>
    split
    · rename_i fs hk
      obtain ⟨fields, hu, hf⟩ := hty.struct hk
      split
      · rename_i o n g hg
        obtain ⟨fd, h1, h2, h3, h4, _⟩ := fieldsOk_get hf hg
        have h1' : fields[f]? = some fd := by rw [← Array.getElem?_toList]; exact h1
        subst h2
        split
        · intro hle
          have hle : fd.offset + n ≤ cs.length := hle
          refine VRuns.pure hh (c := .agg (vs.extract fd.offset (fd.offset + n))) ?_ (.agg _ _ (by simp; omega) fun i v hi => ?_)
          · simp [Instr.field, run_underlying hu, h1', part, h4, asAgg, h3]
          · obtain ⟨hi1, hi2⟩ := get_take_drop hi
            have : (vs.extract fd.offset (fd.offset + n)).getD i undef = vs.getD (fd.offset + i) undef := by
              simp only [Array.getD_eq_getD_getElem?, Array.getElem?_extract]
              rw [if_pos (by omega)]
            rw [this]
            exact hv _ v hi2
        · split
          · rename_i v r hd
            have hvo : cs[fd.offset]? = some v := by
              have := congrArg (fun l => l[0]?) hd
              simpa [List.getElem?_drop] using this
            have hlt : fd.offset < cs.length := by
              rcases Nat.lt_or_ge fd.offset cs.length with h | h
              · exact h
              · simp [List.getElem?_eq_none h] at hvo
            intro _
            obtain ⟨c0, hc0⟩ : ∃ c0, vs[fd.offset]? = some c0 := ⟨vs[fd.offset], by rw [Array.getElem?_eq_getElem]⟩
            have hg0 : vs.getD fd.offset undef = c0 := by simp [Array.getD_eq_getD_getElem?, hc0]
            refine VRuns.pure hh (c := c0) ?_ (by rw [← hg0]; exact hv _ v hvo)
            simp [Instr.field, run_underlying hu, h1', part, h4, asAgg, hc0]
          · trivial
      · trivial
    · trivial
  · trivial
theorem szOk_run (hT : tabOk P T = true) {e : TypeId} {sz : Nat} (h : szOk T e sz = true) (w : World) : (sizeOf e).run P w = .ok sz w := by
  unfold szOk at h
  split at h
  · rename_i de hde
    rw [← Nat.eq_of_beq_eq_true h]
    exact (tyOk hT hde).sizeOf w
  · cases h
theorem evalIndexAddr_ok (hT : tabOk P T = true) (hh : HeapR k0 w F1 F2 ρ H) (t : TypeId) {a b : AV} {x y : Value} (ha : AVR w F1 F2 ρ H a x) (hb : AVR w F1 F2 ρ H b y) : StepOk P k0 w F1 F2 ρ H (Instr.indexAt t x y) (evalIndexAddr T H t a b) := by
  unfold evalIndexAddr
  split
  · rename_i d f k i ht
    have hty := tyOk hT ht
    cases hb with | p _ _ _ hb => cases hb with | int =>
    have hrun : ∀ {e : TypeId} (hk : d.k = .slice e) (ad : Addr) (n cap sz : Nat) (hsz : (sizeOf e).run P w = .ok sz w), 0 ≤ i → i < n → (Instr.indexAt t (.slice (some ad) n cap) (.int k i)).run P w = .ok (.pointer (some (ad.add (i.toNat * sz)))) w := by
      intro e hk ad n cap sz hsz h0 h1
      simp [Instr.indexAt, asIntOf, run_underlying (hty.slice hk), h0, h1, hsz]
    split
    · rename_i e fr sz els hk
      split
      · rename_i hsz
        rw [withDfl_eq]
        intro hc
        obtain ⟨h0, h1⟩ : 0 ≤ i ∧ i < els.length := hc
        cases ha with | p _ _ _ ha =>
        cases ha with
        | slnil => simp at h1; omega
        | sl _ _ ad cap cs hsp hF hcap hce hcell hval =>
          have hi : i.toNat < els.length := by omega
          have hx : els[i.toNat]? = some (els.getD i.toNat (dfl T e)) := by simp [List.getD_eq_getElem?_getD, List.getElem?_eq_getElem hi]
          refine VRuns.pure hh (hrun hk ad _ cap sz (szOk_run hT hsz w) h0 h1) (.eptr fr _ _ (add_spot hsp _) (by rw [add_block]; exact hF) fun j v hv => ?_)
          have hj : j < sz := by
            rcases Nat.lt_or_ge j (els.getD i.toNat (dfl T e)).cells.length with h | h
            · rwa [hce _ (List.mem_of_getElem? hx)] at h
            · rw [List.getElem?_eq_none h] at hv
              cases hv
          have hfl := flat_get hce i.toNat j _ hx hj
          rw [hv] at hfl
          refine ⟨cs (i.toNat * sz + j), ?_, hval _ _ hfl⟩
          rw [add_add hsp]
          exact hcell _ (by
            rcases Nat.lt_or_ge (i.toNat * sz + j) (flat els).length with h | h
            · exact h
            · rw [List.getElem?_eq_none h] at hfl
              cases hfl)
      · trivial
    · rename_i e h hk
      split
      · rename_i e' sz fr fz els hH
        split
        · rename_i hsz
          intro hc
          obtain ⟨h0, h1⟩ : 0 ≤ i ∧ i < els.length := hc
          cases ha with | rowf _ _ o ho _ hr =>
          rw [hH] at ho
          obtain rfl := Option.some.inj ho
          have hs := hr _ _ _ _ _ rfl
          unfold SlV at hs
          cases hρ : ρ h with
          | none => rw [hρ] at hs; obtain ⟨_, h2, _⟩ := hs; omega
          | some gc =>
            obtain ⟨g, cap⟩ := gc
            rw [hρ] at hs
            obtain ⟨h2, A, rfl, hA⟩ := hs
            rw [hA (by omega)]
            refine VRuns.pure hh (hrun hk _ _ _ sz (szOk_run hT hsz w) h0 h1) (.rptr _ _ _ _ _ hH ⟨_, rfl⟩ fun e2 sz2 fr2 fz2 els2 he => ?_)
            obtain ⟨rfl, rfl, rfl, rfl, rfl⟩ := Ob.row.inj he
            exact ⟨by omega, g, cap, hρ, by rw [Addr.add_mid]; simp⟩
        · trivial
      · trivial
    · rename_i e h off n hk
      split
      · rename_i e' sz fr fz els hH
        split
        · rename_i hsz
          intro hc
          obtain ⟨h0, h1⟩ : 0 ≤ i ∧ i < n := hc
          cases ha with | row _ _ _ _ o ho _ hr =>
          rw [hH] at ho
          obtain rfl := Option.some.inj ho
          obtain ⟨hs, hle⟩ := hr _ _ _ _ _ rfl
          unfold SlV at hs
          cases hρ : ρ h with
          | none => rw [hρ] at hs; obtain ⟨_, h2, _⟩ := hs; omega
          | some gc =>
            obtain ⟨g, cap⟩ := gc
            rw [hρ] at hs
            obtain ⟨h2, A, rfl, hA⟩ := hs
            rw [hA (by omega)]
            refine VRuns.pure hh (hrun hk _ _ _ sz (szOk_run hT hsz w) h0 h1) (.rptr _ _ _ _ _ hH ⟨_, rfl⟩ fun e2 sz2 fr2 fz2 els2 he => ?_)
            obtain ⟨rfl, rfl, rfl, rfl, rfl⟩ := Ob.row.inj he
            exact ⟨by omega, g, cap, hρ, by rw [Addr.add_mid, Nat.add_mul]; simp⟩
        · trivial
      · trivial
    · trivial
  · trivial
theorem evalIndex_ok (hT : tabOk P T = true) (hh : HeapR k0 w F1 F2 ρ H) (t : TypeId) {a b : AV} {x y : Value} (ha : AVR w F1 F2 ρ H a x) (hb : AVR w F1 F2 ρ H b y) : StepOk P k0 w F1 F2 ρ H (Instr.index t x y) (evalIndex T t a b) := by
  unfold evalIndex
  split
  · rename_i d f k i ht
    have hty := tyOk hT ht
    cases hb with | p _ _ _ hb => cases hb with | int =>
    split
    · rename_i f2 s hk
      intro hc
      obtain ⟨h0, h1⟩ : 0 ≤ i ∧ i < s.size := hc
      cases ha with | p _ _ _ ha => cases ha with | str =>
      have hi : i.toNat < s.size := by omega
      refine VRuns.pure hh (c := .int .u8 ((s.data.toList.getD i.toNat 0).toNat)) ?_ (.p true _ _ (.int _ _))
      have h2 : s[i.toNat]? = some (s.data.toList.getD i.toNat 0) := by
        rw [getElem?_pos s i.toNat hi]
        congr 1
        show s.data[i.toNat] = _
        rw [List.getD_eq_getElem?_getD, Array.getElem?_toList, Array.getElem?_eq_getElem hi]
        rfl
      simp only [Instr.index, asIntOf, Sem.run_bind, Sem.run_pure, Result.andThen_ok, run_underlying (hty.str hk), h0, if_true, h2]
    · trivial
  · trivial

/-! ### Cuts -/
def BdR : Option Value → Int → Int → Prop
  | none, d, l => l = d
  | some v, _, l => ∃ k, v = .int k l
def OptR (w : World) (F1 F2 : Nat → Prop) (ρ : Nat → Option (Nat × Nat)) (H : Hp) : Option AV → Option Value → Prop
  | none, none => True
  | some a, some v => AVR w F1 F2 ρ H a v
  | _, _ => False
theorem boundOf_run {X : Option AV} {x : Option Value} (hx : OptR w F1 F2 ρ H X x) {d l : Int} (h : boundOf X d = some l) : BdR x d l := by
  unfold boundOf at h
  split at h
  · cases x with
    | none => exact (Option.some.inj h).symm
    | some v => exact hx.elim
  · cases x with
    | none => exact hx.elim
    | some v =>
      obtain rfl := Option.some.inj h
      cases hx with | p _ _ _ hx => cases hx with | int => exact ⟨_, rfl⟩
  · cases h
theorem run_bounds {lo hi : Option Value} {n cap : Nat} {l h : Int} (isS : Bool) (hlo : BdR lo 0 l) (hhi : BdR hi n h)
    (h0 : 0 ≤ l) (h1 : l ≤ h) (h2 : h ≤ cap) (hn : n ≤ cap) : (Instr.sliceBounds isS n cap lo hi none).run P w = .ok (l.toNat, h.toNat, cap) w := by
  have hb : ∀ (v : Value) (k : IntKind) (i : Int) (y : Nat) (c : BoundsCode), v = .int k i → 0 ≤ i → i ≤ y → (Instr.sliceBound v y c).run P w = .ok i.toNat w := by
    intro v k i y c hv h3 h4
    subst hv
    simp [Instr.sliceBound, asIntOf, h3, h4]
  cases hi with
  | none =>
    have hhi : h = n := hhi
    subst hhi
    cases lo with
    | none =>
      have hlo : l = 0 := hlo
      subst hlo
      simp [Instr.sliceBounds]
    | some v =>
      obtain ⟨k, hk⟩ := hlo
      simp [Instr.sliceBounds, hb v k l n _ hk h0 (by omega)]
  | some u =>
    obtain ⟨k', hk'⟩ := hhi
    cases lo with
    | none =>
      have hlo : l = 0 := hlo
      subst hlo
      simp [Instr.sliceBounds, hb u k' h cap _ hk' (by omega) h2]
    | some v =>
      obtain ⟨k, hk⟩ := hlo
      simp [Instr.sliceBounds, hb u k' h cap _ hk' (by omega) h2, hb v k l h.toNat _ hk h0 (by omega)]
theorem evalSlice_ok (hT : tabOk P T = true) (hh : HeapR k0 w F1 F2 ρ H) (t : TypeId) {a : AV} {x : Value} (ha : AVR w F1 F2 ρ H a x) {LO HI : Option AV} {lo hi : Option Value}
    (hlo : OptR w F1 F2 ρ H LO lo) (hhi : OptR w F1 F2 ρ H HI hi) :
    StepOk P k0 w F1 F2 ρ H (Instr.sliceAt t x lo hi none) (evalSlice T H t a LO HI) := by
  unfold evalSlice
  split
  · rename_i d ht
    have hty := tyOk hT ht
    split
    · rename_i f s hk
      split
      · rename_i l h hl hhh
        intro hc
        obtain ⟨h0, h1, h2⟩ : 0 ≤ l ∧ l ≤ h ∧ h ≤ s.size := hc
        cases ha with | p _ _ _ ha => cases ha with | str =>
        have hb := run_bounds (P := P) (w := w) false (boundOf_run hlo hl) (boundOf_run hhi hhh) h0 h1 h2 (Nat.le_refl _)
        exact VRuns.pure hh (c := .string (s.extract l.toNat h.toNat)) (by simp [Instr.sliceAt, Instr.slice, run_underlying (hty.str hk), hb]) (.p true _ _ (.str _))
      · trivial
    · rename_i e fr sz els hk
      split
      · rename_i l h hsz hl hhh
        intro hc
        obtain ⟨h0, h1, h2⟩ : 0 ≤ l ∧ l ≤ h ∧ h ≤ els.length := hc
        cases ha with | p _ _ _ ha =>
        cases ha with
        | slnil _ A cap =>
          simp at h2
          have hb := run_bounds (P := P) (w := w) (n := 0) (cap := cap) true (boundOf_run hlo hl) (boundOf_run hhi hhh) h0 h1 (by omega) (Nat.zero_le _)
          have hl0 : l.toNat = 0 := by omega
          have hh0 : h.toNat = 0 := by omega
          refine VRuns.pure hh (c := .slice (if cap = l.toNat then A else A.map (·.add (l.toNat * sz))) (h.toNat - l.toNat) (cap - l.toNat)) (by simp [Instr.sliceAt, Instr.slice, run_underlying (hty.slice hk), hb, szOk_run hT hsz]) ?_
          rw [hl0, hh0]
          exact .p fr _ _ (by simpa using PVR.slnil _ _ _)
        | sl _ _ ad cap cs hsp hF hcap hce hcell hval =>
          have hb := run_bounds (P := P) (w := w) (n := els.length) (cap := cap) true (boundOf_run hlo hl) (boundOf_run hhi hhh) h0 h1 (by omega) hcap
          refine VRuns.pure hh (c := .slice (if cap = l.toNat then some ad else some (ad.add (l.toNat * sz))) (h.toNat - l.toNat) (cap - l.toNat)) ?_ (.p fr _ _ ?_)
          · simp only [Instr.sliceAt, Instr.slice, Sem.run_bind, run_underlying (hty.slice hk), Result.andThen_ok, hb, szOk_run hT hsz, Sem.run_pure, Option.map_some]
          · have hln : ((els.take h.toNat).drop l.toNat).length = h.toNat - l.toNat := by simp; omega
            rcases Nat.eq_zero_or_pos (h.toNat - l.toNat) with hz | hz
            · rw [List.eq_nil_of_length_eq_zero (hln.trans hz), hz]
              exact .slnil _ _ _
            · rw [if_neg (by omega)]
              have hce' : ∀ x ∈ (els.take h.toNat).drop l.toNat, x.cells.length = sz := fun x hx => hce x (List.mem_of_mem_take (List.mem_of_mem_drop hx))
              have hfl : flat ((els.take h.toNat).drop l.toNat) = ((flat els).take (h.toNat * sz)).drop (l.toNat * sz) := by
                rw [flat_drop (fun x hx => hce x (List.mem_of_mem_take hx)), flat_take hce]
              have hget : ∀ i v, (flat ((els.take h.toNat).drop l.toNat))[i]? = some v → (flat els)[l.toNat * sz + i]? = some v := by
                intro i v hv
                rw [hfl, List.getElem?_drop, List.getElem?_take] at hv
                split at hv
                · exact hv
                · cases hv
              have hp := PVR.sl (w := w) (F := flagF fr F1 F2) sz ((els.take h.toNat).drop l.toNat) (ad.add (l.toNat * sz)) (cap - l.toNat) (fun i => cs (l.toNat * sz + i)) (add_spot hsp _) (by rw [add_block]; exact hF) (by omega) hce'
                (fun i hi => by
                  rw [add_add hsp]
                  refine hcell _ ?_
                  rw [flat_length hce', hln] at hi
                  rw [flat_length hce]
                  have h3 : h.toNat * sz ≤ els.length * sz := Nat.mul_le_mul_right _ (by omega)
                  have h4 : (h.toNat - l.toNat) * sz + l.toNat * sz = h.toNat * sz := by rw [← Nat.add_mul]; congr 1; omega
                  omega)
                (fun i v hv => hval _ v (hget i v hv))
              rwa [hln] at hp
      · trivial
    · rename_i e fr hk
      split
      · rename_i de l h hde hl hhh
        intro hc
        obtain ⟨h0, h1, h2⟩ : 0 ≤ l ∧ l ≤ h ∧ h ≤ 0 := hc
        cases ha with | p _ _ _ ha => cases ha with | nilsl A =>
        have hb := run_bounds (P := P) (w := w) (n := 0) (cap := 0) true (boundOf_run hlo hl) (boundOf_run hhi hhh) h0 h1 (by omega) (Nat.le_refl _)
        have hl0 : l.toNat = 0 := by omega
        have hh0 : h.toNat = 0 := by omega
        have hs := (tyOk hT hde).sizeOf
        refine VRuns.pure hh (c := .slice (if 0 = l.toNat then A else A.map (·.add (l.toNat * de.size))) (h.toNat - l.toNat) (0 - l.toNat)) (by simp [Instr.sliceAt, Instr.slice, run_underlying (hty.slice hk), hb, hs]) ?_
        rw [hl0, hh0]
        exact .p fr _ _ (.nilsl _)
      · trivial
    · rename_i e r hk
      split
      · rename_i e' sz fr fz els hH
        split
        · rename_i l h hsz hl hhh
          intro hc
          obtain ⟨h0, h1, h2⟩ : 0 ≤ l ∧ l ≤ h ∧ h ≤ els.length := hc
          cases ha with | rowf _ _ o ho _ hr =>
          rw [hH] at ho
          obtain rfl := Option.some.inj ho
          have hs := hr _ _ _ _ _ rfl
          unfold SlV at hs
          cases hρ : ρ r with
          | none =>
            rw [hρ] at hs
            obtain ⟨_, h3, A, rfl⟩ := hs
            rw [h3] at h2 hhh
            have hb := run_bounds (P := P) (w := w) (n := 0) (cap := 0) true (boundOf_run hlo hl) (boundOf_run hhi hhh) h0 h1 (by omega) (Nat.le_refl _)
            have hl0 : l.toNat = 0 := by omega
            have hh0 : h.toNat = 0 := by omega
            refine VRuns.pure hh (c := .slice (if 0 = l.toNat then A else A.map (·.add (l.toNat * sz))) (h.toNat - l.toNat) (0 - l.toNat)) (by simp [Instr.sliceAt, Instr.slice, run_underlying (hty.slice hk), hb, szOk_run hT hsz]) ?_
            refine .row _ _ _ _ _ hH ⟨_, _, _, rfl⟩ fun e2 sz2 fr2 fz2 els2 he => ?_
            obtain ⟨rfl, rfl, rfl, rfl, rfl⟩ := Ob.row.inj he
            rw [hρ, hl0, hh0]
            exact ⟨⟨rfl, rfl, _, rfl⟩, by omega⟩
          | some gc =>
            obtain ⟨g, cap⟩ := gc
            rw [hρ] at hs
            obtain ⟨h3, A, rfl, hA⟩ := hs
            have hb := run_bounds (P := P) (w := w) (n := els.length) (cap := cap - 0) true (boundOf_run hlo hl) (boundOf_run hhi hhh) h0 h1 (by omega) (by omega)
            refine VRuns.pure hh (c := .slice (if cap - 0 = l.toNat then A else A.map (·.add (l.toNat * sz))) (h.toNat - l.toNat) (cap - 0 - l.toNat)) (by simp only [Nat.sub_zero] at hb; simp [Instr.sliceAt, Instr.slice, run_underlying (hty.slice hk), hb, szOk_run hT hsz]) ?_
            refine .row _ _ _ _ _ hH ⟨_, _, _, rfl⟩ fun e2 sz2 fr2 fz2 els2 he => ?_
            obtain ⟨rfl, rfl, rfl, rfl, rfl⟩ := Ob.row.inj he
            rw [hρ]
            refine ⟨⟨by omega, _, by rw [Nat.sub_zero], fun hlt => ?_⟩, by omega⟩
            rw [if_neg (by omega), hA (by omega), Option.map_some, Addr.add_mid]
            simp
        · trivial
      · trivial
    · rename_i e r off n hk
      split
      · rename_i e' sz fr fz els hH
        split
        · rename_i l h hsz hl hhh
          intro hc
          obtain ⟨h0, h1, h2⟩ : 0 ≤ l ∧ l ≤ h ∧ off + h.toNat ≤ els.length := hc
          cases ha with | row _ _ _ _ o ho _ hr =>
          rw [hH] at ho
          obtain rfl := Option.some.inj ho
          obtain ⟨hs, hle⟩ := hr _ _ _ _ _ rfl
          obtain ⟨q1, q2, q3⟩ := hh.row hH
          unfold SlV at hs
          cases hρ : ρ r with
          | none =>
            rw [hρ] at hs q3
            simp only at q3
            subst q3
            obtain ⟨rfl, rfl, A, rfl⟩ := hs
            simp at h2
            have hb := run_bounds (P := P) (w := w) (n := 0) (cap := 0) true (boundOf_run hlo hl) (boundOf_run hhi hhh) h0 h1 (by omega) (Nat.le_refl _)
            have hl0 : l.toNat = 0 := by omega
            have hh0 : h.toNat = 0 := by omega
            refine VRuns.pure hh (c := .slice (if 0 = l.toNat then A else A.map (·.add (l.toNat * sz))) (h.toNat - l.toNat) (0 - l.toNat)) (by simp [Instr.sliceAt, Instr.slice, run_underlying (hty.slice hk), hb, szOk_run hT hsz]) ?_
            refine .row _ _ _ _ _ hH ⟨_, _, _, rfl⟩ fun e2 sz2 fr2 fz2 els2 he => ?_
            obtain ⟨rfl, rfl, rfl, rfl, rfl⟩ := Ob.row.inj he
            rw [hρ, hl0, hh0]
            exact ⟨⟨rfl, rfl, _, rfl⟩, by omega⟩
          | some gc =>
            obtain ⟨g, cap⟩ := gc
            rw [hρ] at hs q3
            obtain ⟨cur, _, q4, _⟩ := q3
            obtain ⟨h3, A, rfl, hA⟩ := hs
            have hb := run_bounds (P := P) (w := w) (n := n) (cap := cap - off) true (boundOf_run hlo hl) (boundOf_run hhi hhh) h0 h1 (by omega) (by omega)
            refine VRuns.pure hh (c := .slice (if cap - off = l.toNat then A else A.map (·.add (l.toNat * sz))) (h.toNat - l.toNat) (cap - off - l.toNat)) (by simp [Instr.sliceAt, Instr.slice, run_underlying (hty.slice hk), hb, szOk_run hT hsz]) ?_
            refine .row _ _ _ _ _ hH ⟨_, _, _, rfl⟩ fun e2 sz2 fr2 fz2 els2 he => ?_
            obtain ⟨rfl, rfl, rfl, rfl, rfl⟩ := Ob.row.inj he
            rw [hρ]
            refine ⟨⟨by omega, _, by rw [Nat.sub_sub], fun hlt => ?_⟩, by omega⟩
            rw [if_neg (by omega), hA (by omega), Option.map_some, Addr.add_mid, Nat.add_mul]
        · trivial
      · trivial
    · trivial
  · trivial
end
end Go.Proofs.Ytjgmlkogppibfaa.Ev
