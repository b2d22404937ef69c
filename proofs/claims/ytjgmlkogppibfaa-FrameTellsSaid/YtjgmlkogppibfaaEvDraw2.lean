/- A region whose order is drawn: each order comes to what the text's order comes to. No conditions. -/
import Derived.Test.YtjgmlkogppibfaaEvDraw
namespace Go.Proofs.Ytjgmlkogppibfaa.Ev
open Go
set_option linter.unusedVariables false
set_option linter.unusedSimpArgs false

theorem getD_get {α : Type} [Inhabited α] {l : List α} {i : Nat} (h : i < l.length) : l[i]? = some (l.getD i default) := by
  simp [List.getD_eq_getElem?_getD, h]
theorem testBit_edgeBits : ∀ {es : List Edge} {B : List Nat} {i : Nat}, Nat.testBit (edgeBits es B) i = true → ∃ e ∈ es, Region.binds .any e = true ∧ (i = e.on ∨ Nat.testBit (B.getD e.on 0) i = true)
  | [], B, i, h => by simp [edgeBits] at h
  | e :: r, B, i, h => by
    unfold edgeBits at h
    cases hb : Region.binds .any e with
    | false =>
      rw [hb] at h
      obtain ⟨e', h1, h2⟩ := testBit_edgeBits h
      exact ⟨e', by simp [h1], h2⟩
    | true =>
      rw [hb] at h
      simp only at h
      have h : Nat.testBit ((1 <<< e.on ||| B.getD e.on 0) ||| edgeBits r B) i = true := h
      rw [Nat.testBit_or, Nat.testBit_or, Bool.or_eq_true, Bool.or_eq_true] at h
      rcases h with (h | h) | h
      · refine ⟨e, by simp, hb, .inl ?_⟩
        rw [Nat.testBit_shiftLeft] at h
        simp only [Bool.and_eq_true, decide_eq_true_eq] at h
        have h2 := h.2
        have : i - e.on = 0 := by
          by_cases hz : i - e.on = 0
          · exact hz
          · rw [show (1 : Nat) = 2 ^ 0 from rfl, Nat.testBit_two_pow] at h2
            simp at h2
            omega
        omega
      · exact ⟨e, by simp, hb, .inr h⟩
      · obtain ⟨e', h1, h2⟩ := testBit_edgeBits h
        exact ⟨e', by simp [h1], h2⟩
theorem bitsOf_spec : ∀ (l : List Oper) (B : List Nat), (∀ i, i < B.length → (bitsOf l B)[i]? = B[i]?) ∧ ∀ j o, l[j]? = some o → (bitsOf l B)[B.length + j]? = some (edgeBits o.after.toList ((bitsOf l B).take (B.length + j)))
  | [], B => ⟨fun i _ => rfl, fun j o h => by simp at h⟩
  | o :: r, B => by
    obtain ⟨h1, h2⟩ := bitsOf_spec r (B ++ [edgeBits o.after.toList B])
    have hB : ∀ i, i < B.length → (bitsOf (o :: r) B)[i]? = B[i]? := by
      intro i hi
      show (bitsOf r (B ++ [edgeBits o.after.toList B]))[i]? = B[i]?
      rw [h1 i (by simp; omega), List.getElem?_append_left hi]
    refine ⟨hB, fun j p hj => ?_⟩
    cases j with
    | zero =>
      obtain rfl : o = p := by simpa using hj
      have ht : (bitsOf (o :: r) B).take B.length = B := by
        apply List.ext_getElem?
        intro i
        by_cases hi : i < B.length
        · rw [List.getElem?_take_of_lt hi, hB i hi]
        · rw [List.getElem?_eq_none (by simp; omega), List.getElem?_eq_none (by omega)]
      rw [Nat.add_zero, ht]
      show (bitsOf r (B ++ [edgeBits o.after.toList B]))[B.length]? = _
      rw [h1 B.length (by simp), List.getElem?_append_right (Nat.le_refl _)]
      simp
    | succ j =>
      have := h2 j p (by simpa using hj)
      rw [List.length_append, List.length_singleton] at this
      rw [show B.length + (j + 1) = B.length + 1 + j by omega]
      exact this
theorem testBit_bits {l : List Oper} {j i : Nat} {o : Oper} (ho : l[j]? = some o) (h : Nat.testBit ((bitsOf l []).getD j 0) i = true) :
    ∃ e ∈ o.after.toList, Region.binds .any e = true ∧ (i = e.on ∨ Nat.testBit ((bitsOf l []).getD e.on 0) i = true) := by
  have := (bitsOf_spec l []).2 j o ho
  rw [show ([] : List Nat).length + j = j by simp] at this
  rw [List.getD_eq_getElem?_getD, this] at h
  obtain ⟨e, h1, h2, h3⟩ := testBit_edgeBits h
  refine ⟨e, h1, h2, h3.imp id fun h4 => ?_⟩
  rw [List.getD_eq_getElem?_getD] at h4 ⊢
  by_cases hlt : e.on < j
  · rw [List.getElem?_take_of_lt hlt] at h4
    exact h4
  · rw [List.getElem?_eq_none (by simp; omega)] at h4
    simp at h4
theorem edgesBelow_ok : ∀ {l : List Oper} {n : Nat}, edgesBelow l n = true → ∀ j o, l[j]? = some o → ∀ e ∈ o.after.toList, Region.binds .any e = true → e.on < n + j
  | [], n, _, j, o, h => by simp at h
  | p :: r, n, hb, j, o, h => by
    simp only [edgesBelow, Bool.and_eq_true, List.all_eq_true] at hb
    cases j with
    | zero =>
      obtain rfl : p = o := by simpa using h
      intro e he hbd
      have := hb.1 e he
      rw [hbd] at this
      simp only [Bool.not_true, Bool.false_or] at this
      exact Nat.le_of_ble_eq_true this
    | succ j =>
      intro e he hbd
      have := edgesBelow_ok hb.2 j o (by simpa using h) e he hbd
      omega
theorem trOk_ok {all : List Oper} {B : List Nat} {tr : Tr} (h : trOk all B tr = true) {i j : Nat} (hj : j < all.length) (hi : i < j) : Nat.testBit (B.getD j 0) i = true ∨
    ((all.getD i default).apart all.toArray (all.getD j default) = true ∧ (∀ k ∈ (tr.getD i default).2, k ∉ (tr.getD j default).1 ∧ k ∉ (tr.getD j default).2) ∧ ∀ k ∈ (tr.getD j default).2, k ∉ (tr.getD i default).1) := by
  unfold trOk at h
  rw [List.all_eq_true] at h
  have := h j (List.mem_range.2 hj)
  rw [List.all_eq_true] at this
  have := this i (List.mem_range.2 hi)
  rw [Bool.or_eq_true, Bool.and_eq_true, Bool.and_eq_true] at this
  rcases this with h1 | ⟨⟨h1, h2⟩, h3⟩
  · exact .inl h1
  · refine .inr ⟨h1, fun k hk => ?_, disj_iff.1 h3⟩
    have := disj_iff.1 h2 k hk
    rw [List.mem_append] at this
    exact ⟨fun h => this (.inl h), fun h => this (.inr h)⟩

/-- One operation done, in the text's order. -/
def Done (Γ : List (FuncId × Ctr)) (T : Tab) (k0 : Nat) (all : List Oper) (o : Oper) (e : Env) (H : Hp) (nx : Nat) (out : Out) : Prop :=
  ∃ g, guardOf all o e = some g ∧ ((gdRun g = true ∧ OutOk Γ T k0 o e H nx out ∧ ∀ c rd, evalOp Γ T k0 o e H nx ≠ .dem c rd) ∨ (gdRun g = false ∧ out = ⟨.tuple [], [], []⟩))
def opsF (l : List Oper) (outs : List Out) (i : Nat) : Option Nat × Out := ((l.getD i default).dst, outs.getD i default)
section
variable {x : Cx} {P : Program} {Γ : List (FuncId × Ctr)} {T : Tab}
theorem awOps_outs {all : List Oper} {K : St → Tr → Prop} : ∀ (l : List Oper) (s : St) (tr : Tr), awOps Γ T x.k0 all true l s tr K → ∃ outs : List Out,
    (∀ i, i < l.length → Done Γ T x.k0 all (l.getD i default) (look (stN (opsF l outs) s i).env) (look (stN (opsF l outs) s i).heap) (stN (opsF l outs) s i).nx (opsF l outs i).2) ∧
    ∃ T' : Tr, K (stN (opsF l outs) s l.length) (T'.reverse ++ tr) ∧ T'.length = l.length ∧ ∀ i, i < l.length → T'.getD i default = ((stN (opsF l outs) s i).nx :: (opsF l outs i).2.rd, ids (opsF l outs i).2.ups)
  | [], s, tr, h => ⟨[], fun i hi => by simp at hi, [], h, rfl, fun i hi => by simp at hi⟩
  | o :: r, s, tr, h => by
    have hcons : ∀ out : Out, Done Γ T x.k0 all o (look s.env) (look s.heap) s.nx out → awOps Γ T x.k0 all true r (s.next o.dst (some out.v) out.ups) ((s.nx :: out.rd, ids out.ups) :: tr) K → ∃ outs : List Out,
        (∀ i, i < (o :: r).length → Done Γ T x.k0 all ((o :: r).getD i default) (look (stN (opsF (o :: r) outs) s i).env) (look (stN (opsF (o :: r) outs) s i).heap) (stN (opsF (o :: r) outs) s i).nx (opsF (o :: r) outs i).2) ∧
        ∃ T' : Tr, K (stN (opsF (o :: r) outs) s (o :: r).length) (T'.reverse ++ tr) ∧ T'.length = (o :: r).length ∧ ∀ i, i < (o :: r).length → T'.getD i default = ((stN (opsF (o :: r) outs) s i).nx :: (opsF (o :: r) outs i).2.rd, ids (opsF (o :: r) outs i).2.ups) := by
      intro out hdone hrest
      obtain ⟨outs, h1, T', h2, h3, h4⟩ := awOps_outs r _ _ hrest
      have hsh : ∀ n, stN (opsF (o :: r) (out :: outs)) s (n + 1) = stN (opsF r outs) (s.next o.dst (some out.v) out.ups) n := by
        intro n
        rw [stN_shift]
        rfl
      refine ⟨out :: outs, fun i hi => ?_, (s.nx :: out.rd, ids out.ups) :: T', ?_, by simp [h3], fun i hi => ?_⟩
      · cases i with
        | zero => exact hdone
        | succ i =>
          rw [hsh i]
          exact h1 i (by simpa using hi)
      · rw [List.length_cons, hsh, List.reverse_cons, List.append_assoc]
        exact h2
      · cases i with
        | zero => rfl
        | succ i =>
          rw [hsh i]
          exact h4 i (by simpa using hi)
    have hrun : awOp Γ T x.k0 true o s tr (fun s tr => awOps Γ T x.k0 all true r s tr K) → (∃ g, guardOf all o (look s.env) = some g ∧ gdRun g = true) → ∃ out, Done Γ T x.k0 all o (look s.env) (look s.heap) s.nx out ∧ awOps Γ T x.k0 all true r (s.next o.dst (some out.v) out.ups) ((s.nx :: out.rd, ids out.ups) :: tr) K := by
      rintro ha ⟨g, hg, hg2⟩
      have := awOp_outs ha
      cases hs : evalOp Γ T x.k0 o (look s.env) (look s.heap) s.nx with
      | dem c rd => rw [hs] at this; exact absurd this.1 (by simp)
      | bad => rw [hs] at this; obtain ⟨out, h1, h2⟩ := this; exact ⟨out, ⟨g, hg, .inl ⟨hg2, h1, fun c rd h => by rw [hs] at h; cases h⟩⟩, h2⟩
      | ok cs v rd ups => rw [hs] at this; obtain ⟨out, h1, h2⟩ := this; exact ⟨out, ⟨g, hg, .inl ⟨hg2, h1, fun c rd h => by rw [hs] at h; cases h⟩⟩, h2⟩
      | call Ix r => rw [hs] at this; obtain ⟨out, h1, h2⟩ := this; exact ⟨out, ⟨g, hg, .inl ⟨hg2, h1, fun c rd h => by rw [hs] at h; cases h⟩⟩, h2⟩
    have hskip : awSkip true o s tr (fun s tr => awOps Γ T x.k0 all true r s tr K) → (∃ g, guardOf all o (look s.env) = some g ∧ gdRun g = false) → ∃ out, Done Γ T x.k0 all o (look s.env) (look s.heap) s.nx out ∧ awOps Γ T x.k0 all true r (s.next o.dst (some out.v) out.ups) ((s.nx :: out.rd, ids out.ups) :: tr) K := by
      rintro ha ⟨g, hg, hg2⟩
      exact ⟨⟨.tuple [], [], []⟩, ⟨g, hg, .inr ⟨hg2, rfl⟩⟩, awSkip_eq ha⟩
    have hout : ∃ out, Done Γ T x.k0 all o (look s.env) (look s.heap) s.nx out ∧ awOps Γ T x.k0 all true r (s.next o.dst (some out.v) out.ups) ((s.nx :: out.rd, ids out.ups) :: tr) K := by
      unfold awOps at h
      cases hg : guardOf all o (look s.env) with
      | none => rw [hg] at h; exact h.elim
      | some g =>
        rw [hg] at h
        cases g with
        | run => exact hrun h ⟨_, hg, rfl⟩
        | skip => exact hskip h ⟨_, hg, rfl⟩
        | ask b want =>
          cases want <;> cases b
          · exact hrun h ⟨_, hg, rfl⟩
          · exact hskip h ⟨_, hg, rfl⟩
          · exact hskip h ⟨_, hg, rfl⟩
          · exact hrun h ⟨_, hg, rfl⟩
    obtain ⟨out, h1, h2⟩ := hout
    exact hcons out h1 h2
end
end Go.Proofs.Ytjgmlkogppibfaa.Ev
