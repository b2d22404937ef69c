/- Wire: what is read: laws of readers, put together. No conditions. -/
import Derived.Test.YtingmlhhabaplaaGreatEvWire4
namespace Go.Proofs.YtingmlhhabaplaaGreat.Ev
open Go
set_option linter.unusedVariables false
set_option linter.unusedSimpArgs false
/-- What a reader keeps to: it reads what was put, and what it read was put. -/
structure RL {X : Type} (get : In → X × In) (enc : X → List UInt8) (ok : X → Prop) : Prop where
  put : ∀ x r, ok x → get (enc x ++ r, false) = (x, r, false)
  back : ∀ l r x b, l.length ≤ 1000000 → get (l, b) = (x, r, false) → ok x ∧ b = false ∧ l = enc x ++ r
  len : ∀ s, (get s).2.1.length ≤ s.1.length
  pos : ∀ x, 1 ≤ (enc x).length
theorem vE_pos (n : Nat) : 1 ≤ (vE n).length := by rw [vE_length]; exact vCnt_pos n
/-- Two things read, one behind the other. -/
def gP {X Y : Type} (g : In → X × In) (h : In → Y × In) (s : In) : (X × Y) × In := (((g s).1, (h (g s).2).1), (h (g s).2).2)
theorem RL.pair {X Y : Type} {g : In → X × In} {h : In → Y × In} {e : X → List UInt8} {f : Y → List UInt8} {p : X → Prop} {q : Y → Prop} (a : RL g e p) (c : RL h f q) :
    RL (gP g h) (fun x => e x.1 ++ f x.2) (fun x => p x.1 ∧ q x.2) where
  put := fun x r hx => by
    have e1 := a.put x.1 (f x.2 ++ r) hx.1
    have e2 := c.put x.2 r hx.2
    unfold gP
    rw [List.append_assoc, e1, e2]
  back := fun l r x b hl hg => by
    unfold gP at hg
    simp only [Prod.mk.injEq] at hg
    obtain ⟨rfl, hg⟩ := hg
    have hl2 := Nat.le_trans (a.len (l, b)) hl
    obtain ⟨k1, k2, k3⟩ := c.back (g (l, b)).2.1 r (h (g (l, b)).2).1 (g (l, b)).2.2 hl2 (by rw [← hg])
    obtain ⟨q1, q2, q3⟩ := a.back l (g (l, b)).2.1 (g (l, b)).1 b hl (Prod.ext rfl (Prod.ext rfl k2))
    refine ⟨⟨q1, k1⟩, q2, ?_⟩
    rw [List.append_assoc, ← k3]
    exact q3
  len := fun s => Nat.le_trans (c.len _) (a.len s)
  pos := fun x => by have := a.pos x.1; rw [List.length_append]; omega
theorem wf_of_i64R {a : Int} (h : i64R a) : (Lit.int .i64 a).wf = true := by
  have h1 : IntKind.i64.min = -9223372036854775808 := by decide
  have h2 : IntKind.i64.max = 9223372036854775807 := by decide
  unfold i64R at h
  simp only [Lit.wf, Bool.and_eq_true, decide_eq_true_eq]
  omega
theorem rNu : RL gNu nuB (fun n => (Lit.int .i64 n).wf = true) where
  put := fun x r hx => gNu_put x (wf_i64 hx) r false
  back := fun l r x b _ hg => by
    obtain ⟨h1, h2, h3⟩ := gNu_back hg
    exact ⟨wf_of_i64R h1, h2, h3⟩
  len := gNu_len
  pos := fun x => vE_pos _
theorem rBy : RL gBy (fun c => nuB (c.toNat : Nat)) (fun _ => True) where
  put := fun x r _ => gBy_put x r false
  back := fun l r x b _ hg => ⟨trivial, gBy_back hg⟩
  len := gBy_len
  pos := fun x => vE_pos _
theorem rBo : RL gBo boB (fun _ => True) where
  put := fun x r _ => gBo_put x r false
  back := fun l r x b _ hg => ⟨trivial, gBo_back hg⟩
  len := gBo_len
  pos := fun x => by cases x <;> exact Nat.le_refl _
theorem rRc : RL gRc recB (fun y => y.length * 1 ≤ 140737488351232 ∧ y.length ≤ 9223372036854775807 ∧ ∀ e ∈ y, True) where
  put := fun x r hx => gRc_put x r false (by have := hx.1; omega)
  back := fun l r x b hl hg => by
    obtain ⟨h1, h2, h3⟩ := gRc_back hg
    have h4 := congrArg List.length h3
    unfold recB at h4
    simp only [List.length_append] at h4
    exact ⟨⟨by omega, by omega, fun _ _ => trivial⟩, h2, h3⟩
  len := gRc_len
  pos := fun x => by have := vE_pos x.length; unfold recB; rw [List.length_append]; omega
theorem gTx_len (s : In) : (gTx s).2.1.length ≤ s.1.length := gRc_len s
theorem txB_length (s : ByteArray) : (txB s).length = (vE s.size).length + s.size := by unfold txB; rw [List.length_append]; rfl
theorem rTx : RL gTx txB (fun y => y.size ≤ 140737488351232) where
  put := fun x r hx => gTx_put x r false (by omega)
  back := fun l r x b hl hg => by
    obtain ⟨h1, h2, h3⟩ := gTx_back hg
    have h4 := congrArg List.length h3
    rw [List.length_append, txB_length] at h4
    exact ⟨by omega, h2, h3⟩
  len := gTx_len
  pos := fun x => by have := vE_pos x.size; rw [txB_length]; omega
theorem gLp_len {X : Type} {get : In → X × In} (h : ∀ s, (get s).2.1.length ≤ s.1.length) : ∀ (n : Nat) (s : In), (gLp get n s).2.1.length ≤ s.1.length
  | 0, s => Nat.le_refl _
  | n + 1, (l, true) => Nat.le_refl _
  | n + 1, (l, false) => Nat.le_trans (gLp_len h n (get (l, false)).2) (h (l, false))
theorem flat_pos {X : Type} {enc : X → List UInt8} (h : ∀ x, 1 ≤ (enc x).length) : ∀ l : List X, l.length ≤ (l.map enc).flatten.length
  | [] => Nat.le_refl _
  | x :: l => by
    have h1 := flat_pos h l
    have h2 := h x
    rw [List.map_cons, List.flatten_cons, List.length_append, List.length_cons]
    omega
theorem RL.list {X : Type} {get : In → X × In} {enc : X → List UInt8} {ok : X → Prop} (a : RL get enc ok) (B : Nat) (hB : B ≤ 1000000) (hB1 : 1 ≤ B) :
    RL (gLs get) (lsB enc) (fun l => l.length * B ≤ 140737488351232 ∧ l.length ≤ 9223372036854775807 ∧ ∀ x ∈ l, ok x) where
  put := fun l r hl => by
    have h1 := flat_pos a.pos l
    have h2 := hl.2.1
    have e1 := gSz_put l.length (by omega) ((l.map enc).flatten ++ r) false (by rw [List.length_append]; omega)
    unfold gLs lsB
    rw [List.append_assoc, e1]
    exact gLp_put a.put l r hl.2.2
  back := fun l r xs b hl hg => by
    unfold gLs at hg
    have hl2 : (gSz (l, b)).2.1.length ≤ 1000000 := Nat.le_trans (gSz_len (l, b)) hl
    have hbk : ∀ (n : Nat) (l r : List UInt8) (b : Bool) (xs : List X), l.length ≤ 1000000 → gLp get n (l, b) = (xs, r, false) → xs.length = n ∧ (∀ x ∈ xs, ok x) ∧ b = false ∧ l = (xs.map enc).flatten ++ r := by
      intro n
      induction n with
      | zero =>
        intro l r b xs _ hg
        unfold gLp at hg
        cases hg
        exact ⟨rfl, fun _ h => (List.not_mem_nil h).elim, rfl, rfl⟩
      | succ n ih =>
        intro l r b xs hl hg
        unfold gLp at hg
        cases b
        · simp only [Prod.mk.injEq] at hg
          obtain ⟨h1, h2⟩ := hg
          obtain ⟨k1, k2, k3, k4⟩ := ih (get (l, false)).2.1 r (get (l, false)).2.2 (gLp get n (get (l, false)).2).1 (Nat.le_trans (a.len _) hl) (by rw [← h2])
          obtain ⟨q1, q2, q3⟩ := a.back l (get (l, false)).2.1 (get (l, false)).1 false hl (Prod.ext rfl (Prod.ext rfl k3))
          subst h1
          refine ⟨by rw [List.length_cons, k1], ?_, rfl, ?_⟩
          · intro x hx
            rcases List.mem_cons.1 hx with rfl | hx
            · exact q1
            · exact k2 x hx
          · rw [List.map_cons, List.flatten_cons, List.append_assoc, ← k4]
            exact q3
        · simp at hg
    obtain ⟨k1, k2, k3, k4⟩ := hbk _ (gSz (l, b)).2.1 r (gSz (l, b)).2.2 xs hl2 hg
    obtain ⟨q1, q2, q3, q4⟩ := gSz_back (n := (gSz (l, b)).1) (r := (gSz (l, b)).2.1) (l := l) (b := b) (Prod.ext rfl (Prod.ext rfl k3))
    have hn : xs.length ≤ 1000000 := by omega
    refine ⟨⟨?_, by omega, k2⟩, q3, ?_⟩
    · have := Nat.mul_le_mul hn hB
      omega
    · unfold lsB
      rw [k1, List.append_assoc, ← k4]
      exact q4
  len := fun s => Nat.le_trans (gLp_len a.len _ _) (gSz_len s)
  pos := fun l => by have := vE_pos l.length; unfold lsB; rw [List.length_append]; omega
/-- Elements go on from where they stand. -/
theorem gLp_bad {X : Type} (get : In → X × In) (n : Nat) (l : List UInt8) : gLp get n (l, true) = ([], l, true) := by cases n <;> rfl
/-- How many were read: no more than were asked. -/
theorem gLp_cnt {X : Type} (get : In → X × In) : ∀ (n : Nat) (s : In), (gLp get n s).1.length ≤ n
  | 0, s => Nat.le_refl _
  | n + 1, (l, true) => Nat.zero_le _
  | n + 1, (l, false) => Nat.succ_le_succ (gLp_cnt get n (get (l, false)).2)
end Go.Proofs.YtingmlhhabaplaaGreat.Ev
