/- Codes that end by themselves: numbers of any size, rows of bytes. No conditions. -/
import Derived.Test.YtingmlhhabaplaaGreatEvVar
namespace Go.Proofs.YtingmlhhabaplaaGreat.Ev
open Go
set_option linter.unusedVariables false
set_option linter.unusedSimpArgs false
def i64R (x : Int) : Prop := -9223372036854775808 ≤ x ∧ x ≤ 9223372036854775807
/-! ### Codes that end by themselves -/
theorem vE_sd {v w : Nat} {r s : List UInt8} (hv : v < 18446744073709551616) (hw : w < 18446744073709551616) (h : vE v ++ r = vE w ++ s) : v = w ∧ r = s := by
  have h1 := vGet_put [] r hv
  have h2 := vGet_put [] s hw
  rw [List.nil_append] at h1 h2
  rw [h, h2] at h1
  have e : v = w := by
    have := congrArg Prod.fst h1
    simp only at this
    omega
  subst e
  exact ⟨rfl, List.append_cancel_left h⟩
theorem vI_sd {x y : Int} {r s : List UInt8} (hx : -9223372036854775808 ≤ x ∧ x ≤ 9223372036854775807) (hy : -9223372036854775808 ≤ y ∧ y ≤ 9223372036854775807) (h : vE (zig x) ++ r = vE (zig y) ++ s) : x = y ∧ r = s := by
  obtain ⟨h1, h2⟩ := vE_sd (zig_lt hx.1 hx.2) (zig_lt hy.1 hy.2) h
  refine ⟨?_, h2⟩
  rw [← unzig_zig x hx.1 hx.2, ← unzig_zig y hy.1 hy.2, h1]
/-- A row of bytes, its length ahead. -/
def recB (r : List UInt8) : List UInt8 := vE r.length ++ r
def recsB (rs : List (List UInt8)) : List UInt8 := (rs.map recB).flatten
theorem recsB_nil : recsB [] = [] := rfl
theorem recsB_cons (r : List UInt8) (rs : List (List UInt8)) : recsB (r :: rs) = recB r ++ recsB rs := by simp [recsB]
theorem recsB_app (a b : List (List UInt8)) : recsB (a ++ b) = recsB a ++ recsB b := by simp [recsB]
theorem recsB_one (r : List UInt8) : recsB [r] = recB r := by simp [recsB]
theorem recB_sd {x y r s : List UInt8} (hx : x.length < 18446744073709551616) (hy : y.length < 18446744073709551616) (h : recB x ++ r = recB y ++ s) : x = y ∧ r = s := by
  unfold recB at h
  rw [List.append_assoc, List.append_assoc] at h
  obtain ⟨h1, h2⟩ := vE_sd hx hy h
  exact List.append_inj h2 h1
theorem recsB_sd : ∀ {xs ys : List (List UInt8)} {r s : List UInt8}, (∀ x ∈ xs, x.length < 18446744073709551616) → (∀ y ∈ ys, y.length < 18446744073709551616) → xs.length = ys.length → recsB xs ++ r = recsB ys ++ s → xs = ys ∧ r = s
  | [], [], r, s, _, _, _, h => ⟨rfl, h⟩
  | [], y :: ys, r, s, _, _, hl, _ => by cases hl
  | x :: xs, [], r, s, _, _, hl, _ => by cases hl
  | x :: xs, y :: ys, r, s, hx, hy, hl, h => by
    rw [recsB_cons, recsB_cons, List.append_assoc, List.append_assoc] at h
    obtain ⟨h1, h2⟩ := recB_sd (hx x List.mem_cons_self) (hy y List.mem_cons_self) h
    obtain ⟨h3, h4⟩ := recsB_sd (fun z hz => hx z (List.mem_cons_of_mem _ hz)) (fun z hz => hy z (List.mem_cons_of_mem _ hz)) (by simpa using hl) h2
    exact ⟨by rw [h1, h3], h4⟩
/-- Fewer were read, more stand there. -/
theorem recsB_next : ∀ {xs ys : List (List UInt8)} {s : List UInt8}, (∀ x ∈ xs, x.length < 18446744073709551616) → (∀ y ∈ ys, y.length < 18446744073709551616) → ys.length < xs.length → recsB xs = recsB ys ++ s → ∃ z ∈ xs, ∃ t, s = recB z ++ t
  | [], ys, s, _, _, hl, _ => by cases hl
  | x :: xs, [], s, _, _, _, h => ⟨x, List.mem_cons_self, recsB xs, by rw [← recsB_cons, h]; rfl⟩
  | x :: xs, y :: ys, s, hx, hy, hl, h => by
    rw [recsB_cons, recsB_cons, List.append_assoc] at h
    obtain ⟨h1, h2⟩ := recB_sd (hx x List.mem_cons_self) (hy y List.mem_cons_self) h
    obtain ⟨z, hz, t, ht⟩ := recsB_next (fun z hz => hx z (List.mem_cons_of_mem _ hz)) (fun z hz => hy z (List.mem_cons_of_mem _ hz)) (by simpa using hl) h2
    exact ⟨z, List.mem_cons_of_mem _ hz, t, ht⟩
/-- Rows of bytes, as a row. -/
def ll (fs : List (List UInt8)) : List PV := fs.map fun f => .sl 1 (bl f)
theorem ll_length (fs : List (List UInt8)) : (ll fs).length = fs.length := by simp [ll]
theorem ll_getD (l : List (List UInt8)) (i : Nat) (z : PV) (h : i < l.length) : (ll l).getD i z = .sl 1 (bl l[i]) := map_getD (fun f => PV.sl 1 (bl f)) l i z h
end Go.Proofs.YtingmlhhabaplaaGreat.Ev
