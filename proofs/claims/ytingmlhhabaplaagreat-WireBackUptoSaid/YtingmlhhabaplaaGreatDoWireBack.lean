/- Wire: the law WireBack. No conditions. -/
import Derived.Test.YtingmlhhabaplaaGreatEvPuts
import Derived.Test.YtingmlhhabaplaaGreatEvBulk6z
import Derived.Test.YtingmlhhabaplaaGreatEvWire8b
import Derived.Test.YtingmlhhabaplaaGreatEvWire8c
import Derived.Test.YtingmlhhabaplaaGreatEvLike
import Derived.Test.YtingmlhhabaplaaGreatEvAwake06
namespace Go.Proofs.YtingmlhhabaplaaGreat.Ev
open Go
set_option linter.unusedVariables false
set_option linter.unusedSimpArgs false
set_option maxRecDepth 100000
set_option maxHeartbeats 4000000
/-- What bytes are as a thing of a kind, and the error. -/
def thG (k : Nat) (l : List UInt8) : S84 := match k with
  | 0 => ((gGet gt48 1 60000 z48 l).1, z57, z28, z37, z63, z72, z79)
  | 1 => (z48, (gGet gt57 2 60000 z57 l).1, z28, z37, z63, z72, z79)
  | 2 => (z48, z57, (gGet gt28 3 60000 z28 l).1, z37, z63, z72, z79)
  | 3 => (z48, z57, z28, (gGet gt37 4 60000 z37 l).1, z63, z72, z79)
  | 4 => (z48, z57, z28, z37, (gGet gt63 5 60000 z63 l).1, z72, z79)
  | 5 => (z48, z57, z28, z37, z63, (gGet gt72 6 60000 z72 l).1, z79)
  | _ => (z48, z57, z28, z37, z63, z72, (gGet gt79 7 65545 z79 l).1)
def erG (k : Nat) (l : List UInt8) : Int := match k with
  | 0 => (gGet gt48 1 60000 z48 l).2
  | 1 => (gGet gt57 2 60000 z57 l).2
  | 2 => (gGet gt28 3 60000 z28 l).2
  | 3 => (gGet gt37 4 60000 z37 l).2
  | 4 => (gGet gt63 5 60000 z63 l).2
  | 5 => (gGet gt72 6 60000 z72 l).2
  | _ => (gGet gt79 7 65545 z79 l).2
abbrev cGets : Ctr := ⟨{k : Nat // k < 7} × List UInt8 × S84 × Int, 0, fun (k, l, y, e) => [isI .i64 k.1, .p false (.sl 1 (bl l))], fun _ => [], fun (k, l, y, e) => y = thG k.1 l ∧ e = erG k.1 l,
  fun (k, l, y, e) => .tuple [.agg ((pv84 y).map (AV.p true)), isI .i64 e], fun _ => []⟩
def gGk : List (FuncId × Ctr) := gGets5 ++ gGets
theorem gGk_ok : GamOk Tryz.prog gGk := GamOk.app gGets5_ok gGets_ok
theorem gets_does : Does gGk tab Tryz.f34 cGets := by
  rintro ⟨⟨k, hk⟩, l, y, e⟩ ⟨hy, he⟩
  simp only at hy he
  obtain rfl | rfl | rfl | rfl | rfl | rfl | rfl : k = 0 ∨ k = 1 ∨ k = 2 ∨ k = 3 ∨ k = 4 ∨ k = 5 ∨ k = 6 := by omega
  · obtain ⟨q, hq⟩ : ∃ q, q = gGet gt48 1 60000 z48 l := ⟨_, rfl⟩
    replace hy : y = (q.1, z57, z28, z37, z63, z72, z79) := by rw [hq]; exact hy
    replace he : e = q.2 := by rw [hq]; exact he
    subst hy he
    (set_option smartUnfolding false in conv => whnf)
    refine ⟨l, ?_⟩
    conv => whnf
    refine And.intro (by simp only [allP, List.nil_append, List.cons_append, true_and]; repeat' (first | rfl | exact trivial | refine And.intro ?_ ?_)) ?_
    (set_option smartUnfolding false in conv => whnf)
    rw [← hq]
    clear hq
    obtain ⟨q1, q2⟩ := q
    refine dI (k := ?_)
    (set_option smartUnfolding false in conv => whnf)
    refine dI (k := ?_)
    (set_option smartUnfolding false in conv => whnf)
    refine dI (k := ?_)
    (set_option smartUnfolding false in conv => whnf)
    refine dI (k := ?_)
    (set_option smartUnfolding false in conv => whnf)
    first | done | (and_intros <;> first | rfl | exact trivial)
  · obtain ⟨q, hq⟩ : ∃ q, q = gGet gt57 2 60000 z57 l := ⟨_, rfl⟩
    replace hy : y = (z48, q.1, z28, z37, z63, z72, z79) := by rw [hq]; exact hy
    replace he : e = q.2 := by rw [hq]; exact he
    subst hy he
    (set_option smartUnfolding false in conv => whnf)
    refine ⟨l, ?_⟩
    conv => whnf
    refine And.intro (by simp only [allP, List.nil_append, List.cons_append, true_and]; repeat' (first | rfl | exact trivial | refine And.intro ?_ ?_)) ?_
    (set_option smartUnfolding false in conv => whnf)
    rw [← hq]
    clear hq
    obtain ⟨q1, q2⟩ := q
    refine dI (k := ?_)
    (set_option smartUnfolding false in conv => whnf)
    refine dI (k := ?_)
    (set_option smartUnfolding false in conv => whnf)
    refine dI (k := ?_)
    (set_option smartUnfolding false in conv => whnf)
    refine dI (k := ?_)
    (set_option smartUnfolding false in conv => whnf)
    first | done | (and_intros <;> first | rfl | exact trivial)
  · obtain ⟨q, hq⟩ : ∃ q, q = gGet gt28 3 60000 z28 l := ⟨_, rfl⟩
    replace hy : y = (z48, z57, q.1, z37, z63, z72, z79) := by rw [hq]; exact hy
    replace he : e = q.2 := by rw [hq]; exact he
    subst hy he
    (set_option smartUnfolding false in conv => whnf)
    refine ⟨l, ?_⟩
    conv => whnf
    refine And.intro (by simp only [allP, List.nil_append, List.cons_append, true_and]; repeat' (first | rfl | exact trivial | refine And.intro ?_ ?_)) ?_
    (set_option smartUnfolding false in conv => whnf)
    rw [← hq]
    clear hq
    obtain ⟨q1, q2⟩ := q
    refine dI (k := ?_)
    (set_option smartUnfolding false in conv => whnf)
    refine dI (k := ?_)
    (set_option smartUnfolding false in conv => whnf)
    refine dI (k := ?_)
    (set_option smartUnfolding false in conv => whnf)
    refine dI (k := ?_)
    (set_option smartUnfolding false in conv => whnf)
    first | done | (and_intros <;> first | rfl | exact trivial)
  · obtain ⟨q, hq⟩ : ∃ q, q = gGet gt37 4 60000 z37 l := ⟨_, rfl⟩
    replace hy : y = (z48, z57, z28, q.1, z63, z72, z79) := by rw [hq]; exact hy
    replace he : e = q.2 := by rw [hq]; exact he
    subst hy he
    (set_option smartUnfolding false in conv => whnf)
    refine ⟨l, ?_⟩
    conv => whnf
    refine And.intro (by simp only [allP, List.nil_append, List.cons_append, true_and]; repeat' (first | rfl | exact trivial | refine And.intro ?_ ?_)) ?_
    (set_option smartUnfolding false in conv => whnf)
    rw [← hq]
    clear hq
    obtain ⟨q1, q2⟩ := q
    refine dI (k := ?_)
    (set_option smartUnfolding false in conv => whnf)
    refine dI (k := ?_)
    (set_option smartUnfolding false in conv => whnf)
    refine dI (k := ?_)
    (set_option smartUnfolding false in conv => whnf)
    refine dI (k := ?_)
    (set_option smartUnfolding false in conv => whnf)
    first | done | (and_intros <;> first | rfl | exact trivial)
  · obtain ⟨q, hq⟩ : ∃ q, q = gGet gt63 5 60000 z63 l := ⟨_, rfl⟩
    replace hy : y = (z48, z57, z28, z37, q.1, z72, z79) := by rw [hq]; exact hy
    replace he : e = q.2 := by rw [hq]; exact he
    subst hy he
    (set_option smartUnfolding false in conv => whnf)
    refine ⟨l, ?_⟩
    conv => whnf
    refine And.intro (by simp only [allP, List.nil_append, List.cons_append, true_and]; repeat' (first | rfl | exact trivial | refine And.intro ?_ ?_)) ?_
    (set_option smartUnfolding false in conv => whnf)
    rw [← hq]
    clear hq
    obtain ⟨q1, q2⟩ := q
    refine dI (k := ?_)
    (set_option smartUnfolding false in conv => whnf)
    refine dI (k := ?_)
    (set_option smartUnfolding false in conv => whnf)
    refine dI (k := ?_)
    (set_option smartUnfolding false in conv => whnf)
    refine dI (k := ?_)
    (set_option smartUnfolding false in conv => whnf)
    first | done | (and_intros <;> first | rfl | exact trivial)
  · obtain ⟨q, hq⟩ : ∃ q, q = gGet gt72 6 60000 z72 l := ⟨_, rfl⟩
    replace hy : y = (z48, z57, z28, z37, z63, q.1, z79) := by rw [hq]; exact hy
    replace he : e = q.2 := by rw [hq]; exact he
    subst hy he
    (set_option smartUnfolding false in conv => whnf)
    refine ⟨l, ?_⟩
    conv => whnf
    refine And.intro (by simp only [allP, List.nil_append, List.cons_append, true_and]; repeat' (first | rfl | exact trivial | refine And.intro ?_ ?_)) ?_
    (set_option smartUnfolding false in conv => whnf)
    rw [← hq]
    clear hq
    obtain ⟨q1, q2⟩ := q
    refine dI (k := ?_)
    (set_option smartUnfolding false in conv => whnf)
    refine dI (k := ?_)
    (set_option smartUnfolding false in conv => whnf)
    refine dI (k := ?_)
    (set_option smartUnfolding false in conv => whnf)
    refine dI (k := ?_)
    (set_option smartUnfolding false in conv => whnf)
    first | done | (and_intros <;> first | rfl | exact trivial)
  · obtain ⟨q, hq⟩ : ∃ q, q = gGet gt79 7 65545 z79 l := ⟨_, rfl⟩
    replace hy : y = (z48, z57, z28, z37, z63, z72, q.1) := by rw [hq]; exact hy
    replace he : e = q.2 := by rw [hq]; exact he
    subst hy he
    (set_option smartUnfolding false in conv => whnf)
    refine ⟨l, ?_⟩
    conv => whnf
    refine And.intro (by simp only [allP, List.nil_append, List.cons_append, true_and]; repeat' (first | rfl | exact trivial | refine And.intro ?_ ?_)) ?_
    (set_option smartUnfolding false in conv => whnf)
    rw [← hq]
    clear hq
    obtain ⟨q1, q2⟩ := q
    refine dI (k := ?_)
    (set_option smartUnfolding false in conv => whnf)
    refine dI (k := ?_)
    (set_option smartUnfolding false in conv => whnf)
    refine dI (k := ?_)
    (set_option smartUnfolding false in conv => whnf)
    refine dI (k := ?_)
    (set_option smartUnfolding false in conv => whnf)
    first | done | (and_intros <;> first | rfl | exact trivial)
theorem gets_sound : Sound Tryz.prog 34 cGets := does_sound mixed tabOk_prog gGk_ok Tryz.func34 gets_does
theorem yok48 : ok48 z48 := ⟨trivial, ⟨(by decide), (by decide), (by decide), ⟨Nat.le_of_ble_eq_true rfl, Nat.le_of_ble_eq_true rfl, fun _ h => (List.not_mem_nil h).elim⟩⟩, (by decide)⟩
theorem yok57 : ok57 z57 := ⟨trivial, (Nat.le_of_ble_eq_true rfl), (Nat.le_of_ble_eq_true rfl), (by decide), ⟨Nat.le_of_ble_eq_true rfl, Nat.le_of_ble_eq_true rfl, fun _ h => (List.not_mem_nil h).elim⟩, ⟨(Nat.le_of_ble_eq_true rfl), (by decide)⟩, (by decide), (by decide), (by decide), (by decide)⟩
theorem yok28 : ok28 z28 := ⟨(by decide), (by decide), ⟨Nat.le_of_ble_eq_true rfl, Nat.le_of_ble_eq_true rfl, fun _ h => (List.not_mem_nil h).elim⟩, ⟨Nat.le_of_ble_eq_true rfl, Nat.le_of_ble_eq_true rfl, fun _ h => (List.not_mem_nil h).elim⟩⟩
theorem yok37 : ok37 z37 := ⟨(by decide), ⟨Nat.le_of_ble_eq_true rfl, Nat.le_of_ble_eq_true rfl, fun _ h => (List.not_mem_nil h).elim⟩, ⟨Nat.le_of_ble_eq_true rfl, Nat.le_of_ble_eq_true rfl, fun _ h => (List.not_mem_nil h).elim⟩, ⟨Nat.le_of_ble_eq_true rfl, Nat.le_of_ble_eq_true rfl, fun _ h => (List.not_mem_nil h).elim⟩, ⟨Nat.le_of_ble_eq_true rfl, Nat.le_of_ble_eq_true rfl, fun _ h => (List.not_mem_nil h).elim⟩⟩
theorem yok63 : ok63 z63 := ⟨trivial, (by decide), (by decide), (Nat.le_of_ble_eq_true rfl), (by decide), ⟨(by decide), (by decide), (by decide), ⟨Nat.le_of_ble_eq_true rfl, Nat.le_of_ble_eq_true rfl, fun _ h => (List.not_mem_nil h).elim⟩⟩, (by decide), (by decide), (by decide), ⟨trivial, (Nat.le_of_ble_eq_true rfl), (Nat.le_of_ble_eq_true rfl), (by decide), ⟨Nat.le_of_ble_eq_true rfl, Nat.le_of_ble_eq_true rfl, fun _ h => (List.not_mem_nil h).elim⟩, ⟨(Nat.le_of_ble_eq_true rfl), (by decide)⟩, (by decide), (by decide), (by decide), (by decide)⟩⟩
theorem yok72 : ok72 z72 := ⟨trivial, (by decide), (by decide), (by decide), (by decide), (by decide), (by decide), (by decide), trivial, ⟨Nat.le_of_ble_eq_true rfl, Nat.le_of_ble_eq_true rfl, fun _ h => (List.not_mem_nil h).elim⟩, ⟨(by decide), (by decide), (by decide), (by decide), trivial, ⟨Nat.le_of_ble_eq_true rfl, Nat.le_of_ble_eq_true rfl, fun _ h => (List.not_mem_nil h).elim⟩⟩⟩
theorem yok79 : ok79 z79 := ⟨(Nat.le_of_ble_eq_true rfl), trivial, (by decide), (by decide), (by decide), (by decide), (by decide), (by decide), (by decide), trivial, ⟨Nat.le_of_ble_eq_true rfl, Nat.le_of_ble_eq_true rfl, fun _ h => (List.not_mem_nil h).elim⟩, ⟨Nat.le_of_ble_eq_true rfl, Nat.le_of_ble_eq_true rfl, fun _ h => (List.not_mem_nil h).elim⟩⟩
section
variable {X : Type} {get : In → X × In} {enc : X → List UInt8} {ok : X → Prop}
theorem gGet_kind (a : RL get enc ok) {kd kd' : UInt8} {most : Nat} (hm : most ≤ 1000000) (z : X) (r : List UInt8) (hne : kd' ≠ kd) : gGet get kd most z (kd' :: r) = (z, 60) := by
  rcases gGet_form a kd most hm z (kd' :: r) with h | ⟨x, _, h, _⟩
  · exact h
  · exact absurd (List.cons.inj h).1 hne
theorem RL.sd (a : RL get enc ok) {x y : X} (hx : ok x) (hy : ok y) {r : List UInt8} (h : enc x = enc y ++ r) : r = [] := by
  have h1 := a.put x [] hx
  have h2 := a.put y r hy
  rw [List.append_nil, h, h2] at h1
  exact (Prod.mk.inj (Prod.mk.inj h1).2).1
theorem gGet_cut (a : RL get enc ok) (kd : UInt8) {most : Nat} (hm : most ≤ 1000000) (z : X) {x : X} (hx : ok x) {n : Nat} (hn : n < (kd :: enc x).length) : gGet get kd most z ((kd :: enc x).take n) = (z, 60) := by
  rcases gGet_form a kd most hm z ((kd :: enc x).take n) with h | ⟨y, hy, h, _⟩
  · exact h
  · have h1 : kd :: enc x = (kd :: enc y) ++ (kd :: enc x).drop n := by rw [← h, List.take_append_drop]
    have h2 := a.sd hx hy (List.cons.inj h1).2
    have h3 := congrArg List.length h2
    rw [List.length_drop, List.length_nil] at h3
    omega
theorem gGet_more (a : RL get enc ok) (kd : UInt8) {most : Nat} (hm : most ≤ 1000000) (z : X) {x : X} (hx : ok x) (c : UInt8) : gGet get kd most z ((kd :: enc x) ++ [c]) = (z, 60) := by
  rcases gGet_form a kd most hm z ((kd :: enc x) ++ [c]) with h | ⟨y, hy, h, _⟩
  · exact h
  · have h2 := a.sd hy hx (List.cons.inj h).2.symm
    cases h2
end
theorem erG_put0 {x : S48} (hx : ok48 x) (hl : (en48 x).length + 1 ≤ 60000) (n : Nat) (hn : n < 7) : erG n (1 :: en48 x) = if n = 0 then 0 else 60 := by
  obtain rfl | rfl | rfl | rfl | rfl | rfl | rfl : n = 0 ∨ n = 1 ∨ n = 2 ∨ n = 3 ∨ n = 4 ∨ n = 5 ∨ n = 6 := by omega
  · rw [show erG 0 (1 :: en48 x) = (gGet gt48 1 60000 z48 (1 :: en48 x)).2 from rfl, gGet_put rt48 1 60000 z48 x hx hl]; rfl
  · rw [show erG 1 (1 :: en48 x) = (gGet gt57 2 60000 z57 (1 :: en48 x)).2 from rfl, gGet_kind rt57 (by decide) _ _ (by decide)]; rfl
  · rw [show erG 2 (1 :: en48 x) = (gGet gt28 3 60000 z28 (1 :: en48 x)).2 from rfl, gGet_kind rt28 (by decide) _ _ (by decide)]; rfl
  · rw [show erG 3 (1 :: en48 x) = (gGet gt37 4 60000 z37 (1 :: en48 x)).2 from rfl, gGet_kind rt37 (by decide) _ _ (by decide)]; rfl
  · rw [show erG 4 (1 :: en48 x) = (gGet gt63 5 60000 z63 (1 :: en48 x)).2 from rfl, gGet_kind rt63 (by decide) _ _ (by decide)]; rfl
  · rw [show erG 5 (1 :: en48 x) = (gGet gt72 6 60000 z72 (1 :: en48 x)).2 from rfl, gGet_kind rt72 (by decide) _ _ (by decide)]; rfl
  · rw [show erG 6 (1 :: en48 x) = (gGet gt79 7 65545 z79 (1 :: en48 x)).2 from rfl, gGet_kind rt79 (by decide) _ _ (by decide)]; rfl
theorem erG_put1 {x : S57} (hx : ok57 x) (hl : (en57 x).length + 1 ≤ 60000) (n : Nat) (hn : n < 7) : erG n (2 :: en57 x) = if n = 1 then 0 else 60 := by
  obtain rfl | rfl | rfl | rfl | rfl | rfl | rfl : n = 0 ∨ n = 1 ∨ n = 2 ∨ n = 3 ∨ n = 4 ∨ n = 5 ∨ n = 6 := by omega
  · rw [show erG 0 (2 :: en57 x) = (gGet gt48 1 60000 z48 (2 :: en57 x)).2 from rfl, gGet_kind rt48 (by decide) _ _ (by decide)]; rfl
  · rw [show erG 1 (2 :: en57 x) = (gGet gt57 2 60000 z57 (2 :: en57 x)).2 from rfl, gGet_put rt57 2 60000 z57 x hx hl]; rfl
  · rw [show erG 2 (2 :: en57 x) = (gGet gt28 3 60000 z28 (2 :: en57 x)).2 from rfl, gGet_kind rt28 (by decide) _ _ (by decide)]; rfl
  · rw [show erG 3 (2 :: en57 x) = (gGet gt37 4 60000 z37 (2 :: en57 x)).2 from rfl, gGet_kind rt37 (by decide) _ _ (by decide)]; rfl
  · rw [show erG 4 (2 :: en57 x) = (gGet gt63 5 60000 z63 (2 :: en57 x)).2 from rfl, gGet_kind rt63 (by decide) _ _ (by decide)]; rfl
  · rw [show erG 5 (2 :: en57 x) = (gGet gt72 6 60000 z72 (2 :: en57 x)).2 from rfl, gGet_kind rt72 (by decide) _ _ (by decide)]; rfl
  · rw [show erG 6 (2 :: en57 x) = (gGet gt79 7 65545 z79 (2 :: en57 x)).2 from rfl, gGet_kind rt79 (by decide) _ _ (by decide)]; rfl
theorem erG_put2 {x : S28} (hx : ok28 x) (hl : (en28 x).length + 1 ≤ 60000) (n : Nat) (hn : n < 7) : erG n (3 :: en28 x) = if n = 2 then 0 else 60 := by
  obtain rfl | rfl | rfl | rfl | rfl | rfl | rfl : n = 0 ∨ n = 1 ∨ n = 2 ∨ n = 3 ∨ n = 4 ∨ n = 5 ∨ n = 6 := by omega
  · rw [show erG 0 (3 :: en28 x) = (gGet gt48 1 60000 z48 (3 :: en28 x)).2 from rfl, gGet_kind rt48 (by decide) _ _ (by decide)]; rfl
  · rw [show erG 1 (3 :: en28 x) = (gGet gt57 2 60000 z57 (3 :: en28 x)).2 from rfl, gGet_kind rt57 (by decide) _ _ (by decide)]; rfl
  · rw [show erG 2 (3 :: en28 x) = (gGet gt28 3 60000 z28 (3 :: en28 x)).2 from rfl, gGet_put rt28 3 60000 z28 x hx hl]; rfl
  · rw [show erG 3 (3 :: en28 x) = (gGet gt37 4 60000 z37 (3 :: en28 x)).2 from rfl, gGet_kind rt37 (by decide) _ _ (by decide)]; rfl
  · rw [show erG 4 (3 :: en28 x) = (gGet gt63 5 60000 z63 (3 :: en28 x)).2 from rfl, gGet_kind rt63 (by decide) _ _ (by decide)]; rfl
  · rw [show erG 5 (3 :: en28 x) = (gGet gt72 6 60000 z72 (3 :: en28 x)).2 from rfl, gGet_kind rt72 (by decide) _ _ (by decide)]; rfl
  · rw [show erG 6 (3 :: en28 x) = (gGet gt79 7 65545 z79 (3 :: en28 x)).2 from rfl, gGet_kind rt79 (by decide) _ _ (by decide)]; rfl
theorem erG_put3 {x : S37} (hx : ok37 x) (hl : (en37 x).length + 1 ≤ 60000) (n : Nat) (hn : n < 7) : erG n (4 :: en37 x) = if n = 3 then 0 else 60 := by
  obtain rfl | rfl | rfl | rfl | rfl | rfl | rfl : n = 0 ∨ n = 1 ∨ n = 2 ∨ n = 3 ∨ n = 4 ∨ n = 5 ∨ n = 6 := by omega
  · rw [show erG 0 (4 :: en37 x) = (gGet gt48 1 60000 z48 (4 :: en37 x)).2 from rfl, gGet_kind rt48 (by decide) _ _ (by decide)]; rfl
  · rw [show erG 1 (4 :: en37 x) = (gGet gt57 2 60000 z57 (4 :: en37 x)).2 from rfl, gGet_kind rt57 (by decide) _ _ (by decide)]; rfl
  · rw [show erG 2 (4 :: en37 x) = (gGet gt28 3 60000 z28 (4 :: en37 x)).2 from rfl, gGet_kind rt28 (by decide) _ _ (by decide)]; rfl
  · rw [show erG 3 (4 :: en37 x) = (gGet gt37 4 60000 z37 (4 :: en37 x)).2 from rfl, gGet_put rt37 4 60000 z37 x hx hl]; rfl
  · rw [show erG 4 (4 :: en37 x) = (gGet gt63 5 60000 z63 (4 :: en37 x)).2 from rfl, gGet_kind rt63 (by decide) _ _ (by decide)]; rfl
  · rw [show erG 5 (4 :: en37 x) = (gGet gt72 6 60000 z72 (4 :: en37 x)).2 from rfl, gGet_kind rt72 (by decide) _ _ (by decide)]; rfl
  · rw [show erG 6 (4 :: en37 x) = (gGet gt79 7 65545 z79 (4 :: en37 x)).2 from rfl, gGet_kind rt79 (by decide) _ _ (by decide)]; rfl
theorem erG_put4 {x : S63} (hx : ok63 x) (hl : (en63 x).length + 1 ≤ 60000) (n : Nat) (hn : n < 7) : erG n (5 :: en63 x) = if n = 4 then 0 else 60 := by
  obtain rfl | rfl | rfl | rfl | rfl | rfl | rfl : n = 0 ∨ n = 1 ∨ n = 2 ∨ n = 3 ∨ n = 4 ∨ n = 5 ∨ n = 6 := by omega
  · rw [show erG 0 (5 :: en63 x) = (gGet gt48 1 60000 z48 (5 :: en63 x)).2 from rfl, gGet_kind rt48 (by decide) _ _ (by decide)]; rfl
  · rw [show erG 1 (5 :: en63 x) = (gGet gt57 2 60000 z57 (5 :: en63 x)).2 from rfl, gGet_kind rt57 (by decide) _ _ (by decide)]; rfl
  · rw [show erG 2 (5 :: en63 x) = (gGet gt28 3 60000 z28 (5 :: en63 x)).2 from rfl, gGet_kind rt28 (by decide) _ _ (by decide)]; rfl
  · rw [show erG 3 (5 :: en63 x) = (gGet gt37 4 60000 z37 (5 :: en63 x)).2 from rfl, gGet_kind rt37 (by decide) _ _ (by decide)]; rfl
  · rw [show erG 4 (5 :: en63 x) = (gGet gt63 5 60000 z63 (5 :: en63 x)).2 from rfl, gGet_put rt63 5 60000 z63 x hx hl]; rfl
  · rw [show erG 5 (5 :: en63 x) = (gGet gt72 6 60000 z72 (5 :: en63 x)).2 from rfl, gGet_kind rt72 (by decide) _ _ (by decide)]; rfl
  · rw [show erG 6 (5 :: en63 x) = (gGet gt79 7 65545 z79 (5 :: en63 x)).2 from rfl, gGet_kind rt79 (by decide) _ _ (by decide)]; rfl
theorem erG_put5 {x : S72} (hx : ok72 x) (hl : (en72 x).length + 1 ≤ 60000) (n : Nat) (hn : n < 7) : erG n (6 :: en72 x) = if n = 5 then 0 else 60 := by
  obtain rfl | rfl | rfl | rfl | rfl | rfl | rfl : n = 0 ∨ n = 1 ∨ n = 2 ∨ n = 3 ∨ n = 4 ∨ n = 5 ∨ n = 6 := by omega
  · rw [show erG 0 (6 :: en72 x) = (gGet gt48 1 60000 z48 (6 :: en72 x)).2 from rfl, gGet_kind rt48 (by decide) _ _ (by decide)]; rfl
  · rw [show erG 1 (6 :: en72 x) = (gGet gt57 2 60000 z57 (6 :: en72 x)).2 from rfl, gGet_kind rt57 (by decide) _ _ (by decide)]; rfl
  · rw [show erG 2 (6 :: en72 x) = (gGet gt28 3 60000 z28 (6 :: en72 x)).2 from rfl, gGet_kind rt28 (by decide) _ _ (by decide)]; rfl
  · rw [show erG 3 (6 :: en72 x) = (gGet gt37 4 60000 z37 (6 :: en72 x)).2 from rfl, gGet_kind rt37 (by decide) _ _ (by decide)]; rfl
  · rw [show erG 4 (6 :: en72 x) = (gGet gt63 5 60000 z63 (6 :: en72 x)).2 from rfl, gGet_kind rt63 (by decide) _ _ (by decide)]; rfl
  · rw [show erG 5 (6 :: en72 x) = (gGet gt72 6 60000 z72 (6 :: en72 x)).2 from rfl, gGet_put rt72 6 60000 z72 x hx hl]; rfl
  · rw [show erG 6 (6 :: en72 x) = (gGet gt79 7 65545 z79 (6 :: en72 x)).2 from rfl, gGet_kind rt79 (by decide) _ _ (by decide)]; rfl
theorem erG_put6 {x : S79} (hx : ok79 x) (hl : (en79 x).length + 1 ≤ 65545) (n : Nat) (hn : n < 7) : erG n (7 :: en79 x) = if n = 6 then 0 else 60 := by
  obtain rfl | rfl | rfl | rfl | rfl | rfl | rfl : n = 0 ∨ n = 1 ∨ n = 2 ∨ n = 3 ∨ n = 4 ∨ n = 5 ∨ n = 6 := by omega
  · rw [show erG 0 (7 :: en79 x) = (gGet gt48 1 60000 z48 (7 :: en79 x)).2 from rfl, gGet_kind rt48 (by decide) _ _ (by decide)]; rfl
  · rw [show erG 1 (7 :: en79 x) = (gGet gt57 2 60000 z57 (7 :: en79 x)).2 from rfl, gGet_kind rt57 (by decide) _ _ (by decide)]; rfl
  · rw [show erG 2 (7 :: en79 x) = (gGet gt28 3 60000 z28 (7 :: en79 x)).2 from rfl, gGet_kind rt28 (by decide) _ _ (by decide)]; rfl
  · rw [show erG 3 (7 :: en79 x) = (gGet gt37 4 60000 z37 (7 :: en79 x)).2 from rfl, gGet_kind rt37 (by decide) _ _ (by decide)]; rfl
  · rw [show erG 4 (7 :: en79 x) = (gGet gt63 5 60000 z63 (7 :: en79 x)).2 from rfl, gGet_kind rt63 (by decide) _ _ (by decide)]; rfl
  · rw [show erG 5 (7 :: en79 x) = (gGet gt72 6 60000 z72 (7 :: en79 x)).2 from rfl, gGet_kind rt72 (by decide) _ _ (by decide)]; rfl
  · rw [show erG 6 (7 :: en79 x) = (gGet gt79 7 65545 z79 (7 :: en79 x)).2 from rfl, gGet_put rt79 7 65545 z79 x hx hl]; rfl
theorem preZ0 {x : S48} (hx : ok48 x) (hl : (en48 x).length + 1 ≤ 60000) : ∃ g : G7, preP g (x, z57, z28, z37, z63, z72, z79) ∧ g.1 = true := by
  have b1 := bn57 z57 yok57
  have m1 : ms57 z57 ≤ 1000 := by decide
  have b2 := bn28 z28 yok28
  have m2 : ms28 z28 ≤ 1000 := by decide
  have b3 := bn37 z37 yok37
  have m3 : ms37 z37 ≤ 1000 := by decide
  have b4 := bn63 z63 yok63
  have m4 : ms63 z63 ≤ 1000 := by decide
  have b5 := bn72 z72 yok72
  have m5 : ms72 z72 ≤ 1000 := by decide
  have b6 := bn79 z79 yok79
  have m6 : ms79 z79 ≤ 1000 := by decide
  refine ⟨(true, decide (1 + (en57 z57).length ≤ 60000), decide (1 + (en28 z28).length ≤ 60000), decide (1 + (en37 z37).length ≤ 60000), decide (1 + (en63 z63).length ≤ 60000), decide (1 + (en72 z72).length ≤ 60000), decide (1 + (en79 z79).length ≤ 65545)), ⟨⟨hx, yok57, yok28, yok37, yok63, yok72, yok79⟩, ⟨by simp only; omega, by simp only; omega, by simp only; omega, by simp only; omega, by simp only; omega, by simp only; omega, by simp only; omega⟩, ⟨(decide_eq_true (by simp only; omega)).symm, rfl, rfl, rfl, rfl, rfl, rfl⟩⟩, rfl⟩
theorem preZ1 {x : S57} (hx : ok57 x) (hl : (en57 x).length + 1 ≤ 60000) : ∃ g : G7, preP g (z48, x, z28, z37, z63, z72, z79) ∧ g.2.1 = true := by
  have b0 := bn48 z48 yok48
  have m0 : ms48 z48 ≤ 1000 := by decide
  have b2 := bn28 z28 yok28
  have m2 : ms28 z28 ≤ 1000 := by decide
  have b3 := bn37 z37 yok37
  have m3 : ms37 z37 ≤ 1000 := by decide
  have b4 := bn63 z63 yok63
  have m4 : ms63 z63 ≤ 1000 := by decide
  have b5 := bn72 z72 yok72
  have m5 : ms72 z72 ≤ 1000 := by decide
  have b6 := bn79 z79 yok79
  have m6 : ms79 z79 ≤ 1000 := by decide
  refine ⟨(decide (1 + (en48 z48).length ≤ 60000), true, decide (1 + (en28 z28).length ≤ 60000), decide (1 + (en37 z37).length ≤ 60000), decide (1 + (en63 z63).length ≤ 60000), decide (1 + (en72 z72).length ≤ 60000), decide (1 + (en79 z79).length ≤ 65545)), ⟨⟨yok48, hx, yok28, yok37, yok63, yok72, yok79⟩, ⟨by simp only; omega, by simp only; omega, by simp only; omega, by simp only; omega, by simp only; omega, by simp only; omega, by simp only; omega⟩, ⟨rfl, (decide_eq_true (by simp only; omega)).symm, rfl, rfl, rfl, rfl, rfl⟩⟩, rfl⟩
theorem preZ2 {x : S28} (hx : ok28 x) (hl : (en28 x).length + 1 ≤ 60000) : ∃ g : G7, preP g (z48, z57, x, z37, z63, z72, z79) ∧ g.2.2.1 = true := by
  have b0 := bn48 z48 yok48
  have m0 : ms48 z48 ≤ 1000 := by decide
  have b1 := bn57 z57 yok57
  have m1 : ms57 z57 ≤ 1000 := by decide
  have b3 := bn37 z37 yok37
  have m3 : ms37 z37 ≤ 1000 := by decide
  have b4 := bn63 z63 yok63
  have m4 : ms63 z63 ≤ 1000 := by decide
  have b5 := bn72 z72 yok72
  have m5 : ms72 z72 ≤ 1000 := by decide
  have b6 := bn79 z79 yok79
  have m6 : ms79 z79 ≤ 1000 := by decide
  refine ⟨(decide (1 + (en48 z48).length ≤ 60000), decide (1 + (en57 z57).length ≤ 60000), true, decide (1 + (en37 z37).length ≤ 60000), decide (1 + (en63 z63).length ≤ 60000), decide (1 + (en72 z72).length ≤ 60000), decide (1 + (en79 z79).length ≤ 65545)), ⟨⟨yok48, yok57, hx, yok37, yok63, yok72, yok79⟩, ⟨by simp only; omega, by simp only; omega, by simp only; omega, by simp only; omega, by simp only; omega, by simp only; omega, by simp only; omega⟩, ⟨rfl, rfl, (decide_eq_true (by simp only; omega)).symm, rfl, rfl, rfl, rfl⟩⟩, rfl⟩
theorem preZ3 {x : S37} (hx : ok37 x) (hl : (en37 x).length + 1 ≤ 60000) : ∃ g : G7, preP g (z48, z57, z28, x, z63, z72, z79) ∧ g.2.2.2.1 = true := by
  have b0 := bn48 z48 yok48
  have m0 : ms48 z48 ≤ 1000 := by decide
  have b1 := bn57 z57 yok57
  have m1 : ms57 z57 ≤ 1000 := by decide
  have b2 := bn28 z28 yok28
  have m2 : ms28 z28 ≤ 1000 := by decide
  have b4 := bn63 z63 yok63
  have m4 : ms63 z63 ≤ 1000 := by decide
  have b5 := bn72 z72 yok72
  have m5 : ms72 z72 ≤ 1000 := by decide
  have b6 := bn79 z79 yok79
  have m6 : ms79 z79 ≤ 1000 := by decide
  refine ⟨(decide (1 + (en48 z48).length ≤ 60000), decide (1 + (en57 z57).length ≤ 60000), decide (1 + (en28 z28).length ≤ 60000), true, decide (1 + (en63 z63).length ≤ 60000), decide (1 + (en72 z72).length ≤ 60000), decide (1 + (en79 z79).length ≤ 65545)), ⟨⟨yok48, yok57, yok28, hx, yok63, yok72, yok79⟩, ⟨by simp only; omega, by simp only; omega, by simp only; omega, by simp only; omega, by simp only; omega, by simp only; omega, by simp only; omega⟩, ⟨rfl, rfl, rfl, (decide_eq_true (by simp only; omega)).symm, rfl, rfl, rfl⟩⟩, rfl⟩
theorem preZ4 {x : S63} (hx : ok63 x) (hl : (en63 x).length + 1 ≤ 60000) : ∃ g : G7, preP g (z48, z57, z28, z37, x, z72, z79) ∧ g.2.2.2.2.1 = true := by
  have b0 := bn48 z48 yok48
  have m0 : ms48 z48 ≤ 1000 := by decide
  have b1 := bn57 z57 yok57
  have m1 : ms57 z57 ≤ 1000 := by decide
  have b2 := bn28 z28 yok28
  have m2 : ms28 z28 ≤ 1000 := by decide
  have b3 := bn37 z37 yok37
  have m3 : ms37 z37 ≤ 1000 := by decide
  have b5 := bn72 z72 yok72
  have m5 : ms72 z72 ≤ 1000 := by decide
  have b6 := bn79 z79 yok79
  have m6 : ms79 z79 ≤ 1000 := by decide
  refine ⟨(decide (1 + (en48 z48).length ≤ 60000), decide (1 + (en57 z57).length ≤ 60000), decide (1 + (en28 z28).length ≤ 60000), decide (1 + (en37 z37).length ≤ 60000), true, decide (1 + (en72 z72).length ≤ 60000), decide (1 + (en79 z79).length ≤ 65545)), ⟨⟨yok48, yok57, yok28, yok37, hx, yok72, yok79⟩, ⟨by simp only; omega, by simp only; omega, by simp only; omega, by simp only; omega, by simp only; omega, by simp only; omega, by simp only; omega⟩, ⟨rfl, rfl, rfl, rfl, (decide_eq_true (by simp only; omega)).symm, rfl, rfl⟩⟩, rfl⟩
theorem preZ5 {x : S72} (hx : ok72 x) (hl : (en72 x).length + 1 ≤ 60000) : ∃ g : G7, preP g (z48, z57, z28, z37, z63, x, z79) ∧ g.2.2.2.2.2.1 = true := by
  have b0 := bn48 z48 yok48
  have m0 : ms48 z48 ≤ 1000 := by decide
  have b1 := bn57 z57 yok57
  have m1 : ms57 z57 ≤ 1000 := by decide
  have b2 := bn28 z28 yok28
  have m2 : ms28 z28 ≤ 1000 := by decide
  have b3 := bn37 z37 yok37
  have m3 : ms37 z37 ≤ 1000 := by decide
  have b4 := bn63 z63 yok63
  have m4 : ms63 z63 ≤ 1000 := by decide
  have b6 := bn79 z79 yok79
  have m6 : ms79 z79 ≤ 1000 := by decide
  refine ⟨(decide (1 + (en48 z48).length ≤ 60000), decide (1 + (en57 z57).length ≤ 60000), decide (1 + (en28 z28).length ≤ 60000), decide (1 + (en37 z37).length ≤ 60000), decide (1 + (en63 z63).length ≤ 60000), true, decide (1 + (en79 z79).length ≤ 65545)), ⟨⟨yok48, yok57, yok28, yok37, yok63, hx, yok79⟩, ⟨by simp only; omega, by simp only; omega, by simp only; omega, by simp only; omega, by simp only; omega, by simp only; omega, by simp only; omega⟩, ⟨rfl, rfl, rfl, rfl, rfl, (decide_eq_true (by simp only; omega)).symm, rfl⟩⟩, rfl⟩
theorem preZ6 {x : S79} (hx : ok79 x) (hl : (en79 x).length + 1 ≤ 65545) : ∃ g : G7, preP g (z48, z57, z28, z37, z63, z72, x) ∧ g.2.2.2.2.2.2 = true := by
  have b0 := bn48 z48 yok48
  have m0 : ms48 z48 ≤ 1000 := by decide
  have b1 := bn57 z57 yok57
  have m1 : ms57 z57 ≤ 1000 := by decide
  have b2 := bn28 z28 yok28
  have m2 : ms28 z28 ≤ 1000 := by decide
  have b3 := bn37 z37 yok37
  have m3 : ms37 z37 ≤ 1000 := by decide
  have b4 := bn63 z63 yok63
  have m4 : ms63 z63 ≤ 1000 := by decide
  have b5 := bn72 z72 yok72
  have m5 : ms72 z72 ≤ 1000 := by decide
  refine ⟨(decide (1 + (en48 z48).length ≤ 60000), decide (1 + (en57 z57).length ≤ 60000), decide (1 + (en28 z28).length ≤ 60000), decide (1 + (en37 z37).length ≤ 60000), decide (1 + (en63 z63).length ≤ 60000), decide (1 + (en72 z72).length ≤ 60000), true), ⟨⟨yok48, yok57, yok28, yok37, yok63, yok72, hx⟩, ⟨by simp only; omega, by simp only; omega, by simp only; omega, by simp only; omega, by simp only; omega, by simp only; omega, by simp only; omega⟩, ⟨rfl, rfl, rfl, rfl, rfl, rfl, (decide_eq_true (by simp only; omega)).symm⟩⟩, rfl⟩
theorem byte_wrap6 (x : Int) : PV.int .u8 (IntKind.u8.wrap x) = bv (UInt8.ofNat (IntKind.u8.wrap x).toNat) := by
  have h : 0 ≤ IntKind.u8.wrap x ∧ IntKind.u8.wrap x < 256 := by rw [IntKind.wrap_u8]; omega
  unfold bv
  congr 1
  simp
  omega
theorem oT_zero {X : Type} (kd : UInt8) (enc : X → List UInt8) (g : Bool) (x : X) : (((bl (oT kd enc g x)).length : Int) == 0) = !g := by
  cases g
  · rfl
  · simp only [oT, bl_length, List.length_cons]
    exact beq_eq_false_iff_ne.2 (by omega)
theorem cut_take6 (l : List UInt8) (m : Nat) : PV.sl 1 (bl (l.take m)) = PV.sl 1 (((bl l).take ((m : Int)).toNat).drop (Int.toNat 0)) := by
  rw [Int.toNat_natCast, Int.toNat_zero, List.drop_zero]
  exact congrArg (PV.sl 1) (List.map_take ..)
theorem pick_eq {n j : Nat} {e J : Int} (hJ : J = (j : Int)) (h : e = if n = j then 0 else 60) : (!((e == 0) == (((n : Nat) : Int) == J))) = false := by
  subst hJ
  by_cases hn : n = j
  · subst hn
    rw [if_pos rfl] at h
    subst h
    simp
  · rw [if_neg hn] at h
    subst h
    have : (((n : Nat) : Int) == ((j : Nat) : Int)) = false := beq_eq_false_iff_ne.2 (by omega)
    rw [this]
    rfl
def gBk : List (FuncId × Ctr) := (34, cGets) :: (31, cPuts) :: (33, cLike) :: (gAwake ++ gLow)
theorem gBk_ok : GamOk Tryz.prog gBk := GamOk.cons (GamOk.cons (GamOk.cons (GamOk.app gAwake_ok gLow_ok) Tryz.func33 (by kernel_rfl) (by kernel_rfl) like_sound) Tryz.func31 (by kernel_rfl) (by kernel_rfl) puts_sound) Tryz.func34 (by kernel_rfl) (by kernel_rfl) gets_sound
theorem prePick' (x : S84) (h : ok84 x) (hb : ms84 x ≤ 1048576) : ∃ g : G7, preP g x := by
  have hk := h
  obtain ⟨k0, k1, k2, k3, k4, k5, k6⟩ := h
  simp only [ms84] at hb
  have b0 := bn48 _ k0
  have b1 := bn57 _ k1
  have b2 := bn28 _ k2
  have b3 := bn37 _ k3
  have b4 := bn63 _ k4
  have b5 := bn72 _ k5
  have b6 := bn79 _ k6
  exact ⟨(decide (1 + (en48 x.1).length ≤ 60000), decide (1 + (en57 x.2.1).length ≤ 60000), decide (1 + (en28 x.2.2.1).length ≤ 60000), decide (1 + (en37 x.2.2.2.1).length ≤ 60000), decide (1 + (en63 x.2.2.2.2.1).length ≤ 60000), decide (1 + (en72 x.2.2.2.2.2.1).length ≤ 60000), decide (1 + (en79 x.2.2.2.2.2.2).length ≤ 65545)), hk, ⟨by omega, by omega, by omega, by omega, by omega, by omega, by omega⟩, ⟨rfl, rfl, rfl, rfl, rfl, rfl, rfl⟩⟩
theorem WireBack_does : Does gBk tab Tryz.f6 lawWireBackU := by
  rintro ⟨x, b, cut⟩ ⟨ox, ob, hcut, hb⟩
  simp only at hb ox
  have hcut := wf_i64 hcut
  simp only at hcut
  obtain ⟨hc1, hc2⟩ : -9223372036854775808 ≤ cut ∧ cut ≤ 9223372036854775807 := hcut
  have hbl := bl_length b
  obtain ⟨g, hg⟩ := prePick' x ox (by omega)
  obtain ⟨g0, g1, g2, g3, g4, g5, g6⟩ := g
  obtain ⟨x0, x1, x2, x3, x4, x5, x6⟩ := x
  obtain ⟨hk0, hk1, hk2, hk3, hk4, hk5, hk6⟩ := ox
  have ox : ok84 (x0, x1, x2, x3, x4, x5, x6) := ⟨hk0, hk1, hk2, hk3, hk4, hk5, hk6⟩
  have hg' := hg
  obtain ⟨-, -, he0, he1, he2, he3, he4, he5, he6⟩ := hg'
  conv => whnf
  refine dI (k := ?_)
  conv => whnf
  refine ⟨((g0, g1, g2, g3, g4, g5, g6), (x0, x1, x2, x3, x4, x5, x6)), ?_⟩
  conv => whnf
  refine And.intro (by simp only [allP, List.nil_append, List.cons_append, true_and]; repeat' (first | exact hg | rfl | refine And.intro ?_ ?_)) ?_
  conv => whnf
  refine dI (k := ?_)
  conv => whnf
  rw [hbl]
  by_cases h70 : 70000 < b.length
  · rw [decide_eq_true (show ((b.length : Nat) : Int) > 70000 by omega)]
    (set_option smartUnfolding false in conv => whnf)
    refine ⟨(), ?_⟩
    conv => whnf
    refine And.intro (by simp only [allP, List.nil_append, List.cons_append, true_and]; skip) ?_
    (set_option smartUnfolding false in conv => whnf)
    first | done | (and_intros <;> first | rfl | exact trivial)
  rw [decide_eq_false (show ¬ ((b.length : Nat) : Int) > 70000 by omega)]
  conv => whnf
  refine ⟨{i : Nat // i ≤ 7}, fun i => ⟨[(1, .p false (.sl 1 (bl b))), (2, isI .i64 cut), (3, .ptr 0 0), (7, .ptr 1 0), (9, isI .i64 (i.1 : Nat))], [(0, .box ((pv84 (x0, x1, x2, x3, x4, x5, x6)).map avOf)), (1, .box [.p true (.sl 1 (bl (oT 1 en48 g0 x0))), .p true (.sl 1 (bl (oT 2 en57 g1 x1))), .p true (.sl 1 (bl (oT 3 en28 g2 x2))), .p true (.sl 1 (bl (oT 4 en37 g3 x3))), .p true (.sl 1 (bl (oT 5 en63 g4 x4))), .p true (.sl 1 (bl (oT 6 en72 g5 x5))), .p true (.sl 1 (bl (oT 7 en79 g6 x6)))])], 99⟩, fun i => 7 - i.1, ⟨⟨0, by omega⟩, ?_⟩, ?_⟩
  · conv => whnf
    and_intros <;> first | rfl | exact trivial
  rintro ⟨i, hi⟩
  obtain rfl | rfl | rfl | rfl | rfl | rfl | rfl | rfl : i = 0 ∨ i = 1 ∨ i = 2 ∨ i = 3 ∨ i = 4 ∨ i = 5 ∨ i = 6 ∨ i = 7 := by omega
  · show aw _ _ _ _ _ _ ⟨[(1, .p false (.sl 1 (bl b))), (2, isI .i64 cut), (3, .ptr 0 0), (7, .ptr 1 0), (9, isI .i64 0)], [(0, .box ((pv84 (x0, x1, x2, x3, x4, x5, x6)).map avOf)), (1, .box [.p true (.sl 1 (bl (oT 1 en48 g0 x0))), .p true (.sl 1 (bl (oT 2 en57 g1 x1))), .p true (.sl 1 (bl (oT 3 en28 g2 x2))), .p true (.sl 1 (bl (oT 4 en37 g3 x3))), .p true (.sl 1 (bl (oT 5 en63 g4 x4))), .p true (.sl 1 (bl (oT 6 en72 g5 x5))), .p true (.sl 1 (bl (oT 7 en79 g6 x6)))])], 99⟩
    (set_option smartUnfolding false in conv => whnf)
    refine dI (k := ?_)
    (set_option smartUnfolding false in conv => whnf)
    rw [oT_zero]
    cases g0
    · (set_option smartUnfolding false in conv => whnf)
      refine ⟨⟨1, by omega⟩, by simp only; omega, ?_⟩
      (set_option smartUnfolding false in conv => whnf)
      first | done | (and_intros <;> first | rfl | exact trivial)
    · have hl : (en48 x0).length + 1 ≤ 60000 := by have := of_decide_eq_true he0.symm; simp only at this; omega
      have hG := gGet_put rt48 1 60000 z48 x0 hk0 hl
      have hel : (bl (oT 1 en48 true x0)).length = (1 :: en48 x0).length := bl_length _
      have hln : (1 :: en48 x0).length = (en48 x0).length + 1 := List.length_cons
      obtain ⟨hp1, hp2⟩ := pickV_bd (x := cut) (n := 7) (by omega)
      obtain ⟨n, hn⟩ : ∃ n : Nat, pickV cut 7 = (n : Int) := ⟨(pickV cut 7).toNat, by omega⟩
      have hn7 : n < 7 := by omega
      have hE := erG_put0 hk0 hl n hn7
      (set_option smartUnfolding false in conv => whnf)
      refine dI (k := ?_)
      (set_option smartUnfolding false in conv => whnf)
      obtain ⟨Y, hY⟩ : ∃ y, y = (x0, z57, z28, z37, z63, z72, z79) := ⟨_, rfl⟩
      have hPE : partEq 0 (x0, x1, x2, x3, x4, x5, x6) Y := by rw [hY]; rfl
      refine ⟨(⟨0, by decide⟩, (1 :: en48 x0), Y, 0), ?_⟩
      conv => whnf
      refine And.intro (by simp only [allP, List.nil_append, List.cons_append, true_and]; exact ⟨rfl, rfl, hY.trans (by rw [show thG 0 (1 :: en48 x0) = ((gGet gt48 1 60000 z48 (1 :: en48 x0)).1, z57, z28, z37, z63, z72, z79) from rfl, hG]), by rw [show erG 0 (1 :: en48 x0) = (gGet gt48 1 60000 z48 (1 :: en48 x0)).2 from rfl, hG]⟩) ?_
      (set_option smartUnfolding false in conv => whnf)
      refine dI (k := ?_)
      (set_option smartUnfolding false in conv => whnf)
      refine ⟨(cut, 7), ?_⟩
      conv => whnf
      refine And.intro (by simp only [allP, List.nil_append, List.cons_append, true_and]; exact ⟨rfl, rfl, hc1, hc2, by decide, by decide⟩) ?_
      (set_option smartUnfolding false in conv => whnf)
      rw [hn]
      refine dI (k := ?_)
      (set_option smartUnfolding false in conv => whnf)
      obtain ⟨fy, hfy⟩ : ∃ y, y = thG n (1 :: en48 x0) := ⟨_, rfl⟩
      obtain ⟨fe, hfe⟩ : ∃ y, y = erG n (1 :: en48 x0) := ⟨_, rfl⟩
      have hfe2 := hfe
      rw [hE] at hfe2
      refine ⟨(⟨n, hn7⟩, (1 :: en48 x0), fy, fe), ?_⟩
      conv => whnf
      refine And.intro (by simp only [allP, List.nil_append, List.cons_append, true_and]; exact ⟨rfl, rfl, hfy, hfe⟩) ?_
      (set_option smartUnfolding false in conv => whnf)
      refine dI (k := ?_)
      (set_option smartUnfolding false in conv => whnf)
      refine ⟨by rfl, ?_⟩
      (set_option smartUnfolding false in conv => whnf)
      refine dI (k := ?_)
      (set_option smartUnfolding false in conv => whnf)
      refine dI (k := ?_)
      (set_option smartUnfolding false in conv => whnf)
      rw [hel]
      refine ⟨(cut, (((1 :: en48 x0).length : Nat) : Int)), ?_⟩
      conv => whnf
      refine And.intro (by simp only [allP, List.nil_append, List.cons_append, true_and]; exact ⟨rfl, rfl, hc1, hc2, by omega, by omega⟩) ?_
      (set_option smartUnfolding false in conv => whnf)
      obtain ⟨hq1, hq2⟩ := pickV_bd (x := cut) (n := (((1 :: en48 x0).length : Nat) : Int)) (by omega)
      generalize pickV cut (((1 :: en48 x0).length : Nat) : Int) = pv at hq1 hq2 ⊢
      obtain ⟨m, rfl⟩ : ∃ m : Nat, pv = (m : Int) := ⟨pv.toNat, by omega⟩
      have hm : m < (1 :: en48 x0).length := by omega
      refine And.intro (by simp only [allP, List.nil_append, List.cons_append, true_and]; rw [hel]; omega) ?_
      (set_option smartUnfolding false in conv => whnf)
      obtain ⟨Y2, hY2⟩ : ∃ y, y = thG 0 ((1 :: en48 x0).take m) := ⟨_, rfl⟩
      refine ⟨(⟨0, by decide⟩, (1 :: en48 x0).take m, Y2, 60), ?_⟩
      conv => whnf
      refine And.intro (by simp only [allP, List.nil_append, List.cons_append, true_and]; exact ⟨rfl, cut_take6 (1 :: en48 x0) m, hY2, by rw [show erG 0 ((1 :: en48 x0).take m) = (gGet gt48 1 60000 z48 ((1 :: en48 x0).take m)).2 from rfl, gGet_cut rt48 1 (by decide) z48 hk0 hm]⟩) ?_
      (set_option smartUnfolding false in conv => whnf)
      refine dI (k := ?_)
      (set_option smartUnfolding false in conv => whnf)
      refine ⟨by rfl, ?_⟩
      (set_option smartUnfolding false in conv => whnf)
      refine dI (k := ?_)
      (set_option smartUnfolding false in conv => whnf)
      refine ⟨(1 :: en48 x0), ?_⟩
      conv => whnf
      refine And.intro (by simp only [allP, List.nil_append, List.cons_append, true_and]; exact ⟨rfl, by omega⟩) ?_
      (set_option smartUnfolding false in conv => whnf)
      rw [byte_wrap6 cut]
      generalize UInt8.ofNat (IntKind.u8.wrap cut).toNat = c
      have hel2 : (bl (1 :: en48 x0)).length = (1 :: en48 x0).length := bl_length _
      refine And.intro (by simp only [allP, List.nil_append, List.cons_append, true_and]; rw [hel2]; simp only [List.length_cons, List.length_nil]; omega) ?_
      (set_option smartUnfolding false in conv => whnf)
      obtain ⟨Y3, hY3⟩ : ∃ y, y = thG 0 (1 :: (en48 x0 ++ [c])) := ⟨_, rfl⟩
      have hE3 : (60 : Int) = erG 0 (1 :: (en48 x0 ++ [c])) := (congrArg Prod.snd (gGet_more rt48 1 (by decide) z48 hk0 c)).symm
      have hB3 : PV.sl 1 (bl (1 :: (en48 x0 ++ [c]))) = PV.sl 1 (bl (1 :: en48 x0) ++ [bv c]) := congrArg (PV.sl 1) (bl_append (1 :: en48 x0) [c])
      refine ⟨(⟨0, by decide⟩, 1 :: (en48 x0 ++ [c]), Y3, 60), ?_⟩
      conv => whnf
      refine And.intro (by simp only [allP, List.nil_append, List.cons_append, true_and]; exact ⟨rfl, hB3, hY3, hE3⟩) ?_
      (set_option smartUnfolding false in conv => whnf)
      refine dI (k := ?_)
      (set_option smartUnfolding false in conv => whnf)
      refine dI (k := ?_)
      (set_option smartUnfolding false in conv => whnf)
      refine dI (k := ?_)
      (set_option smartUnfolding false in conv => whnf)
      refine ⟨(true, ⟨0, by decide⟩, (x0, x1, x2, x3, x4, x5, x6), Y), ?_⟩
      conv => whnf
      refine And.intro (by simp only [allP, List.nil_append, List.cons_append, true_and]; repeat' (first | exact iff_of_true rfl hPE | exact iff_of_true trivial hPE | exact ox | exact trivial | rfl | refine And.intro ?_ ?_)) ?_
      (set_option smartUnfolding false in conv => whnf)
      refine ⟨(cut, 7), ?_⟩
      conv => whnf
      refine And.intro (by simp only [allP, List.nil_append, List.cons_append, true_and]; exact ⟨rfl, rfl, hc1, hc2, by decide, by decide⟩) ?_
      (set_option smartUnfolding false in conv => whnf)
      rw [hn, pick_eq (J := 0) rfl hfe2]
      (set_option smartUnfolding false in conv => whnf)
      refine ⟨⟨1, by omega⟩, by simp only; omega, ?_⟩
      (set_option smartUnfolding false in conv => whnf)
      first | done | (and_intros <;> first | rfl | exact trivial)
  · show aw _ _ _ _ _ _ ⟨[(1, .p false (.sl 1 (bl b))), (2, isI .i64 cut), (3, .ptr 0 0), (7, .ptr 1 0), (9, isI .i64 1)], [(0, .box ((pv84 (x0, x1, x2, x3, x4, x5, x6)).map avOf)), (1, .box [.p true (.sl 1 (bl (oT 1 en48 g0 x0))), .p true (.sl 1 (bl (oT 2 en57 g1 x1))), .p true (.sl 1 (bl (oT 3 en28 g2 x2))), .p true (.sl 1 (bl (oT 4 en37 g3 x3))), .p true (.sl 1 (bl (oT 5 en63 g4 x4))), .p true (.sl 1 (bl (oT 6 en72 g5 x5))), .p true (.sl 1 (bl (oT 7 en79 g6 x6)))])], 99⟩
    (set_option smartUnfolding false in conv => whnf)
    refine dI (k := ?_)
    (set_option smartUnfolding false in conv => whnf)
    rw [oT_zero]
    cases g1
    · (set_option smartUnfolding false in conv => whnf)
      refine ⟨⟨2, by omega⟩, by simp only; omega, ?_⟩
      (set_option smartUnfolding false in conv => whnf)
      first | done | (and_intros <;> first | rfl | exact trivial)
    · have hl : (en57 x1).length + 1 ≤ 60000 := by have := of_decide_eq_true he1.symm; simp only at this; omega
      have hG := gGet_put rt57 2 60000 z57 x1 hk1 hl
      have hel : (bl (oT 2 en57 true x1)).length = (2 :: en57 x1).length := bl_length _
      have hln : (2 :: en57 x1).length = (en57 x1).length + 1 := List.length_cons
      obtain ⟨hp1, hp2⟩ := pickV_bd (x := cut) (n := 7) (by omega)
      obtain ⟨n, hn⟩ : ∃ n : Nat, pickV cut 7 = (n : Int) := ⟨(pickV cut 7).toNat, by omega⟩
      have hn7 : n < 7 := by omega
      have hE := erG_put1 hk1 hl n hn7
      (set_option smartUnfolding false in conv => whnf)
      refine dI (k := ?_)
      (set_option smartUnfolding false in conv => whnf)
      obtain ⟨Y, hY⟩ : ∃ y, y = (z48, x1, z28, z37, z63, z72, z79) := ⟨_, rfl⟩
      have hPE : partEq 1 (x0, x1, x2, x3, x4, x5, x6) Y := by rw [hY]; rfl
      refine ⟨(⟨1, by decide⟩, (2 :: en57 x1), Y, 0), ?_⟩
      conv => whnf
      refine And.intro (by simp only [allP, List.nil_append, List.cons_append, true_and]; exact ⟨rfl, rfl, hY.trans (by rw [show thG 1 (2 :: en57 x1) = (z48, (gGet gt57 2 60000 z57 (2 :: en57 x1)).1, z28, z37, z63, z72, z79) from rfl, hG]), by rw [show erG 1 (2 :: en57 x1) = (gGet gt57 2 60000 z57 (2 :: en57 x1)).2 from rfl, hG]⟩) ?_
      (set_option smartUnfolding false in conv => whnf)
      refine dI (k := ?_)
      (set_option smartUnfolding false in conv => whnf)
      refine ⟨(cut, 7), ?_⟩
      conv => whnf
      refine And.intro (by simp only [allP, List.nil_append, List.cons_append, true_and]; exact ⟨rfl, rfl, hc1, hc2, by decide, by decide⟩) ?_
      (set_option smartUnfolding false in conv => whnf)
      rw [hn]
      refine dI (k := ?_)
      (set_option smartUnfolding false in conv => whnf)
      obtain ⟨fy, hfy⟩ : ∃ y, y = thG n (2 :: en57 x1) := ⟨_, rfl⟩
      obtain ⟨fe, hfe⟩ : ∃ y, y = erG n (2 :: en57 x1) := ⟨_, rfl⟩
      have hfe2 := hfe
      rw [hE] at hfe2
      refine ⟨(⟨n, hn7⟩, (2 :: en57 x1), fy, fe), ?_⟩
      conv => whnf
      refine And.intro (by simp only [allP, List.nil_append, List.cons_append, true_and]; exact ⟨rfl, rfl, hfy, hfe⟩) ?_
      (set_option smartUnfolding false in conv => whnf)
      refine dI (k := ?_)
      (set_option smartUnfolding false in conv => whnf)
      refine ⟨by rfl, ?_⟩
      (set_option smartUnfolding false in conv => whnf)
      refine dI (k := ?_)
      (set_option smartUnfolding false in conv => whnf)
      refine dI (k := ?_)
      (set_option smartUnfolding false in conv => whnf)
      rw [hel]
      refine ⟨(cut, (((2 :: en57 x1).length : Nat) : Int)), ?_⟩
      conv => whnf
      refine And.intro (by simp only [allP, List.nil_append, List.cons_append, true_and]; exact ⟨rfl, rfl, hc1, hc2, by omega, by omega⟩) ?_
      (set_option smartUnfolding false in conv => whnf)
      obtain ⟨hq1, hq2⟩ := pickV_bd (x := cut) (n := (((2 :: en57 x1).length : Nat) : Int)) (by omega)
      generalize pickV cut (((2 :: en57 x1).length : Nat) : Int) = pv at hq1 hq2 ⊢
      obtain ⟨m, rfl⟩ : ∃ m : Nat, pv = (m : Int) := ⟨pv.toNat, by omega⟩
      have hm : m < (2 :: en57 x1).length := by omega
      refine And.intro (by simp only [allP, List.nil_append, List.cons_append, true_and]; rw [hel]; omega) ?_
      (set_option smartUnfolding false in conv => whnf)
      obtain ⟨Y2, hY2⟩ : ∃ y, y = thG 1 ((2 :: en57 x1).take m) := ⟨_, rfl⟩
      refine ⟨(⟨1, by decide⟩, (2 :: en57 x1).take m, Y2, 60), ?_⟩
      conv => whnf
      refine And.intro (by simp only [allP, List.nil_append, List.cons_append, true_and]; exact ⟨rfl, cut_take6 (2 :: en57 x1) m, hY2, by rw [show erG 1 ((2 :: en57 x1).take m) = (gGet gt57 2 60000 z57 ((2 :: en57 x1).take m)).2 from rfl, gGet_cut rt57 2 (by decide) z57 hk1 hm]⟩) ?_
      (set_option smartUnfolding false in conv => whnf)
      refine dI (k := ?_)
      (set_option smartUnfolding false in conv => whnf)
      refine ⟨by rfl, ?_⟩
      (set_option smartUnfolding false in conv => whnf)
      refine dI (k := ?_)
      (set_option smartUnfolding false in conv => whnf)
      refine ⟨(2 :: en57 x1), ?_⟩
      conv => whnf
      refine And.intro (by simp only [allP, List.nil_append, List.cons_append, true_and]; exact ⟨rfl, by omega⟩) ?_
      (set_option smartUnfolding false in conv => whnf)
      rw [byte_wrap6 cut]
      generalize UInt8.ofNat (IntKind.u8.wrap cut).toNat = c
      have hel2 : (bl (2 :: en57 x1)).length = (2 :: en57 x1).length := bl_length _
      refine And.intro (by simp only [allP, List.nil_append, List.cons_append, true_and]; rw [hel2]; simp only [List.length_cons, List.length_nil]; omega) ?_
      (set_option smartUnfolding false in conv => whnf)
      obtain ⟨Y3, hY3⟩ : ∃ y, y = thG 1 (2 :: (en57 x1 ++ [c])) := ⟨_, rfl⟩
      have hE3 : (60 : Int) = erG 1 (2 :: (en57 x1 ++ [c])) := (congrArg Prod.snd (gGet_more rt57 2 (by decide) z57 hk1 c)).symm
      have hB3 : PV.sl 1 (bl (2 :: (en57 x1 ++ [c]))) = PV.sl 1 (bl (2 :: en57 x1) ++ [bv c]) := congrArg (PV.sl 1) (bl_append (2 :: en57 x1) [c])
      refine ⟨(⟨1, by decide⟩, 2 :: (en57 x1 ++ [c]), Y3, 60), ?_⟩
      conv => whnf
      refine And.intro (by simp only [allP, List.nil_append, List.cons_append, true_and]; exact ⟨rfl, hB3, hY3, hE3⟩) ?_
      (set_option smartUnfolding false in conv => whnf)
      refine dI (k := ?_)
      (set_option smartUnfolding false in conv => whnf)
      refine dI (k := ?_)
      (set_option smartUnfolding false in conv => whnf)
      refine dI (k := ?_)
      (set_option smartUnfolding false in conv => whnf)
      refine ⟨(true, ⟨1, by decide⟩, (x0, x1, x2, x3, x4, x5, x6), Y), ?_⟩
      conv => whnf
      refine And.intro (by simp only [allP, List.nil_append, List.cons_append, true_and]; repeat' (first | exact iff_of_true rfl hPE | exact iff_of_true trivial hPE | exact ox | exact trivial | rfl | refine And.intro ?_ ?_)) ?_
      (set_option smartUnfolding false in conv => whnf)
      refine ⟨(cut, 7), ?_⟩
      conv => whnf
      refine And.intro (by simp only [allP, List.nil_append, List.cons_append, true_and]; exact ⟨rfl, rfl, hc1, hc2, by decide, by decide⟩) ?_
      (set_option smartUnfolding false in conv => whnf)
      rw [hn, pick_eq (J := 1) rfl hfe2]
      (set_option smartUnfolding false in conv => whnf)
      refine ⟨⟨2, by omega⟩, by simp only; omega, ?_⟩
      (set_option smartUnfolding false in conv => whnf)
      first | done | (and_intros <;> first | rfl | exact trivial)
  · show aw _ _ _ _ _ _ ⟨[(1, .p false (.sl 1 (bl b))), (2, isI .i64 cut), (3, .ptr 0 0), (7, .ptr 1 0), (9, isI .i64 2)], [(0, .box ((pv84 (x0, x1, x2, x3, x4, x5, x6)).map avOf)), (1, .box [.p true (.sl 1 (bl (oT 1 en48 g0 x0))), .p true (.sl 1 (bl (oT 2 en57 g1 x1))), .p true (.sl 1 (bl (oT 3 en28 g2 x2))), .p true (.sl 1 (bl (oT 4 en37 g3 x3))), .p true (.sl 1 (bl (oT 5 en63 g4 x4))), .p true (.sl 1 (bl (oT 6 en72 g5 x5))), .p true (.sl 1 (bl (oT 7 en79 g6 x6)))])], 99⟩
    (set_option smartUnfolding false in conv => whnf)
    refine dI (k := ?_)
    (set_option smartUnfolding false in conv => whnf)
    rw [oT_zero]
    cases g2
    · (set_option smartUnfolding false in conv => whnf)
      refine ⟨⟨3, by omega⟩, by simp only; omega, ?_⟩
      (set_option smartUnfolding false in conv => whnf)
      first | done | (and_intros <;> first | rfl | exact trivial)
    · have hl : (en28 x2).length + 1 ≤ 60000 := by have := of_decide_eq_true he2.symm; simp only at this; omega
      have hG := gGet_put rt28 3 60000 z28 x2 hk2 hl
      have hel : (bl (oT 3 en28 true x2)).length = (3 :: en28 x2).length := bl_length _
      have hln : (3 :: en28 x2).length = (en28 x2).length + 1 := List.length_cons
      obtain ⟨hp1, hp2⟩ := pickV_bd (x := cut) (n := 7) (by omega)
      obtain ⟨n, hn⟩ : ∃ n : Nat, pickV cut 7 = (n : Int) := ⟨(pickV cut 7).toNat, by omega⟩
      have hn7 : n < 7 := by omega
      have hE := erG_put2 hk2 hl n hn7
      (set_option smartUnfolding false in conv => whnf)
      refine dI (k := ?_)
      (set_option smartUnfolding false in conv => whnf)
      obtain ⟨Y, hY⟩ : ∃ y, y = (z48, z57, x2, z37, z63, z72, z79) := ⟨_, rfl⟩
      have hPE : partEq 2 (x0, x1, x2, x3, x4, x5, x6) Y := by rw [hY]; rfl
      refine ⟨(⟨2, by decide⟩, (3 :: en28 x2), Y, 0), ?_⟩
      conv => whnf
      refine And.intro (by simp only [allP, List.nil_append, List.cons_append, true_and]; exact ⟨rfl, rfl, hY.trans (by rw [show thG 2 (3 :: en28 x2) = (z48, z57, (gGet gt28 3 60000 z28 (3 :: en28 x2)).1, z37, z63, z72, z79) from rfl, hG]), by rw [show erG 2 (3 :: en28 x2) = (gGet gt28 3 60000 z28 (3 :: en28 x2)).2 from rfl, hG]⟩) ?_
      (set_option smartUnfolding false in conv => whnf)
      refine dI (k := ?_)
      (set_option smartUnfolding false in conv => whnf)
      refine ⟨(cut, 7), ?_⟩
      conv => whnf
      refine And.intro (by simp only [allP, List.nil_append, List.cons_append, true_and]; exact ⟨rfl, rfl, hc1, hc2, by decide, by decide⟩) ?_
      (set_option smartUnfolding false in conv => whnf)
      rw [hn]
      refine dI (k := ?_)
      (set_option smartUnfolding false in conv => whnf)
      obtain ⟨fy, hfy⟩ : ∃ y, y = thG n (3 :: en28 x2) := ⟨_, rfl⟩
      obtain ⟨fe, hfe⟩ : ∃ y, y = erG n (3 :: en28 x2) := ⟨_, rfl⟩
      have hfe2 := hfe
      rw [hE] at hfe2
      refine ⟨(⟨n, hn7⟩, (3 :: en28 x2), fy, fe), ?_⟩
      conv => whnf
      refine And.intro (by simp only [allP, List.nil_append, List.cons_append, true_and]; exact ⟨rfl, rfl, hfy, hfe⟩) ?_
      (set_option smartUnfolding false in conv => whnf)
      refine dI (k := ?_)
      (set_option smartUnfolding false in conv => whnf)
      refine ⟨by rfl, ?_⟩
      (set_option smartUnfolding false in conv => whnf)
      refine dI (k := ?_)
      (set_option smartUnfolding false in conv => whnf)
      refine dI (k := ?_)
      (set_option smartUnfolding false in conv => whnf)
      rw [hel]
      refine ⟨(cut, (((3 :: en28 x2).length : Nat) : Int)), ?_⟩
      conv => whnf
      refine And.intro (by simp only [allP, List.nil_append, List.cons_append, true_and]; exact ⟨rfl, rfl, hc1, hc2, by omega, by omega⟩) ?_
      (set_option smartUnfolding false in conv => whnf)
      obtain ⟨hq1, hq2⟩ := pickV_bd (x := cut) (n := (((3 :: en28 x2).length : Nat) : Int)) (by omega)
      generalize pickV cut (((3 :: en28 x2).length : Nat) : Int) = pv at hq1 hq2 ⊢
      obtain ⟨m, rfl⟩ : ∃ m : Nat, pv = (m : Int) := ⟨pv.toNat, by omega⟩
      have hm : m < (3 :: en28 x2).length := by omega
      refine And.intro (by simp only [allP, List.nil_append, List.cons_append, true_and]; rw [hel]; omega) ?_
      (set_option smartUnfolding false in conv => whnf)
      obtain ⟨Y2, hY2⟩ : ∃ y, y = thG 2 ((3 :: en28 x2).take m) := ⟨_, rfl⟩
      refine ⟨(⟨2, by decide⟩, (3 :: en28 x2).take m, Y2, 60), ?_⟩
      conv => whnf
      refine And.intro (by simp only [allP, List.nil_append, List.cons_append, true_and]; exact ⟨rfl, cut_take6 (3 :: en28 x2) m, hY2, by rw [show erG 2 ((3 :: en28 x2).take m) = (gGet gt28 3 60000 z28 ((3 :: en28 x2).take m)).2 from rfl, gGet_cut rt28 3 (by decide) z28 hk2 hm]⟩) ?_
      (set_option smartUnfolding false in conv => whnf)
      refine dI (k := ?_)
      (set_option smartUnfolding false in conv => whnf)
      refine ⟨by rfl, ?_⟩
      (set_option smartUnfolding false in conv => whnf)
      refine dI (k := ?_)
      (set_option smartUnfolding false in conv => whnf)
      refine ⟨(3 :: en28 x2), ?_⟩
      conv => whnf
      refine And.intro (by simp only [allP, List.nil_append, List.cons_append, true_and]; exact ⟨rfl, by omega⟩) ?_
      (set_option smartUnfolding false in conv => whnf)
      rw [byte_wrap6 cut]
      generalize UInt8.ofNat (IntKind.u8.wrap cut).toNat = c
      have hel2 : (bl (3 :: en28 x2)).length = (3 :: en28 x2).length := bl_length _
      refine And.intro (by simp only [allP, List.nil_append, List.cons_append, true_and]; rw [hel2]; simp only [List.length_cons, List.length_nil]; omega) ?_
      (set_option smartUnfolding false in conv => whnf)
      obtain ⟨Y3, hY3⟩ : ∃ y, y = thG 2 (3 :: (en28 x2 ++ [c])) := ⟨_, rfl⟩
      have hE3 : (60 : Int) = erG 2 (3 :: (en28 x2 ++ [c])) := (congrArg Prod.snd (gGet_more rt28 3 (by decide) z28 hk2 c)).symm
      have hB3 : PV.sl 1 (bl (3 :: (en28 x2 ++ [c]))) = PV.sl 1 (bl (3 :: en28 x2) ++ [bv c]) := congrArg (PV.sl 1) (bl_append (3 :: en28 x2) [c])
      refine ⟨(⟨2, by decide⟩, 3 :: (en28 x2 ++ [c]), Y3, 60), ?_⟩
      conv => whnf
      refine And.intro (by simp only [allP, List.nil_append, List.cons_append, true_and]; exact ⟨rfl, hB3, hY3, hE3⟩) ?_
      (set_option smartUnfolding false in conv => whnf)
      refine dI (k := ?_)
      (set_option smartUnfolding false in conv => whnf)
      refine dI (k := ?_)
      (set_option smartUnfolding false in conv => whnf)
      refine dI (k := ?_)
      (set_option smartUnfolding false in conv => whnf)
      refine ⟨(true, ⟨2, by decide⟩, (x0, x1, x2, x3, x4, x5, x6), Y), ?_⟩
      conv => whnf
      refine And.intro (by simp only [allP, List.nil_append, List.cons_append, true_and]; repeat' (first | exact iff_of_true rfl hPE | exact iff_of_true trivial hPE | exact ox | exact trivial | rfl | refine And.intro ?_ ?_)) ?_
      (set_option smartUnfolding false in conv => whnf)
      refine ⟨(cut, 7), ?_⟩
      conv => whnf
      refine And.intro (by simp only [allP, List.nil_append, List.cons_append, true_and]; exact ⟨rfl, rfl, hc1, hc2, by decide, by decide⟩) ?_
      (set_option smartUnfolding false in conv => whnf)
      rw [hn, pick_eq (J := 2) rfl hfe2]
      (set_option smartUnfolding false in conv => whnf)
      refine ⟨⟨3, by omega⟩, by simp only; omega, ?_⟩
      (set_option smartUnfolding false in conv => whnf)
      first | done | (and_intros <;> first | rfl | exact trivial)
  · show aw _ _ _ _ _ _ ⟨[(1, .p false (.sl 1 (bl b))), (2, isI .i64 cut), (3, .ptr 0 0), (7, .ptr 1 0), (9, isI .i64 3)], [(0, .box ((pv84 (x0, x1, x2, x3, x4, x5, x6)).map avOf)), (1, .box [.p true (.sl 1 (bl (oT 1 en48 g0 x0))), .p true (.sl 1 (bl (oT 2 en57 g1 x1))), .p true (.sl 1 (bl (oT 3 en28 g2 x2))), .p true (.sl 1 (bl (oT 4 en37 g3 x3))), .p true (.sl 1 (bl (oT 5 en63 g4 x4))), .p true (.sl 1 (bl (oT 6 en72 g5 x5))), .p true (.sl 1 (bl (oT 7 en79 g6 x6)))])], 99⟩
    (set_option smartUnfolding false in conv => whnf)
    refine dI (k := ?_)
    (set_option smartUnfolding false in conv => whnf)
    rw [oT_zero]
    cases g3
    · (set_option smartUnfolding false in conv => whnf)
      refine ⟨⟨4, by omega⟩, by simp only; omega, ?_⟩
      (set_option smartUnfolding false in conv => whnf)
      first | done | (and_intros <;> first | rfl | exact trivial)
    · have hl : (en37 x3).length + 1 ≤ 60000 := by have := of_decide_eq_true he3.symm; simp only at this; omega
      have hG := gGet_put rt37 4 60000 z37 x3 hk3 hl
      have hel : (bl (oT 4 en37 true x3)).length = (4 :: en37 x3).length := bl_length _
      have hln : (4 :: en37 x3).length = (en37 x3).length + 1 := List.length_cons
      obtain ⟨hp1, hp2⟩ := pickV_bd (x := cut) (n := 7) (by omega)
      obtain ⟨n, hn⟩ : ∃ n : Nat, pickV cut 7 = (n : Int) := ⟨(pickV cut 7).toNat, by omega⟩
      have hn7 : n < 7 := by omega
      have hE := erG_put3 hk3 hl n hn7
      (set_option smartUnfolding false in conv => whnf)
      refine dI (k := ?_)
      (set_option smartUnfolding false in conv => whnf)
      obtain ⟨Y, hY⟩ : ∃ y, y = (z48, z57, z28, x3, z63, z72, z79) := ⟨_, rfl⟩
      have hPE : partEq 3 (x0, x1, x2, x3, x4, x5, x6) Y := by rw [hY]; rfl
      refine ⟨(⟨3, by decide⟩, (4 :: en37 x3), Y, 0), ?_⟩
      conv => whnf
      refine And.intro (by simp only [allP, List.nil_append, List.cons_append, true_and]; exact ⟨rfl, rfl, hY.trans (by rw [show thG 3 (4 :: en37 x3) = (z48, z57, z28, (gGet gt37 4 60000 z37 (4 :: en37 x3)).1, z63, z72, z79) from rfl, hG]), by rw [show erG 3 (4 :: en37 x3) = (gGet gt37 4 60000 z37 (4 :: en37 x3)).2 from rfl, hG]⟩) ?_
      (set_option smartUnfolding false in conv => whnf)
      refine dI (k := ?_)
      (set_option smartUnfolding false in conv => whnf)
      refine ⟨(cut, 7), ?_⟩
      conv => whnf
      refine And.intro (by simp only [allP, List.nil_append, List.cons_append, true_and]; exact ⟨rfl, rfl, hc1, hc2, by decide, by decide⟩) ?_
      (set_option smartUnfolding false in conv => whnf)
      rw [hn]
      refine dI (k := ?_)
      (set_option smartUnfolding false in conv => whnf)
      obtain ⟨fy, hfy⟩ : ∃ y, y = thG n (4 :: en37 x3) := ⟨_, rfl⟩
      obtain ⟨fe, hfe⟩ : ∃ y, y = erG n (4 :: en37 x3) := ⟨_, rfl⟩
      have hfe2 := hfe
      rw [hE] at hfe2
      refine ⟨(⟨n, hn7⟩, (4 :: en37 x3), fy, fe), ?_⟩
      conv => whnf
      refine And.intro (by simp only [allP, List.nil_append, List.cons_append, true_and]; exact ⟨rfl, rfl, hfy, hfe⟩) ?_
      (set_option smartUnfolding false in conv => whnf)
      refine dI (k := ?_)
      (set_option smartUnfolding false in conv => whnf)
      refine ⟨by rfl, ?_⟩
      (set_option smartUnfolding false in conv => whnf)
      refine dI (k := ?_)
      (set_option smartUnfolding false in conv => whnf)
      refine dI (k := ?_)
      (set_option smartUnfolding false in conv => whnf)
      rw [hel]
      refine ⟨(cut, (((4 :: en37 x3).length : Nat) : Int)), ?_⟩
      conv => whnf
      refine And.intro (by simp only [allP, List.nil_append, List.cons_append, true_and]; exact ⟨rfl, rfl, hc1, hc2, by omega, by omega⟩) ?_
      (set_option smartUnfolding false in conv => whnf)
      obtain ⟨hq1, hq2⟩ := pickV_bd (x := cut) (n := (((4 :: en37 x3).length : Nat) : Int)) (by omega)
      generalize pickV cut (((4 :: en37 x3).length : Nat) : Int) = pv at hq1 hq2 ⊢
      obtain ⟨m, rfl⟩ : ∃ m : Nat, pv = (m : Int) := ⟨pv.toNat, by omega⟩
      have hm : m < (4 :: en37 x3).length := by omega
      refine And.intro (by simp only [allP, List.nil_append, List.cons_append, true_and]; rw [hel]; omega) ?_
      (set_option smartUnfolding false in conv => whnf)
      obtain ⟨Y2, hY2⟩ : ∃ y, y = thG 3 ((4 :: en37 x3).take m) := ⟨_, rfl⟩
      refine ⟨(⟨3, by decide⟩, (4 :: en37 x3).take m, Y2, 60), ?_⟩
      conv => whnf
      refine And.intro (by simp only [allP, List.nil_append, List.cons_append, true_and]; exact ⟨rfl, cut_take6 (4 :: en37 x3) m, hY2, by rw [show erG 3 ((4 :: en37 x3).take m) = (gGet gt37 4 60000 z37 ((4 :: en37 x3).take m)).2 from rfl, gGet_cut rt37 4 (by decide) z37 hk3 hm]⟩) ?_
      (set_option smartUnfolding false in conv => whnf)
      refine dI (k := ?_)
      (set_option smartUnfolding false in conv => whnf)
      refine ⟨by rfl, ?_⟩
      (set_option smartUnfolding false in conv => whnf)
      refine dI (k := ?_)
      (set_option smartUnfolding false in conv => whnf)
      refine ⟨(4 :: en37 x3), ?_⟩
      conv => whnf
      refine And.intro (by simp only [allP, List.nil_append, List.cons_append, true_and]; exact ⟨rfl, by omega⟩) ?_
      (set_option smartUnfolding false in conv => whnf)
      rw [byte_wrap6 cut]
      generalize UInt8.ofNat (IntKind.u8.wrap cut).toNat = c
      have hel2 : (bl (4 :: en37 x3)).length = (4 :: en37 x3).length := bl_length _
      refine And.intro (by simp only [allP, List.nil_append, List.cons_append, true_and]; rw [hel2]; simp only [List.length_cons, List.length_nil]; omega) ?_
      (set_option smartUnfolding false in conv => whnf)
      obtain ⟨Y3, hY3⟩ : ∃ y, y = thG 3 (4 :: (en37 x3 ++ [c])) := ⟨_, rfl⟩
      have hE3 : (60 : Int) = erG 3 (4 :: (en37 x3 ++ [c])) := (congrArg Prod.snd (gGet_more rt37 4 (by decide) z37 hk3 c)).symm
      have hB3 : PV.sl 1 (bl (4 :: (en37 x3 ++ [c]))) = PV.sl 1 (bl (4 :: en37 x3) ++ [bv c]) := congrArg (PV.sl 1) (bl_append (4 :: en37 x3) [c])
      refine ⟨(⟨3, by decide⟩, 4 :: (en37 x3 ++ [c]), Y3, 60), ?_⟩
      conv => whnf
      refine And.intro (by simp only [allP, List.nil_append, List.cons_append, true_and]; exact ⟨rfl, hB3, hY3, hE3⟩) ?_
      (set_option smartUnfolding false in conv => whnf)
      refine dI (k := ?_)
      (set_option smartUnfolding false in conv => whnf)
      refine dI (k := ?_)
      (set_option smartUnfolding false in conv => whnf)
      refine dI (k := ?_)
      (set_option smartUnfolding false in conv => whnf)
      refine ⟨(true, ⟨3, by decide⟩, (x0, x1, x2, x3, x4, x5, x6), Y), ?_⟩
      conv => whnf
      refine And.intro (by simp only [allP, List.nil_append, List.cons_append, true_and]; repeat' (first | exact iff_of_true rfl hPE | exact iff_of_true trivial hPE | exact ox | exact trivial | rfl | refine And.intro ?_ ?_)) ?_
      (set_option smartUnfolding false in conv => whnf)
      refine ⟨(cut, 7), ?_⟩
      conv => whnf
      refine And.intro (by simp only [allP, List.nil_append, List.cons_append, true_and]; exact ⟨rfl, rfl, hc1, hc2, by decide, by decide⟩) ?_
      (set_option smartUnfolding false in conv => whnf)
      rw [hn, pick_eq (J := 3) rfl hfe2]
      (set_option smartUnfolding false in conv => whnf)
      refine ⟨⟨4, by omega⟩, by simp only; omega, ?_⟩
      (set_option smartUnfolding false in conv => whnf)
      first | done | (and_intros <;> first | rfl | exact trivial)
  · show aw _ _ _ _ _ _ ⟨[(1, .p false (.sl 1 (bl b))), (2, isI .i64 cut), (3, .ptr 0 0), (7, .ptr 1 0), (9, isI .i64 4)], [(0, .box ((pv84 (x0, x1, x2, x3, x4, x5, x6)).map avOf)), (1, .box [.p true (.sl 1 (bl (oT 1 en48 g0 x0))), .p true (.sl 1 (bl (oT 2 en57 g1 x1))), .p true (.sl 1 (bl (oT 3 en28 g2 x2))), .p true (.sl 1 (bl (oT 4 en37 g3 x3))), .p true (.sl 1 (bl (oT 5 en63 g4 x4))), .p true (.sl 1 (bl (oT 6 en72 g5 x5))), .p true (.sl 1 (bl (oT 7 en79 g6 x6)))])], 99⟩
    (set_option smartUnfolding false in conv => whnf)
    refine dI (k := ?_)
    (set_option smartUnfolding false in conv => whnf)
    rw [oT_zero]
    cases g4
    · (set_option smartUnfolding false in conv => whnf)
      refine ⟨⟨5, by omega⟩, by simp only; omega, ?_⟩
      (set_option smartUnfolding false in conv => whnf)
      first | done | (and_intros <;> first | rfl | exact trivial)
    · have hl : (en63 x4).length + 1 ≤ 60000 := by have := of_decide_eq_true he4.symm; simp only at this; omega
      have hG := gGet_put rt63 5 60000 z63 x4 hk4 hl
      have hel : (bl (oT 5 en63 true x4)).length = (5 :: en63 x4).length := bl_length _
      have hln : (5 :: en63 x4).length = (en63 x4).length + 1 := List.length_cons
      obtain ⟨hp1, hp2⟩ := pickV_bd (x := cut) (n := 7) (by omega)
      obtain ⟨n, hn⟩ : ∃ n : Nat, pickV cut 7 = (n : Int) := ⟨(pickV cut 7).toNat, by omega⟩
      have hn7 : n < 7 := by omega
      have hE := erG_put4 hk4 hl n hn7
      (set_option smartUnfolding false in conv => whnf)
      refine dI (k := ?_)
      (set_option smartUnfolding false in conv => whnf)
      obtain ⟨Y, hY⟩ : ∃ y, y = (z48, z57, z28, z37, x4, z72, z79) := ⟨_, rfl⟩
      have hPE : partEq 4 (x0, x1, x2, x3, x4, x5, x6) Y := by rw [hY]; rfl
      refine ⟨(⟨4, by decide⟩, (5 :: en63 x4), Y, 0), ?_⟩
      conv => whnf
      refine And.intro (by simp only [allP, List.nil_append, List.cons_append, true_and]; exact ⟨rfl, rfl, hY.trans (by rw [show thG 4 (5 :: en63 x4) = (z48, z57, z28, z37, (gGet gt63 5 60000 z63 (5 :: en63 x4)).1, z72, z79) from rfl, hG]), by rw [show erG 4 (5 :: en63 x4) = (gGet gt63 5 60000 z63 (5 :: en63 x4)).2 from rfl, hG]⟩) ?_
      (set_option smartUnfolding false in conv => whnf)
      refine dI (k := ?_)
      (set_option smartUnfolding false in conv => whnf)
      refine ⟨(cut, 7), ?_⟩
      conv => whnf
      refine And.intro (by simp only [allP, List.nil_append, List.cons_append, true_and]; exact ⟨rfl, rfl, hc1, hc2, by decide, by decide⟩) ?_
      (set_option smartUnfolding false in conv => whnf)
      rw [hn]
      refine dI (k := ?_)
      (set_option smartUnfolding false in conv => whnf)
      obtain ⟨fy, hfy⟩ : ∃ y, y = thG n (5 :: en63 x4) := ⟨_, rfl⟩
      obtain ⟨fe, hfe⟩ : ∃ y, y = erG n (5 :: en63 x4) := ⟨_, rfl⟩
      have hfe2 := hfe
      rw [hE] at hfe2
      refine ⟨(⟨n, hn7⟩, (5 :: en63 x4), fy, fe), ?_⟩
      conv => whnf
      refine And.intro (by simp only [allP, List.nil_append, List.cons_append, true_and]; exact ⟨rfl, rfl, hfy, hfe⟩) ?_
      (set_option smartUnfolding false in conv => whnf)
      refine dI (k := ?_)
      (set_option smartUnfolding false in conv => whnf)
      refine ⟨by rfl, ?_⟩
      (set_option smartUnfolding false in conv => whnf)
      refine dI (k := ?_)
      (set_option smartUnfolding false in conv => whnf)
      refine dI (k := ?_)
      (set_option smartUnfolding false in conv => whnf)
      rw [hel]
      refine ⟨(cut, (((5 :: en63 x4).length : Nat) : Int)), ?_⟩
      conv => whnf
      refine And.intro (by simp only [allP, List.nil_append, List.cons_append, true_and]; exact ⟨rfl, rfl, hc1, hc2, by omega, by omega⟩) ?_
      (set_option smartUnfolding false in conv => whnf)
      obtain ⟨hq1, hq2⟩ := pickV_bd (x := cut) (n := (((5 :: en63 x4).length : Nat) : Int)) (by omega)
      generalize pickV cut (((5 :: en63 x4).length : Nat) : Int) = pv at hq1 hq2 ⊢
      obtain ⟨m, rfl⟩ : ∃ m : Nat, pv = (m : Int) := ⟨pv.toNat, by omega⟩
      have hm : m < (5 :: en63 x4).length := by omega
      refine And.intro (by simp only [allP, List.nil_append, List.cons_append, true_and]; rw [hel]; omega) ?_
      (set_option smartUnfolding false in conv => whnf)
      obtain ⟨Y2, hY2⟩ : ∃ y, y = thG 4 ((5 :: en63 x4).take m) := ⟨_, rfl⟩
      refine ⟨(⟨4, by decide⟩, (5 :: en63 x4).take m, Y2, 60), ?_⟩
      conv => whnf
      refine And.intro (by simp only [allP, List.nil_append, List.cons_append, true_and]; exact ⟨rfl, cut_take6 (5 :: en63 x4) m, hY2, by rw [show erG 4 ((5 :: en63 x4).take m) = (gGet gt63 5 60000 z63 ((5 :: en63 x4).take m)).2 from rfl, gGet_cut rt63 5 (by decide) z63 hk4 hm]⟩) ?_
      (set_option smartUnfolding false in conv => whnf)
      refine dI (k := ?_)
      (set_option smartUnfolding false in conv => whnf)
      refine ⟨by rfl, ?_⟩
      (set_option smartUnfolding false in conv => whnf)
      refine dI (k := ?_)
      (set_option smartUnfolding false in conv => whnf)
      refine ⟨(5 :: en63 x4), ?_⟩
      conv => whnf
      refine And.intro (by simp only [allP, List.nil_append, List.cons_append, true_and]; exact ⟨rfl, by omega⟩) ?_
      (set_option smartUnfolding false in conv => whnf)
      rw [byte_wrap6 cut]
      generalize UInt8.ofNat (IntKind.u8.wrap cut).toNat = c
      have hel2 : (bl (5 :: en63 x4)).length = (5 :: en63 x4).length := bl_length _
      refine And.intro (by simp only [allP, List.nil_append, List.cons_append, true_and]; rw [hel2]; simp only [List.length_cons, List.length_nil]; omega) ?_
      (set_option smartUnfolding false in conv => whnf)
      obtain ⟨Y3, hY3⟩ : ∃ y, y = thG 4 (5 :: (en63 x4 ++ [c])) := ⟨_, rfl⟩
      have hE3 : (60 : Int) = erG 4 (5 :: (en63 x4 ++ [c])) := (congrArg Prod.snd (gGet_more rt63 5 (by decide) z63 hk4 c)).symm
      have hB3 : PV.sl 1 (bl (5 :: (en63 x4 ++ [c]))) = PV.sl 1 (bl (5 :: en63 x4) ++ [bv c]) := congrArg (PV.sl 1) (bl_append (5 :: en63 x4) [c])
      refine ⟨(⟨4, by decide⟩, 5 :: (en63 x4 ++ [c]), Y3, 60), ?_⟩
      conv => whnf
      refine And.intro (by simp only [allP, List.nil_append, List.cons_append, true_and]; exact ⟨rfl, hB3, hY3, hE3⟩) ?_
      (set_option smartUnfolding false in conv => whnf)
      refine dI (k := ?_)
      (set_option smartUnfolding false in conv => whnf)
      refine dI (k := ?_)
      (set_option smartUnfolding false in conv => whnf)
      refine dI (k := ?_)
      (set_option smartUnfolding false in conv => whnf)
      refine ⟨(true, ⟨4, by decide⟩, (x0, x1, x2, x3, x4, x5, x6), Y), ?_⟩
      conv => whnf
      refine And.intro (by simp only [allP, List.nil_append, List.cons_append, true_and]; repeat' (first | exact iff_of_true rfl hPE | exact iff_of_true trivial hPE | exact ox | exact trivial | rfl | refine And.intro ?_ ?_)) ?_
      (set_option smartUnfolding false in conv => whnf)
      refine ⟨(cut, 7), ?_⟩
      conv => whnf
      refine And.intro (by simp only [allP, List.nil_append, List.cons_append, true_and]; exact ⟨rfl, rfl, hc1, hc2, by decide, by decide⟩) ?_
      (set_option smartUnfolding false in conv => whnf)
      rw [hn, pick_eq (J := 4) rfl hfe2]
      (set_option smartUnfolding false in conv => whnf)
      refine ⟨⟨5, by omega⟩, by simp only; omega, ?_⟩
      (set_option smartUnfolding false in conv => whnf)
      first | done | (and_intros <;> first | rfl | exact trivial)
  · show aw _ _ _ _ _ _ ⟨[(1, .p false (.sl 1 (bl b))), (2, isI .i64 cut), (3, .ptr 0 0), (7, .ptr 1 0), (9, isI .i64 5)], [(0, .box ((pv84 (x0, x1, x2, x3, x4, x5, x6)).map avOf)), (1, .box [.p true (.sl 1 (bl (oT 1 en48 g0 x0))), .p true (.sl 1 (bl (oT 2 en57 g1 x1))), .p true (.sl 1 (bl (oT 3 en28 g2 x2))), .p true (.sl 1 (bl (oT 4 en37 g3 x3))), .p true (.sl 1 (bl (oT 5 en63 g4 x4))), .p true (.sl 1 (bl (oT 6 en72 g5 x5))), .p true (.sl 1 (bl (oT 7 en79 g6 x6)))])], 99⟩
    (set_option smartUnfolding false in conv => whnf)
    refine dI (k := ?_)
    (set_option smartUnfolding false in conv => whnf)
    rw [oT_zero]
    cases g5
    · (set_option smartUnfolding false in conv => whnf)
      refine ⟨⟨6, by omega⟩, by simp only; omega, ?_⟩
      (set_option smartUnfolding false in conv => whnf)
      first | done | (and_intros <;> first | rfl | exact trivial)
    · have hl : (en72 x5).length + 1 ≤ 60000 := by have := of_decide_eq_true he5.symm; simp only at this; omega
      have hG := gGet_put rt72 6 60000 z72 x5 hk5 hl
      have hel : (bl (oT 6 en72 true x5)).length = (6 :: en72 x5).length := bl_length _
      have hln : (6 :: en72 x5).length = (en72 x5).length + 1 := List.length_cons
      obtain ⟨hp1, hp2⟩ := pickV_bd (x := cut) (n := 7) (by omega)
      obtain ⟨n, hn⟩ : ∃ n : Nat, pickV cut 7 = (n : Int) := ⟨(pickV cut 7).toNat, by omega⟩
      have hn7 : n < 7 := by omega
      have hE := erG_put5 hk5 hl n hn7
      (set_option smartUnfolding false in conv => whnf)
      refine dI (k := ?_)
      (set_option smartUnfolding false in conv => whnf)
      obtain ⟨Y, hY⟩ : ∃ y, y = (z48, z57, z28, z37, z63, x5, z79) := ⟨_, rfl⟩
      have hPE : partEq 5 (x0, x1, x2, x3, x4, x5, x6) Y := by rw [hY]; rfl
      refine ⟨(⟨5, by decide⟩, (6 :: en72 x5), Y, 0), ?_⟩
      conv => whnf
      refine And.intro (by simp only [allP, List.nil_append, List.cons_append, true_and]; exact ⟨rfl, rfl, hY.trans (by rw [show thG 5 (6 :: en72 x5) = (z48, z57, z28, z37, z63, (gGet gt72 6 60000 z72 (6 :: en72 x5)).1, z79) from rfl, hG]), by rw [show erG 5 (6 :: en72 x5) = (gGet gt72 6 60000 z72 (6 :: en72 x5)).2 from rfl, hG]⟩) ?_
      (set_option smartUnfolding false in conv => whnf)
      refine dI (k := ?_)
      (set_option smartUnfolding false in conv => whnf)
      refine ⟨(cut, 7), ?_⟩
      conv => whnf
      refine And.intro (by simp only [allP, List.nil_append, List.cons_append, true_and]; exact ⟨rfl, rfl, hc1, hc2, by decide, by decide⟩) ?_
      (set_option smartUnfolding false in conv => whnf)
      rw [hn]
      refine dI (k := ?_)
      (set_option smartUnfolding false in conv => whnf)
      obtain ⟨fy, hfy⟩ : ∃ y, y = thG n (6 :: en72 x5) := ⟨_, rfl⟩
      obtain ⟨fe, hfe⟩ : ∃ y, y = erG n (6 :: en72 x5) := ⟨_, rfl⟩
      have hfe2 := hfe
      rw [hE] at hfe2
      refine ⟨(⟨n, hn7⟩, (6 :: en72 x5), fy, fe), ?_⟩
      conv => whnf
      refine And.intro (by simp only [allP, List.nil_append, List.cons_append, true_and]; exact ⟨rfl, rfl, hfy, hfe⟩) ?_
      (set_option smartUnfolding false in conv => whnf)
      refine dI (k := ?_)
      (set_option smartUnfolding false in conv => whnf)
      refine ⟨by rfl, ?_⟩
      (set_option smartUnfolding false in conv => whnf)
      refine dI (k := ?_)
      (set_option smartUnfolding false in conv => whnf)
      refine dI (k := ?_)
      (set_option smartUnfolding false in conv => whnf)
      rw [hel]
      refine ⟨(cut, (((6 :: en72 x5).length : Nat) : Int)), ?_⟩
      conv => whnf
      refine And.intro (by simp only [allP, List.nil_append, List.cons_append, true_and]; exact ⟨rfl, rfl, hc1, hc2, by omega, by omega⟩) ?_
      (set_option smartUnfolding false in conv => whnf)
      obtain ⟨hq1, hq2⟩ := pickV_bd (x := cut) (n := (((6 :: en72 x5).length : Nat) : Int)) (by omega)
      generalize pickV cut (((6 :: en72 x5).length : Nat) : Int) = pv at hq1 hq2 ⊢
      obtain ⟨m, rfl⟩ : ∃ m : Nat, pv = (m : Int) := ⟨pv.toNat, by omega⟩
      have hm : m < (6 :: en72 x5).length := by omega
      refine And.intro (by simp only [allP, List.nil_append, List.cons_append, true_and]; rw [hel]; omega) ?_
      (set_option smartUnfolding false in conv => whnf)
      obtain ⟨Y2, hY2⟩ : ∃ y, y = thG 5 ((6 :: en72 x5).take m) := ⟨_, rfl⟩
      refine ⟨(⟨5, by decide⟩, (6 :: en72 x5).take m, Y2, 60), ?_⟩
      conv => whnf
      refine And.intro (by simp only [allP, List.nil_append, List.cons_append, true_and]; exact ⟨rfl, cut_take6 (6 :: en72 x5) m, hY2, by rw [show erG 5 ((6 :: en72 x5).take m) = (gGet gt72 6 60000 z72 ((6 :: en72 x5).take m)).2 from rfl, gGet_cut rt72 6 (by decide) z72 hk5 hm]⟩) ?_
      (set_option smartUnfolding false in conv => whnf)
      refine dI (k := ?_)
      (set_option smartUnfolding false in conv => whnf)
      refine ⟨by rfl, ?_⟩
      (set_option smartUnfolding false in conv => whnf)
      refine dI (k := ?_)
      (set_option smartUnfolding false in conv => whnf)
      refine ⟨(6 :: en72 x5), ?_⟩
      conv => whnf
      refine And.intro (by simp only [allP, List.nil_append, List.cons_append, true_and]; exact ⟨rfl, by omega⟩) ?_
      (set_option smartUnfolding false in conv => whnf)
      rw [byte_wrap6 cut]
      generalize UInt8.ofNat (IntKind.u8.wrap cut).toNat = c
      have hel2 : (bl (6 :: en72 x5)).length = (6 :: en72 x5).length := bl_length _
      refine And.intro (by simp only [allP, List.nil_append, List.cons_append, true_and]; rw [hel2]; simp only [List.length_cons, List.length_nil]; omega) ?_
      (set_option smartUnfolding false in conv => whnf)
      obtain ⟨Y3, hY3⟩ : ∃ y, y = thG 5 (6 :: (en72 x5 ++ [c])) := ⟨_, rfl⟩
      have hE3 : (60 : Int) = erG 5 (6 :: (en72 x5 ++ [c])) := (congrArg Prod.snd (gGet_more rt72 6 (by decide) z72 hk5 c)).symm
      have hB3 : PV.sl 1 (bl (6 :: (en72 x5 ++ [c]))) = PV.sl 1 (bl (6 :: en72 x5) ++ [bv c]) := congrArg (PV.sl 1) (bl_append (6 :: en72 x5) [c])
      refine ⟨(⟨5, by decide⟩, 6 :: (en72 x5 ++ [c]), Y3, 60), ?_⟩
      conv => whnf
      refine And.intro (by simp only [allP, List.nil_append, List.cons_append, true_and]; exact ⟨rfl, hB3, hY3, hE3⟩) ?_
      (set_option smartUnfolding false in conv => whnf)
      refine dI (k := ?_)
      (set_option smartUnfolding false in conv => whnf)
      refine dI (k := ?_)
      (set_option smartUnfolding false in conv => whnf)
      refine dI (k := ?_)
      (set_option smartUnfolding false in conv => whnf)
      refine ⟨(true, ⟨5, by decide⟩, (x0, x1, x2, x3, x4, x5, x6), Y), ?_⟩
      conv => whnf
      refine And.intro (by simp only [allP, List.nil_append, List.cons_append, true_and]; repeat' (first | exact iff_of_true rfl hPE | exact iff_of_true trivial hPE | exact ox | exact trivial | rfl | refine And.intro ?_ ?_)) ?_
      (set_option smartUnfolding false in conv => whnf)
      refine ⟨(cut, 7), ?_⟩
      conv => whnf
      refine And.intro (by simp only [allP, List.nil_append, List.cons_append, true_and]; exact ⟨rfl, rfl, hc1, hc2, by decide, by decide⟩) ?_
      (set_option smartUnfolding false in conv => whnf)
      rw [hn, pick_eq (J := 5) rfl hfe2]
      (set_option smartUnfolding false in conv => whnf)
      refine ⟨⟨6, by omega⟩, by simp only; omega, ?_⟩
      (set_option smartUnfolding false in conv => whnf)
      first | done | (and_intros <;> first | rfl | exact trivial)
  · show aw _ _ _ _ _ _ ⟨[(1, .p false (.sl 1 (bl b))), (2, isI .i64 cut), (3, .ptr 0 0), (7, .ptr 1 0), (9, isI .i64 6)], [(0, .box ((pv84 (x0, x1, x2, x3, x4, x5, x6)).map avOf)), (1, .box [.p true (.sl 1 (bl (oT 1 en48 g0 x0))), .p true (.sl 1 (bl (oT 2 en57 g1 x1))), .p true (.sl 1 (bl (oT 3 en28 g2 x2))), .p true (.sl 1 (bl (oT 4 en37 g3 x3))), .p true (.sl 1 (bl (oT 5 en63 g4 x4))), .p true (.sl 1 (bl (oT 6 en72 g5 x5))), .p true (.sl 1 (bl (oT 7 en79 g6 x6)))])], 99⟩
    (set_option smartUnfolding false in conv => whnf)
    refine dI (k := ?_)
    (set_option smartUnfolding false in conv => whnf)
    rw [oT_zero]
    cases g6
    · (set_option smartUnfolding false in conv => whnf)
      refine ⟨⟨7, by omega⟩, by simp only; omega, ?_⟩
      (set_option smartUnfolding false in conv => whnf)
      first | done | (and_intros <;> first | rfl | exact trivial)
    · have hl : (en79 x6).length + 1 ≤ 65545 := by have := of_decide_eq_true he6.symm; simp only at this; omega
      have hG := gGet_put rt79 7 65545 z79 x6 hk6 hl
      have hel : (bl (oT 7 en79 true x6)).length = (7 :: en79 x6).length := bl_length _
      have hln : (7 :: en79 x6).length = (en79 x6).length + 1 := List.length_cons
      obtain ⟨hp1, hp2⟩ := pickV_bd (x := cut) (n := 7) (by omega)
      obtain ⟨n, hn⟩ : ∃ n : Nat, pickV cut 7 = (n : Int) := ⟨(pickV cut 7).toNat, by omega⟩
      have hn7 : n < 7 := by omega
      have hE := erG_put6 hk6 hl n hn7
      (set_option smartUnfolding false in conv => whnf)
      refine dI (k := ?_)
      (set_option smartUnfolding false in conv => whnf)
      obtain ⟨Y, hY⟩ : ∃ y, y = (z48, z57, z28, z37, z63, z72, x6) := ⟨_, rfl⟩
      have hPE : partEq 6 (x0, x1, x2, x3, x4, x5, x6) Y := by rw [hY]; rfl
      refine ⟨(⟨6, by decide⟩, (7 :: en79 x6), Y, 0), ?_⟩
      conv => whnf
      refine And.intro (by simp only [allP, List.nil_append, List.cons_append, true_and]; exact ⟨rfl, rfl, hY.trans (by rw [show thG 6 (7 :: en79 x6) = (z48, z57, z28, z37, z63, z72, (gGet gt79 7 65545 z79 (7 :: en79 x6)).1) from rfl, hG]), by rw [show erG 6 (7 :: en79 x6) = (gGet gt79 7 65545 z79 (7 :: en79 x6)).2 from rfl, hG]⟩) ?_
      (set_option smartUnfolding false in conv => whnf)
      refine dI (k := ?_)
      (set_option smartUnfolding false in conv => whnf)
      refine ⟨(cut, 7), ?_⟩
      conv => whnf
      refine And.intro (by simp only [allP, List.nil_append, List.cons_append, true_and]; exact ⟨rfl, rfl, hc1, hc2, by decide, by decide⟩) ?_
      (set_option smartUnfolding false in conv => whnf)
      rw [hn]
      refine dI (k := ?_)
      (set_option smartUnfolding false in conv => whnf)
      obtain ⟨fy, hfy⟩ : ∃ y, y = thG n (7 :: en79 x6) := ⟨_, rfl⟩
      obtain ⟨fe, hfe⟩ : ∃ y, y = erG n (7 :: en79 x6) := ⟨_, rfl⟩
      have hfe2 := hfe
      rw [hE] at hfe2
      refine ⟨(⟨n, hn7⟩, (7 :: en79 x6), fy, fe), ?_⟩
      conv => whnf
      refine And.intro (by simp only [allP, List.nil_append, List.cons_append, true_and]; exact ⟨rfl, rfl, hfy, hfe⟩) ?_
      (set_option smartUnfolding false in conv => whnf)
      refine dI (k := ?_)
      (set_option smartUnfolding false in conv => whnf)
      refine ⟨by rfl, ?_⟩
      (set_option smartUnfolding false in conv => whnf)
      refine dI (k := ?_)
      (set_option smartUnfolding false in conv => whnf)
      refine dI (k := ?_)
      (set_option smartUnfolding false in conv => whnf)
      rw [hel]
      refine ⟨(cut, (((7 :: en79 x6).length : Nat) : Int)), ?_⟩
      conv => whnf
      refine And.intro (by simp only [allP, List.nil_append, List.cons_append, true_and]; exact ⟨rfl, rfl, hc1, hc2, by omega, by omega⟩) ?_
      (set_option smartUnfolding false in conv => whnf)
      obtain ⟨hq1, hq2⟩ := pickV_bd (x := cut) (n := (((7 :: en79 x6).length : Nat) : Int)) (by omega)
      generalize pickV cut (((7 :: en79 x6).length : Nat) : Int) = pv at hq1 hq2 ⊢
      obtain ⟨m, rfl⟩ : ∃ m : Nat, pv = (m : Int) := ⟨pv.toNat, by omega⟩
      have hm : m < (7 :: en79 x6).length := by omega
      refine And.intro (by simp only [allP, List.nil_append, List.cons_append, true_and]; rw [hel]; omega) ?_
      (set_option smartUnfolding false in conv => whnf)
      obtain ⟨Y2, hY2⟩ : ∃ y, y = thG 6 ((7 :: en79 x6).take m) := ⟨_, rfl⟩
      refine ⟨(⟨6, by decide⟩, (7 :: en79 x6).take m, Y2, 60), ?_⟩
      conv => whnf
      refine And.intro (by simp only [allP, List.nil_append, List.cons_append, true_and]; exact ⟨rfl, cut_take6 (7 :: en79 x6) m, hY2, by rw [show erG 6 ((7 :: en79 x6).take m) = (gGet gt79 7 65545 z79 ((7 :: en79 x6).take m)).2 from rfl, gGet_cut rt79 7 (by decide) z79 hk6 hm]⟩) ?_
      (set_option smartUnfolding false in conv => whnf)
      refine dI (k := ?_)
      (set_option smartUnfolding false in conv => whnf)
      refine ⟨by rfl, ?_⟩
      (set_option smartUnfolding false in conv => whnf)
      refine dI (k := ?_)
      (set_option smartUnfolding false in conv => whnf)
      refine ⟨(7 :: en79 x6), ?_⟩
      conv => whnf
      refine And.intro (by simp only [allP, List.nil_append, List.cons_append, true_and]; exact ⟨rfl, by omega⟩) ?_
      (set_option smartUnfolding false in conv => whnf)
      rw [byte_wrap6 cut]
      generalize UInt8.ofNat (IntKind.u8.wrap cut).toNat = c
      have hel2 : (bl (7 :: en79 x6)).length = (7 :: en79 x6).length := bl_length _
      refine And.intro (by simp only [allP, List.nil_append, List.cons_append, true_and]; rw [hel2]; simp only [List.length_cons, List.length_nil]; omega) ?_
      (set_option smartUnfolding false in conv => whnf)
      obtain ⟨Y3, hY3⟩ : ∃ y, y = thG 6 (7 :: (en79 x6 ++ [c])) := ⟨_, rfl⟩
      have hE3 : (60 : Int) = erG 6 (7 :: (en79 x6 ++ [c])) := (congrArg Prod.snd (gGet_more rt79 7 (by decide) z79 hk6 c)).symm
      have hB3 : PV.sl 1 (bl (7 :: (en79 x6 ++ [c]))) = PV.sl 1 (bl (7 :: en79 x6) ++ [bv c]) := congrArg (PV.sl 1) (bl_append (7 :: en79 x6) [c])
      refine ⟨(⟨6, by decide⟩, 7 :: (en79 x6 ++ [c]), Y3, 60), ?_⟩
      conv => whnf
      refine And.intro (by simp only [allP, List.nil_append, List.cons_append, true_and]; exact ⟨rfl, hB3, hY3, hE3⟩) ?_
      (set_option smartUnfolding false in conv => whnf)
      refine dI (k := ?_)
      (set_option smartUnfolding false in conv => whnf)
      refine dI (k := ?_)
      (set_option smartUnfolding false in conv => whnf)
      refine dI (k := ?_)
      (set_option smartUnfolding false in conv => whnf)
      refine ⟨(true, ⟨6, by decide⟩, (x0, x1, x2, x3, x4, x5, x6), Y), ?_⟩
      conv => whnf
      refine And.intro (by simp only [allP, List.nil_append, List.cons_append, true_and]; repeat' (first | exact iff_of_true rfl hPE | exact iff_of_true trivial hPE | exact ox | exact trivial | rfl | refine And.intro ?_ ?_)) ?_
      (set_option smartUnfolding false in conv => whnf)
      refine ⟨(cut, 7), ?_⟩
      conv => whnf
      refine And.intro (by simp only [allP, List.nil_append, List.cons_append, true_and]; exact ⟨rfl, rfl, hc1, hc2, by decide, by decide⟩) ?_
      (set_option smartUnfolding false in conv => whnf)
      rw [hn, pick_eq (J := 6) rfl hfe2]
      (set_option smartUnfolding false in conv => whnf)
      refine ⟨⟨7, by omega⟩, by simp only; omega, ?_⟩
      (set_option smartUnfolding false in conv => whnf)
      first | done | (and_intros <;> first | rfl | exact trivial)
  · show aw _ _ _ _ _ _ ⟨[(1, .p false (.sl 1 (bl b))), (2, isI .i64 cut), (3, .ptr 0 0), (7, .ptr 1 0), (9, isI .i64 7)], [(0, .box ((pv84 (x0, x1, x2, x3, x4, x5, x6)).map avOf)), (1, .box [.p true (.sl 1 (bl (oT 1 en48 g0 x0))), .p true (.sl 1 (bl (oT 2 en57 g1 x1))), .p true (.sl 1 (bl (oT 3 en28 g2 x2))), .p true (.sl 1 (bl (oT 4 en37 g3 x3))), .p true (.sl 1 (bl (oT 5 en63 g4 x4))), .p true (.sl 1 (bl (oT 6 en72 g5 x5))), .p true (.sl 1 (bl (oT 7 en79 g6 x6)))])], 99⟩
    conv => whnf
    refine ⟨{i : Nat // i ≤ 7}, fun i => ⟨[(1, .p false (.sl 1 (bl b))), (18, isI .i64 (i.1 : Nat))], [], 99⟩, fun i => 7 - i.1, ⟨⟨0, by omega⟩, ?_⟩, ?_⟩
    · conv => whnf
      and_intros <;> first | rfl | exact trivial
    rintro ⟨i, hi⟩
    obtain rfl | rfl | rfl | rfl | rfl | rfl | rfl | rfl : i = 0 ∨ i = 1 ∨ i = 2 ∨ i = 3 ∨ i = 4 ∨ i = 5 ∨ i = 6 ∨ i = 7 := by omega
    · show aw _ _ _ _ _ _ ⟨[(1, .p false (.sl 1 (bl b))), (18, isI .i64 0)], [], 99⟩
      rcases gGet_form rt48 1 60000 (by decide) z48 b with hG | ⟨v, hv, rfl, hl, hG⟩
      · (set_option smartUnfolding false in conv => whnf)
        obtain ⟨Y, hY⟩ : ∃ y, y = thG 0 b := ⟨_, rfl⟩
        refine ⟨(⟨0, by decide⟩, b, Y, 60), ?_⟩
        conv => whnf
        refine And.intro (by simp only [allP, List.nil_append, List.cons_append, true_and]; exact ⟨rfl, rfl, hY, by rw [show erG 0 b = (gGet gt48 1 60000 z48 b).2 from rfl, hG]⟩) ?_
        (set_option smartUnfolding false in conv => whnf)
        refine dI (k := ?_)
        (set_option smartUnfolding false in conv => whnf)
        refine ⟨⟨1, by omega⟩, by simp only; omega, ?_⟩
        (set_option smartUnfolding false in conv => whnf)
        first | done | (and_intros <;> first | rfl | exact trivial)
      · obtain ⟨h, hh, hhj⟩ := preZ0 hv hl
        obtain ⟨h0, h1, h2, h3, h4, h5, h6⟩ := h
        simp only at hhj
        subst hhj
        obtain ⟨Y, hY⟩ : ∃ y, y = (v, z57, z28, z37, z63, z72, z79) := ⟨_, rfl⟩
        (set_option smartUnfolding false in conv => whnf)
        refine ⟨(⟨0, by decide⟩, 1 :: en48 v, Y, 0), ?_⟩
        conv => whnf
        refine And.intro (by simp only [allP, List.nil_append, List.cons_append, true_and]; exact ⟨rfl, rfl, hY.trans (by rw [show thG 0 (1 :: en48 v) = ((gGet gt48 1 60000 z48 (1 :: en48 v)).1, z57, z28, z37, z63, z72, z79) from rfl, hG]), by rw [show erG 0 (1 :: en48 v) = (gGet gt48 1 60000 z48 (1 :: en48 v)).2 from rfl, hG]⟩) ?_
        (set_option smartUnfolding false in conv => whnf)
        refine dI (k := ?_)
        (set_option smartUnfolding false in conv => whnf)
        refine dI (k := ?_)
        (set_option smartUnfolding false in conv => whnf)
        refine ⟨((true, h1, h2, h3, h4, h5, h6), Y), ?_⟩
        conv => whnf
        refine And.intro (by simp only [allP, List.nil_append, List.cons_append, true_and]; repeat' (first | exact (hY ▸ hh) | rfl | refine And.intro ?_ ?_)) ?_
        (set_option smartUnfolding false in conv => whnf)
        have hA : PV.sl 1 (bl (1 :: en48 v)) = PV.sl 1 (bl (oT 1 en48 true Y.1)) := by rw [hY]; rfl
        refine dI (k := ?_)
        (set_option smartUnfolding false in conv => whnf)
        refine dI (k := ?_)
        (set_option smartUnfolding false in conv => whnf)
        refine ⟨(1 :: en48 v, 1 :: en48 v), ?_⟩
        conv => whnf
        refine And.intro (by simp only [allP, List.nil_append, List.cons_append, true_and]; exact ⟨hA, rfl, trivial⟩) ?_
        (set_option smartUnfolding false in conv => whnf)
        rw [decide_eq_true rfl]
        (set_option smartUnfolding false in conv => whnf)
        refine ⟨⟨1, by omega⟩, by simp only; omega, ?_⟩
        (set_option smartUnfolding false in conv => whnf)
        first | done | (and_intros <;> first | rfl | exact trivial)
    · show aw _ _ _ _ _ _ ⟨[(1, .p false (.sl 1 (bl b))), (18, isI .i64 1)], [], 99⟩
      rcases gGet_form rt57 2 60000 (by decide) z57 b with hG | ⟨v, hv, rfl, hl, hG⟩
      · (set_option smartUnfolding false in conv => whnf)
        obtain ⟨Y, hY⟩ : ∃ y, y = thG 1 b := ⟨_, rfl⟩
        refine ⟨(⟨1, by decide⟩, b, Y, 60), ?_⟩
        conv => whnf
        refine And.intro (by simp only [allP, List.nil_append, List.cons_append, true_and]; exact ⟨rfl, rfl, hY, by rw [show erG 1 b = (gGet gt57 2 60000 z57 b).2 from rfl, hG]⟩) ?_
        (set_option smartUnfolding false in conv => whnf)
        refine dI (k := ?_)
        (set_option smartUnfolding false in conv => whnf)
        refine ⟨⟨2, by omega⟩, by simp only; omega, ?_⟩
        (set_option smartUnfolding false in conv => whnf)
        first | done | (and_intros <;> first | rfl | exact trivial)
      · obtain ⟨h, hh, hhj⟩ := preZ1 hv hl
        obtain ⟨h0, h1, h2, h3, h4, h5, h6⟩ := h
        simp only at hhj
        subst hhj
        obtain ⟨Y, hY⟩ : ∃ y, y = (z48, v, z28, z37, z63, z72, z79) := ⟨_, rfl⟩
        (set_option smartUnfolding false in conv => whnf)
        refine ⟨(⟨1, by decide⟩, 2 :: en57 v, Y, 0), ?_⟩
        conv => whnf
        refine And.intro (by simp only [allP, List.nil_append, List.cons_append, true_and]; exact ⟨rfl, rfl, hY.trans (by rw [show thG 1 (2 :: en57 v) = (z48, (gGet gt57 2 60000 z57 (2 :: en57 v)).1, z28, z37, z63, z72, z79) from rfl, hG]), by rw [show erG 1 (2 :: en57 v) = (gGet gt57 2 60000 z57 (2 :: en57 v)).2 from rfl, hG]⟩) ?_
        (set_option smartUnfolding false in conv => whnf)
        refine dI (k := ?_)
        (set_option smartUnfolding false in conv => whnf)
        refine dI (k := ?_)
        (set_option smartUnfolding false in conv => whnf)
        refine ⟨((h0, true, h2, h3, h4, h5, h6), Y), ?_⟩
        conv => whnf
        refine And.intro (by simp only [allP, List.nil_append, List.cons_append, true_and]; repeat' (first | exact (hY ▸ hh) | rfl | refine And.intro ?_ ?_)) ?_
        (set_option smartUnfolding false in conv => whnf)
        have hA : PV.sl 1 (bl (2 :: en57 v)) = PV.sl 1 (bl (oT 2 en57 true Y.2.1)) := by rw [hY]; rfl
        refine dI (k := ?_)
        (set_option smartUnfolding false in conv => whnf)
        refine dI (k := ?_)
        (set_option smartUnfolding false in conv => whnf)
        refine ⟨(2 :: en57 v, 2 :: en57 v), ?_⟩
        conv => whnf
        refine And.intro (by simp only [allP, List.nil_append, List.cons_append, true_and]; exact ⟨hA, rfl, trivial⟩) ?_
        (set_option smartUnfolding false in conv => whnf)
        rw [decide_eq_true rfl]
        (set_option smartUnfolding false in conv => whnf)
        refine ⟨⟨2, by omega⟩, by simp only; omega, ?_⟩
        (set_option smartUnfolding false in conv => whnf)
        first | done | (and_intros <;> first | rfl | exact trivial)
    · show aw _ _ _ _ _ _ ⟨[(1, .p false (.sl 1 (bl b))), (18, isI .i64 2)], [], 99⟩
      rcases gGet_form rt28 3 60000 (by decide) z28 b with hG | ⟨v, hv, rfl, hl, hG⟩
      · (set_option smartUnfolding false in conv => whnf)
        obtain ⟨Y, hY⟩ : ∃ y, y = thG 2 b := ⟨_, rfl⟩
        refine ⟨(⟨2, by decide⟩, b, Y, 60), ?_⟩
        conv => whnf
        refine And.intro (by simp only [allP, List.nil_append, List.cons_append, true_and]; exact ⟨rfl, rfl, hY, by rw [show erG 2 b = (gGet gt28 3 60000 z28 b).2 from rfl, hG]⟩) ?_
        (set_option smartUnfolding false in conv => whnf)
        refine dI (k := ?_)
        (set_option smartUnfolding false in conv => whnf)
        refine ⟨⟨3, by omega⟩, by simp only; omega, ?_⟩
        (set_option smartUnfolding false in conv => whnf)
        first | done | (and_intros <;> first | rfl | exact trivial)
      · obtain ⟨h, hh, hhj⟩ := preZ2 hv hl
        obtain ⟨h0, h1, h2, h3, h4, h5, h6⟩ := h
        simp only at hhj
        subst hhj
        obtain ⟨Y, hY⟩ : ∃ y, y = (z48, z57, v, z37, z63, z72, z79) := ⟨_, rfl⟩
        (set_option smartUnfolding false in conv => whnf)
        refine ⟨(⟨2, by decide⟩, 3 :: en28 v, Y, 0), ?_⟩
        conv => whnf
        refine And.intro (by simp only [allP, List.nil_append, List.cons_append, true_and]; exact ⟨rfl, rfl, hY.trans (by rw [show thG 2 (3 :: en28 v) = (z48, z57, (gGet gt28 3 60000 z28 (3 :: en28 v)).1, z37, z63, z72, z79) from rfl, hG]), by rw [show erG 2 (3 :: en28 v) = (gGet gt28 3 60000 z28 (3 :: en28 v)).2 from rfl, hG]⟩) ?_
        (set_option smartUnfolding false in conv => whnf)
        refine dI (k := ?_)
        (set_option smartUnfolding false in conv => whnf)
        refine dI (k := ?_)
        (set_option smartUnfolding false in conv => whnf)
        refine ⟨((h0, h1, true, h3, h4, h5, h6), Y), ?_⟩
        conv => whnf
        refine And.intro (by simp only [allP, List.nil_append, List.cons_append, true_and]; repeat' (first | exact (hY ▸ hh) | rfl | refine And.intro ?_ ?_)) ?_
        (set_option smartUnfolding false in conv => whnf)
        have hA : PV.sl 1 (bl (3 :: en28 v)) = PV.sl 1 (bl (oT 3 en28 true Y.2.2.1)) := by rw [hY]; rfl
        refine dI (k := ?_)
        (set_option smartUnfolding false in conv => whnf)
        refine dI (k := ?_)
        (set_option smartUnfolding false in conv => whnf)
        refine ⟨(3 :: en28 v, 3 :: en28 v), ?_⟩
        conv => whnf
        refine And.intro (by simp only [allP, List.nil_append, List.cons_append, true_and]; exact ⟨hA, rfl, trivial⟩) ?_
        (set_option smartUnfolding false in conv => whnf)
        rw [decide_eq_true rfl]
        (set_option smartUnfolding false in conv => whnf)
        refine ⟨⟨3, by omega⟩, by simp only; omega, ?_⟩
        (set_option smartUnfolding false in conv => whnf)
        first | done | (and_intros <;> first | rfl | exact trivial)
    · show aw _ _ _ _ _ _ ⟨[(1, .p false (.sl 1 (bl b))), (18, isI .i64 3)], [], 99⟩
      rcases gGet_form rt37 4 60000 (by decide) z37 b with hG | ⟨v, hv, rfl, hl, hG⟩
      · (set_option smartUnfolding false in conv => whnf)
        obtain ⟨Y, hY⟩ : ∃ y, y = thG 3 b := ⟨_, rfl⟩
        refine ⟨(⟨3, by decide⟩, b, Y, 60), ?_⟩
        conv => whnf
        refine And.intro (by simp only [allP, List.nil_append, List.cons_append, true_and]; exact ⟨rfl, rfl, hY, by rw [show erG 3 b = (gGet gt37 4 60000 z37 b).2 from rfl, hG]⟩) ?_
        (set_option smartUnfolding false in conv => whnf)
        refine dI (k := ?_)
        (set_option smartUnfolding false in conv => whnf)
        refine ⟨⟨4, by omega⟩, by simp only; omega, ?_⟩
        (set_option smartUnfolding false in conv => whnf)
        first | done | (and_intros <;> first | rfl | exact trivial)
      · obtain ⟨h, hh, hhj⟩ := preZ3 hv hl
        obtain ⟨h0, h1, h2, h3, h4, h5, h6⟩ := h
        simp only at hhj
        subst hhj
        obtain ⟨Y, hY⟩ : ∃ y, y = (z48, z57, z28, v, z63, z72, z79) := ⟨_, rfl⟩
        (set_option smartUnfolding false in conv => whnf)
        refine ⟨(⟨3, by decide⟩, 4 :: en37 v, Y, 0), ?_⟩
        conv => whnf
        refine And.intro (by simp only [allP, List.nil_append, List.cons_append, true_and]; exact ⟨rfl, rfl, hY.trans (by rw [show thG 3 (4 :: en37 v) = (z48, z57, z28, (gGet gt37 4 60000 z37 (4 :: en37 v)).1, z63, z72, z79) from rfl, hG]), by rw [show erG 3 (4 :: en37 v) = (gGet gt37 4 60000 z37 (4 :: en37 v)).2 from rfl, hG]⟩) ?_
        (set_option smartUnfolding false in conv => whnf)
        refine dI (k := ?_)
        (set_option smartUnfolding false in conv => whnf)
        refine dI (k := ?_)
        (set_option smartUnfolding false in conv => whnf)
        refine ⟨((h0, h1, h2, true, h4, h5, h6), Y), ?_⟩
        conv => whnf
        refine And.intro (by simp only [allP, List.nil_append, List.cons_append, true_and]; repeat' (first | exact (hY ▸ hh) | rfl | refine And.intro ?_ ?_)) ?_
        (set_option smartUnfolding false in conv => whnf)
        have hA : PV.sl 1 (bl (4 :: en37 v)) = PV.sl 1 (bl (oT 4 en37 true Y.2.2.2.1)) := by rw [hY]; rfl
        refine dI (k := ?_)
        (set_option smartUnfolding false in conv => whnf)
        refine dI (k := ?_)
        (set_option smartUnfolding false in conv => whnf)
        refine ⟨(4 :: en37 v, 4 :: en37 v), ?_⟩
        conv => whnf
        refine And.intro (by simp only [allP, List.nil_append, List.cons_append, true_and]; exact ⟨hA, rfl, trivial⟩) ?_
        (set_option smartUnfolding false in conv => whnf)
        rw [decide_eq_true rfl]
        (set_option smartUnfolding false in conv => whnf)
        refine ⟨⟨4, by omega⟩, by simp only; omega, ?_⟩
        (set_option smartUnfolding false in conv => whnf)
        first | done | (and_intros <;> first | rfl | exact trivial)
    · show aw _ _ _ _ _ _ ⟨[(1, .p false (.sl 1 (bl b))), (18, isI .i64 4)], [], 99⟩
      rcases gGet_form rt63 5 60000 (by decide) z63 b with hG | ⟨v, hv, rfl, hl, hG⟩
      · (set_option smartUnfolding false in conv => whnf)
        obtain ⟨Y, hY⟩ : ∃ y, y = thG 4 b := ⟨_, rfl⟩
        refine ⟨(⟨4, by decide⟩, b, Y, 60), ?_⟩
        conv => whnf
        refine And.intro (by simp only [allP, List.nil_append, List.cons_append, true_and]; exact ⟨rfl, rfl, hY, by rw [show erG 4 b = (gGet gt63 5 60000 z63 b).2 from rfl, hG]⟩) ?_
        (set_option smartUnfolding false in conv => whnf)
        refine dI (k := ?_)
        (set_option smartUnfolding false in conv => whnf)
        refine ⟨⟨5, by omega⟩, by simp only; omega, ?_⟩
        (set_option smartUnfolding false in conv => whnf)
        first | done | (and_intros <;> first | rfl | exact trivial)
      · obtain ⟨h, hh, hhj⟩ := preZ4 hv hl
        obtain ⟨h0, h1, h2, h3, h4, h5, h6⟩ := h
        simp only at hhj
        subst hhj
        obtain ⟨Y, hY⟩ : ∃ y, y = (z48, z57, z28, z37, v, z72, z79) := ⟨_, rfl⟩
        (set_option smartUnfolding false in conv => whnf)
        refine ⟨(⟨4, by decide⟩, 5 :: en63 v, Y, 0), ?_⟩
        conv => whnf
        refine And.intro (by simp only [allP, List.nil_append, List.cons_append, true_and]; exact ⟨rfl, rfl, hY.trans (by rw [show thG 4 (5 :: en63 v) = (z48, z57, z28, z37, (gGet gt63 5 60000 z63 (5 :: en63 v)).1, z72, z79) from rfl, hG]), by rw [show erG 4 (5 :: en63 v) = (gGet gt63 5 60000 z63 (5 :: en63 v)).2 from rfl, hG]⟩) ?_
        (set_option smartUnfolding false in conv => whnf)
        refine dI (k := ?_)
        (set_option smartUnfolding false in conv => whnf)
        refine dI (k := ?_)
        (set_option smartUnfolding false in conv => whnf)
        refine ⟨((h0, h1, h2, h3, true, h5, h6), Y), ?_⟩
        conv => whnf
        refine And.intro (by simp only [allP, List.nil_append, List.cons_append, true_and]; repeat' (first | exact (hY ▸ hh) | rfl | refine And.intro ?_ ?_)) ?_
        (set_option smartUnfolding false in conv => whnf)
        have hA : PV.sl 1 (bl (5 :: en63 v)) = PV.sl 1 (bl (oT 5 en63 true Y.2.2.2.2.1)) := by rw [hY]; rfl
        refine dI (k := ?_)
        (set_option smartUnfolding false in conv => whnf)
        refine dI (k := ?_)
        (set_option smartUnfolding false in conv => whnf)
        refine ⟨(5 :: en63 v, 5 :: en63 v), ?_⟩
        conv => whnf
        refine And.intro (by simp only [allP, List.nil_append, List.cons_append, true_and]; exact ⟨hA, rfl, trivial⟩) ?_
        (set_option smartUnfolding false in conv => whnf)
        rw [decide_eq_true rfl]
        (set_option smartUnfolding false in conv => whnf)
        refine ⟨⟨5, by omega⟩, by simp only; omega, ?_⟩
        (set_option smartUnfolding false in conv => whnf)
        first | done | (and_intros <;> first | rfl | exact trivial)
    · show aw _ _ _ _ _ _ ⟨[(1, .p false (.sl 1 (bl b))), (18, isI .i64 5)], [], 99⟩
      rcases gGet_form rt72 6 60000 (by decide) z72 b with hG | ⟨v, hv, rfl, hl, hG⟩
      · (set_option smartUnfolding false in conv => whnf)
        obtain ⟨Y, hY⟩ : ∃ y, y = thG 5 b := ⟨_, rfl⟩
        refine ⟨(⟨5, by decide⟩, b, Y, 60), ?_⟩
        conv => whnf
        refine And.intro (by simp only [allP, List.nil_append, List.cons_append, true_and]; exact ⟨rfl, rfl, hY, by rw [show erG 5 b = (gGet gt72 6 60000 z72 b).2 from rfl, hG]⟩) ?_
        (set_option smartUnfolding false in conv => whnf)
        refine dI (k := ?_)
        (set_option smartUnfolding false in conv => whnf)
        refine ⟨⟨6, by omega⟩, by simp only; omega, ?_⟩
        (set_option smartUnfolding false in conv => whnf)
        first | done | (and_intros <;> first | rfl | exact trivial)
      · obtain ⟨h, hh, hhj⟩ := preZ5 hv hl
        obtain ⟨h0, h1, h2, h3, h4, h5, h6⟩ := h
        simp only at hhj
        subst hhj
        obtain ⟨Y, hY⟩ : ∃ y, y = (z48, z57, z28, z37, z63, v, z79) := ⟨_, rfl⟩
        (set_option smartUnfolding false in conv => whnf)
        refine ⟨(⟨5, by decide⟩, 6 :: en72 v, Y, 0), ?_⟩
        conv => whnf
        refine And.intro (by simp only [allP, List.nil_append, List.cons_append, true_and]; exact ⟨rfl, rfl, hY.trans (by rw [show thG 5 (6 :: en72 v) = (z48, z57, z28, z37, z63, (gGet gt72 6 60000 z72 (6 :: en72 v)).1, z79) from rfl, hG]), by rw [show erG 5 (6 :: en72 v) = (gGet gt72 6 60000 z72 (6 :: en72 v)).2 from rfl, hG]⟩) ?_
        (set_option smartUnfolding false in conv => whnf)
        refine dI (k := ?_)
        (set_option smartUnfolding false in conv => whnf)
        refine dI (k := ?_)
        (set_option smartUnfolding false in conv => whnf)
        refine ⟨((h0, h1, h2, h3, h4, true, h6), Y), ?_⟩
        conv => whnf
        refine And.intro (by simp only [allP, List.nil_append, List.cons_append, true_and]; repeat' (first | exact (hY ▸ hh) | rfl | refine And.intro ?_ ?_)) ?_
        (set_option smartUnfolding false in conv => whnf)
        have hA : PV.sl 1 (bl (6 :: en72 v)) = PV.sl 1 (bl (oT 6 en72 true Y.2.2.2.2.2.1)) := by rw [hY]; rfl
        refine dI (k := ?_)
        (set_option smartUnfolding false in conv => whnf)
        refine dI (k := ?_)
        (set_option smartUnfolding false in conv => whnf)
        refine ⟨(6 :: en72 v, 6 :: en72 v), ?_⟩
        conv => whnf
        refine And.intro (by simp only [allP, List.nil_append, List.cons_append, true_and]; exact ⟨hA, rfl, trivial⟩) ?_
        (set_option smartUnfolding false in conv => whnf)
        rw [decide_eq_true rfl]
        (set_option smartUnfolding false in conv => whnf)
        refine ⟨⟨6, by omega⟩, by simp only; omega, ?_⟩
        (set_option smartUnfolding false in conv => whnf)
        first | done | (and_intros <;> first | rfl | exact trivial)
    · show aw _ _ _ _ _ _ ⟨[(1, .p false (.sl 1 (bl b))), (18, isI .i64 6)], [], 99⟩
      rcases gGet_form rt79 7 65545 (by decide) z79 b with hG | ⟨v, hv, rfl, hl, hG⟩
      · (set_option smartUnfolding false in conv => whnf)
        obtain ⟨Y, hY⟩ : ∃ y, y = thG 6 b := ⟨_, rfl⟩
        refine ⟨(⟨6, by decide⟩, b, Y, 60), ?_⟩
        conv => whnf
        refine And.intro (by simp only [allP, List.nil_append, List.cons_append, true_and]; exact ⟨rfl, rfl, hY, by rw [show erG 6 b = (gGet gt79 7 65545 z79 b).2 from rfl, hG]⟩) ?_
        (set_option smartUnfolding false in conv => whnf)
        refine dI (k := ?_)
        (set_option smartUnfolding false in conv => whnf)
        refine ⟨⟨7, by omega⟩, by simp only; omega, ?_⟩
        (set_option smartUnfolding false in conv => whnf)
        first | done | (and_intros <;> first | rfl | exact trivial)
      · obtain ⟨h, hh, hhj⟩ := preZ6 hv hl
        obtain ⟨h0, h1, h2, h3, h4, h5, h6⟩ := h
        simp only at hhj
        subst hhj
        obtain ⟨Y, hY⟩ : ∃ y, y = (z48, z57, z28, z37, z63, z72, v) := ⟨_, rfl⟩
        (set_option smartUnfolding false in conv => whnf)
        refine ⟨(⟨6, by decide⟩, 7 :: en79 v, Y, 0), ?_⟩
        conv => whnf
        refine And.intro (by simp only [allP, List.nil_append, List.cons_append, true_and]; exact ⟨rfl, rfl, hY.trans (by rw [show thG 6 (7 :: en79 v) = (z48, z57, z28, z37, z63, z72, (gGet gt79 7 65545 z79 (7 :: en79 v)).1) from rfl, hG]), by rw [show erG 6 (7 :: en79 v) = (gGet gt79 7 65545 z79 (7 :: en79 v)).2 from rfl, hG]⟩) ?_
        (set_option smartUnfolding false in conv => whnf)
        refine dI (k := ?_)
        (set_option smartUnfolding false in conv => whnf)
        refine dI (k := ?_)
        (set_option smartUnfolding false in conv => whnf)
        refine ⟨((h0, h1, h2, h3, h4, h5, true), Y), ?_⟩
        conv => whnf
        refine And.intro (by simp only [allP, List.nil_append, List.cons_append, true_and]; repeat' (first | exact (hY ▸ hh) | rfl | refine And.intro ?_ ?_)) ?_
        (set_option smartUnfolding false in conv => whnf)
        have hA : PV.sl 1 (bl (7 :: en79 v)) = PV.sl 1 (bl (oT 7 en79 true Y.2.2.2.2.2.2)) := by rw [hY]; rfl
        refine dI (k := ?_)
        (set_option smartUnfolding false in conv => whnf)
        refine dI (k := ?_)
        (set_option smartUnfolding false in conv => whnf)
        refine ⟨(7 :: en79 v, 7 :: en79 v), ?_⟩
        conv => whnf
        refine And.intro (by simp only [allP, List.nil_append, List.cons_append, true_and]; exact ⟨hA, rfl, trivial⟩) ?_
        (set_option smartUnfolding false in conv => whnf)
        rw [decide_eq_true rfl]
        (set_option smartUnfolding false in conv => whnf)
        refine ⟨⟨7, by omega⟩, by simp only; omega, ?_⟩
        (set_option smartUnfolding false in conv => whnf)
        first | done | (and_intros <;> first | rfl | exact trivial)
    · show aw _ _ _ _ _ _ ⟨[(1, .p false (.sl 1 (bl b))), (18, isI .i64 7)], [], 99⟩
      (set_option smartUnfolding false in conv => whnf)
      refine ⟨(), ?_⟩
      conv => whnf
      refine And.intro (by simp only [allP, List.nil_append, List.cons_append, true_and]; skip) ?_
      (set_option smartUnfolding false in conv => whnf)
      first | done | (and_intros <;> first | rfl | exact trivial)
theorem WireBack_sound : Sound Tryz.prog 6 lawWireBackU := does_sound mixed tabOk_prog gBk_ok Tryz.func6 WireBack_does

end Go.Proofs.YtingmlhhabaplaaGreat.Ev
