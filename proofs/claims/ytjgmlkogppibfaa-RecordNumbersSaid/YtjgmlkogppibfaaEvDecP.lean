/- Batches read: plain laws. No conditions. -/
import Derived.Test.YtjgmlkogppibfaaEvRecP
namespace Go.Proofs.Ytjgmlkogppibfaa.Ev
open Go
set_option linter.unusedVariables false
set_option linter.unusedSimpArgs false
def mx (x y : Int) : Int := if x < y then y else x
/-- A number is read: its bytes stand there. -/
theorem vGet_cases (l : List UInt8) (a : Nat) (ha : a ≤ l.length) :
    (vGet l (a : Int) = (0, 0, false) ∧ ∀ v t, v < 18446744073709551616 → l.drop a ≠ vE v ++ t) ∨
    (∃ v c : Nat, v < 18446744073709551616 ∧ 0 < c ∧ c ≤ 10 ∧ a + c ≤ l.length ∧ vGet l (a : Int) = ((v : Int), ((a + c : Nat) : Int), true) ∧ l.drop a = vE v ++ l.drop (a + c)) := by
  rcases vGet_form l (a : Int) with h | ⟨v, hv, h0, h1, h2, h3⟩
  · refine Or.inl ⟨h, fun v t hv e => ?_⟩
    have hp := vGet_put (l.take a) t hv
    rw [List.append_assoc, ← e, List.take_append_drop, List.length_take, Nat.min_eq_left ha, h] at hp
    have := congrArg (fun x => x.2.2) hp
    cases this
  · refine Or.inr ⟨v, vCnt v, hv, vCnt_pos v, vCnt_le v hv, by omega, by rw [h2]; simp, ?_⟩
    rw [Int.toNat_natCast] at h3
    rw [← h3, ← List.drop_drop, List.take_append_drop]
theorem mx_up (a c : Nat) : mx ((a + c : Nat) : Int) (a : Int) = ((a + c : Nat) : Int) := by unfold mx; rw [if_neg (by omega)]
theorem mx_zero (a : Nat) : mx 0 (a : Int) = (a : Int) := by unfold mx; split <;> omega
theorem vI_no {l : List UInt8} {a : Nat} {x : Int} {t : List UInt8} (hx : i64R x) (h : ∀ v t, v < 18446744073709551616 → l.drop a ≠ vE v ++ t) : l.drop a ≠ vE (zig x) ++ t := h _ _ (zig_lt hx.1 hx.2)
theorem vI_eq {x : Int} {v : Nat} (hx : i64R x) (h : zig x = v) : unzig (v : Int) = x := by rw [← h]; exact unzig_zig x hx.1 hx.2
theorem zig_of {v : Nat} : zig (unzig (v : Int)) = v := zig_unzig v
/-- The beginning of a batch is read. -/
theorem hdr_law {b : List UInt8} (h12 : 12 ≤ b.length) {g1 g2 g3 g4 : Int × Int × Bool} (h1 : vGet b 12 = g1) (h2 : vGet b (mx g1.2.1 12) = g2) (h3 : vGet b (mx g2.2.1 (mx g1.2.1 12)) = g3) (h4 : vGet b (mx g3.2.1 (mx g2.2.1 (mx g1.2.1 12))) = g4) :
    ((((g1.2.2 && g2.2.2) && g3.2.2) && (g4.2.2 && decide (g4.1 ≤ 256))) = true → i64R (unzig g1.1) ∧ i64R (unzig g2.1) ∧ i64R (unzig g3.1) ∧ ∃ n a : Nat, g4.1 = (n : Int) ∧ n ≤ 256 ∧ mx g4.2.1 (mx g3.2.1 (mx g2.2.1 (mx g1.2.1 12))) = (a : Int) ∧ 12 ≤ a ∧ a ≤ b.length ∧ b.drop 12 = hdB (unzig g1.1) (unzig g2.1) (unzig g3.1) n ++ b.drop a) ∧
    ((((g1.2.2 && g2.2.2) && g3.2.2) && (g4.2.2 && decide (g4.1 ≤ 256))) = false → badE b) := by
  have e12 : ((12 : Nat) : Int) = 12 := rfl
  have key : ∀ {m x}, okE m x → enB m x = b → b.drop 12 = vE (zig x.1) ++ (vE (zig x.2.1) ++ (vE (zig x.2.2.1) ++ (vE x.2.2.2.length ++ recsB x.2.2.2))) := by
    intro m x ho he
    rw [← enB_in he, inB, hdB]
    simp only [List.append_assoc]
  rcases vGet_cases b 12 h12 with ⟨q1, n1⟩ | ⟨v1, c1, l1, z1, t1, b1, q1, d1⟩
  · rw [e12, h1] at q1
    rw [q1]
    refine ⟨fun h => by simp at h, fun _ m x ho he => vI_no ho.2.1 n1 (key ho he)⟩
  rw [e12, h1] at q1
  subst q1
  simp only [mx_up 12 c1, ← e12] at h2 h3 h4 ⊢
  have k1 : ∀ {m x}, okE m x → enB m x = b → zig x.1 = v1 ∧ b.drop (12 + c1) = vE (zig x.2.1) ++ (vE (zig x.2.2.1) ++ (vE x.2.2.2.length ++ recsB x.2.2.2)) := by
    intro m x ho he
    have := key ho he
    rw [d1] at this
    obtain ⟨p, q⟩ := vE_sd l1 (zig_lt ho.2.1.1 ho.2.1.2) this
    exact ⟨p.symm, q⟩
  rcases vGet_cases b (12 + c1) b1 with ⟨q2, n2⟩ | ⟨v2, c2, l2, z2, t2, b2, q2, d2⟩
  · rw [h2] at q2
    rw [q2]
    refine ⟨fun h => by simp at h, fun _ m x ho he => vI_no ho.2.2.1 n2 (k1 ho he).2⟩
  rw [h2] at q2
  subst q2
  simp only [mx_up (12 + c1) c2] at h3 h4 ⊢
  have k2 : ∀ {m x}, okE m x → enB m x = b → b.drop (12 + c1 + c2) = vE (zig x.2.2.1) ++ (vE x.2.2.2.length ++ recsB x.2.2.2) := by
    intro m x ho he
    have := (k1 ho he).2
    rw [d2] at this
    exact (vE_sd l2 (zig_lt ho.2.2.1.1 ho.2.2.1.2) this).2
  rcases vGet_cases b (12 + c1 + c2) b2 with ⟨q3, n3⟩ | ⟨v3, c3, l3, z3, t3, b3, q3, d3⟩
  · rw [h3] at q3
    rw [q3]
    refine ⟨fun h => by simp at h, fun _ m x ho he => vI_no ho.2.2.2.1 n3 (k2 ho he)⟩
  rw [h3] at q3
  subst q3
  simp only [mx_up (12 + c1 + c2) c3] at h4 ⊢
  have k3 : ∀ {m x}, okE m x → enB m x = b → b.drop (12 + c1 + c2 + c3) = vE x.2.2.2.length ++ recsB x.2.2.2 := by
    intro m x ho he
    have := k2 ho he
    rw [d3] at this
    exact (vE_sd l3 (zig_lt ho.2.2.2.1.1 ho.2.2.2.1.2) this).2
  rcases vGet_cases b (12 + c1 + c2 + c3) b3 with ⟨q4, n4⟩ | ⟨v4, c4, l4, z4, t4, b4, q4, d4⟩
  · rw [h4] at q4
    rw [q4]
    refine ⟨fun h => by simp at h, fun _ m x ho he => n4 _ _ ?_ (k3 ho he)⟩
    have := ((rgt_iff x).1 ho.2.2.2.2.1).1
    omega
  rw [h4] at q4
  subst q4
  simp only [mx_up (12 + c1 + c2 + c3) c4, Bool.true_and, decide_eq_true_eq, decide_eq_false_iff_not]
  refine ⟨fun h => ⟨unzig_bd (by omega) (by omega), unzig_bd (by omega) (by omega), unzig_bd (by omega) (by omega), v4, 12 + c1 + c2 + c3 + c4, rfl, by omega, rfl, by omega, b4, ?_⟩, fun h m x ho he => ?_⟩
  · rw [hdB, zig_of, zig_of, zig_of, d1, d2, d3, d4]
    simp only [List.append_assoc]
  · have := k3 ho he
    rw [d4] at this
    have hx := ((rgt_iff x).1 ho.2.2.2.2.1).1
    have := (vE_sd l4 (by omega) this).1
    omega
/-- So far a batch is read. -/
def soFar (b : List UInt8) (p e f : Int) (N : Nat) (rs : List (List UInt8)) (a : Nat) : Prop :=
  12 ≤ b.length ∧ b.length ≤ 60000 ∧ i64R p ∧ i64R e ∧ i64R f ∧ N ≤ 256 ∧ rs.length ≤ N ∧ (∀ r ∈ rs, r.length ≤ 1024) ∧ 12 ≤ a ∧ a ≤ b.length ∧ b.drop 12 = hdB p e f N ++ (recsB rs ++ b.drop a)
theorem soFar_x {b : List UInt8} {p e f : Int} {N : Nat} {rs : List (List UInt8)} {a : Nat} (h : soFar b p e f N rs a) {m : Int} {x : BT} (ho : okE m x) (he : enB m x = b) : x.1 = p ∧ x.2.1 = e ∧ x.2.2.1 = f ∧ x.2.2.2.length = N ∧ recsB x.2.2.2 = recsB rs ++ b.drop a := by
  obtain ⟨h1, h2, h3, h4, h5, h6, h7, h8, h9, h10, h11⟩ := h
  have hi := enB_in he
  rw [h11, inB] at hi
  have hx := ((rgt_iff x).1 ho.2.2.2.2.1).1
  obtain ⟨a1, a2, a3, a4, a5⟩ := hdB_sd ho.2.1 ho.2.2.1 ho.2.2.2.1 (by omega) h3 h4 h5 (by omega) hi
  exact ⟨a1, a2, a3, a4, a5⟩
theorem soFar_next {b : List UInt8} {p e f : Int} {N : Nat} {rs : List (List UInt8)} {a : Nat} (h : soFar b p e f N rs a) (hN : rs.length < N) {m : Int} {x : BT} (ho : okE m x) (he : enB m x = b) : ∃ z t, z.length ≤ 1024 ∧ b.drop a = vE z.length ++ (z ++ t) := by
  obtain ⟨_, _, _, h4, h5⟩ := soFar_x h ho he
  obtain ⟨z, hz, t, ht⟩ := recsB_next (rgt_lt ho.2.2.2.2.1) (fun r hr => by have := h.2.2.2.2.2.2.2.1 r hr; omega) (by rw [h4]; exact hN) h5
  exact ⟨z, t, ((rgt_iff x).1 ho.2.2.2.2.1).2 z hz, by rw [ht, recB, List.append_assoc]⟩
/-- One row more. -/
theorem row_law {b : List UInt8} {p e f : Int} {N : Nat} {rs : List (List UInt8)} {a : Nat} (h : soFar b p e f N rs a) (hN : rs.length < N) :
    (vGet b (a : Int) = (0, 0, false) ∧ badE b) ∨ ∃ v c : Nat, v < 18446744073709551616 ∧ 0 < c ∧ c ≤ 10 ∧ a + c ≤ b.length ∧ vGet b (a : Int) = ((v : Int), ((a + c : Nat) : Int), true) ∧
      (¬ v ≤ 1024 → badE b) ∧ (b.length < a + c + v → badE b) ∧ (v ≤ 1024 → a + c + v ≤ b.length → soFar b p e f N (rs ++ [(b.drop (a + c)).take v]) (a + c + v)) := by
  have hnext := fun {m x} => @soFar_next b p e f N rs a h hN m x
  obtain ⟨h1, h2, h3, h4, h5, h6, h7, h8, h9, h10, h11⟩ := h
  rcases vGet_cases b a h10 with ⟨q, n⟩ | ⟨v, c, hv, hc, hc2, hl, q, d⟩
  · refine Or.inl ⟨q, fun m x ho he => ?_⟩
    obtain ⟨z, t, hz, ht⟩ := hnext ho he
    exact n _ _ (by omega) ht
  · have hz : ∀ {m x}, okE m x → enB m x = b → ∃ z t, z.length ≤ 1024 ∧ v = z.length ∧ b.drop (a + c) = z ++ t := by
      intro m x ho he
      obtain ⟨z, t, hz, ht⟩ := hnext ho he
      rw [d] at ht
      obtain ⟨e1, e2⟩ := vE_sd hv (by omega) ht
      exact ⟨z, t, hz, e1, e2⟩
    refine Or.inr ⟨v, c, hv, hc, hc2, hl, q, fun hv2 m x ho he => ?_, fun hlt m x ho he => ?_, fun hv2 hle => ?_⟩
    · obtain ⟨z, t, hz, e1, _⟩ := hz ho he
      omega
    · obtain ⟨z, t, hz, e1, e2⟩ := hz ho he
      have := congrArg List.length e2
      rw [List.length_drop, List.length_append] at this
      omega
    · have hrl : ((b.drop (a + c)).take v).length = v := by rw [List.length_take, List.length_drop]; omega
      refine ⟨h1, h2, h3, h4, h5, h6, by simp; omega, fun r hr => ?_, by omega, hle, ?_⟩
      · rcases List.mem_append.1 hr with hr | hr
        · exact h8 r hr
        · obtain rfl : r = (b.drop (a + c)).take v := by simpa using hr
          omega
      · rw [recsB_app, recsB_one, recB, hrl, h11, d]
        congr 1
        rw [List.append_assoc, List.append_assoc, ← List.drop_drop (i := v), List.take_append_drop]
/-- All is read. -/
theorem end_law {b : List UInt8} {p e f : Int} {N : Nat} {rs : List (List UInt8)} {a : Nat} (h : soFar b p e f N rs a) (hN : rs.length = N) :
    (a ≠ b.length → badE b) ∧ (a = b.length → (numN b 8 4 ≠ crV 0 (b.drop 12) → badE b) ∧ (numN b 8 4 = crV 0 (b.drop 12) → ∀ m : Int, i64R m → numN b 0 8 = u64N m → okE m (p, e, f, rs) ∧ enB m (p, e, f, rs) = b)) := by
  refine ⟨fun ha m x ho he => ?_, fun ha => ⟨fun hs m x ho he => hs (sum_of he).1, fun hs m hm hb => ?_⟩⟩
  · obtain ⟨_, _, _, h4, h5⟩ := soFar_x h ho he
    have h6 : recsB x.2.2.2 ++ [] = recsB rs ++ b.drop a := by rw [List.append_nil]; exact h5
    have := (recsB_sd (rgt_lt ho.2.2.2.2.1) (fun r hr => by have := h.2.2.2.2.2.2.2.1 r hr; omega) (by omega) h6).2
    have hl := congrArg List.length this
    rw [List.length_drop] at hl
    have := h.2.2.2.2.2.2.2.2.2.1
    simp at hl
    omega
  · obtain ⟨h1, h2, h3, h4, h5, h6, h7, h8, h9, h10, h11⟩ := h
    have hin : inB (p, e, f, rs) = b.drop 12 := by
      rw [h11, ha, List.drop_length, List.append_nil, inB, hN]
    refine ⟨⟨hm, h3, h4, h5, (rgt_iff _).2 ⟨by show rs.length ≤ 256; omega, h8⟩, by rw [hin, List.length_drop]; omega⟩, enB_of h1 hin hs hb⟩
def mn (x y : Int) : Int := if y < x then y else x
/-- One row more, as the program has it. -/
theorem row_law2 {b : List UInt8} {p e f : Int} {N : Nat} {rs : List (List UInt8)} {a : Nat} (h : soFar b p e f N rs a) (hN : rs.length < N) {g : Int × Int × Bool} (hg : vGet b (a : Int) = g) :
    ∃ A z : Nat, mx g.2.1 (a : Int) = (A : Int) ∧ mn g.1 ((1024 : Nat) : Int) = (z : Int) ∧ a ≤ A ∧ A ≤ b.length ∧ z ≤ 1024 ∧ (b.length < A + z → badE b) ∧
      ((g.2.2 && decide (g.1 ≤ ((1024 : Nat) : Int))) = false → badE b) ∧ ((g.2.2 && decide (g.1 ≤ ((1024 : Nat) : Int))) = true → A + z ≤ b.length → soFar b p e f N (rs ++ [(b.drop A).take z]) (A + z)) := by
  have ha := h.2.2.2.2.2.2.2.2.2.1
  rcases row_law h hN with ⟨q, hb⟩ | ⟨v, c, hv, hc, hc2, hl, q, k1, k2, k3⟩
  · rw [hg] at q
    subst q
    exact ⟨a, 0, mx_zero a, rfl, Nat.le_refl _, ha, by omega, fun _ => hb, fun _ => hb, fun h => by simp at h⟩
  · rw [hg] at q
    subst q
    by_cases hv2 : v ≤ 1024
    · refine ⟨a + c, v, mx_up a c, by unfold mn; rw [if_neg (by omega)], by omega, hl, hv2, k2, fun h => ?_, fun _ h => k3 hv2 h⟩
      rw [Bool.true_and, decide_eq_false_iff_not] at h
      omega
    · refine ⟨a + c, 1024, mx_up a c, by unfold mn; rw [if_pos (by show ((1024 : Nat) : Int) < (v : Int); omega)], by omega, hl, Nat.le_refl _, fun _ => k1 hv2, fun _ => k1 hv2, fun h => ?_⟩
      rw [Bool.true_and, decide_eq_true_eq] at h
      omega
/-- 64 bits with a sign. -/
theorem i64_of (n : Nat) (h : n < 18446744073709551616) : i64R (IntKind.i64.wrap (n : Int)) ∧ n = u64N (IntKind.i64.wrap (n : Int)) := by
  have e : IntKind.i64.wrap (n : Int) = ((n : Int) + 9223372036854775808) % 18446744073709551616 - 9223372036854775808 := by rw [IntKind.wrap_i64]
  rw [e]
  unfold i64R u64N
  omega
/-- The beginning of a batch, as the document reads it. -/
theorem hdr_ref {b : List UInt8} (h12 : 12 ≤ b.length) {g1 g2 g3 g4 : Int × Int × Bool} (h1 : vGet b 12 = g1) (h2 : vGet b g1.2.1 = g2) (h3 : vGet b g2.2.1 = g3) (h4 : vGet b g3.2.1 = g4) :
    ((((g1.2.2 && g2.2.2) && g3.2.2) && (g4.2.2 && decide (g4.1 ≤ 256))) = true → i64R (unzig g1.1) ∧ i64R (unzig g2.1) ∧ i64R (unzig g3.1) ∧ ∃ n a : Nat, g4.1 = (n : Int) ∧ n ≤ 256 ∧ g4.2.1 = (a : Int) ∧ 12 ≤ a ∧ a ≤ b.length ∧ b.drop 12 = hdB (unzig g1.1) (unzig g2.1) (unzig g3.1) n ++ b.drop a) ∧
    ((((g1.2.2 && g2.2.2) && g3.2.2) && (g4.2.2 && decide (g4.1 ≤ 256))) = false → badE b) := by
  have e12 : ((12 : Nat) : Int) = 12 := rfl
  have hl := hdr_law h12 (g1 := vGet b 12) rfl rfl rfl rfl
  rcases vGet_cases b 12 h12 with ⟨q1, n1⟩ | ⟨v1, c1, l1, z1, t1, b1, q1, d1⟩
  · rw [e12] at q1
    rw [q1] at h1 hl
    subst h1
    exact ⟨fun h => by simp at h, fun _ => hl.2 (by simp)⟩
  rw [e12] at q1
  rw [q1] at h1 hl
  subst h1
  simp only [mx_up 12 c1, ← e12] at h2 hl
  rcases vGet_cases b (12 + c1) b1 with ⟨q2, n2⟩ | ⟨v2, c2, l2, z2, t2, b2, q2, d2⟩
  · rw [q2] at h2 hl
    subst h2
    exact ⟨fun h => by simp at h, fun _ => hl.2 (by simp)⟩
  rw [q2] at h2 hl
  subst h2
  simp only [mx_up (12 + c1) c2] at h3 hl
  rcases vGet_cases b (12 + c1 + c2) b2 with ⟨q3, n3⟩ | ⟨v3, c3, l3, z3, t3, b3, q3, d3⟩
  · rw [q3] at h3 hl
    subst h3
    exact ⟨fun h => by simp at h, fun _ => hl.2 (by simp)⟩
  rw [q3] at h3 hl
  subst h3
  simp only [mx_up (12 + c1 + c2) c3] at h4 hl
  rcases vGet_cases b (12 + c1 + c2 + c3) b3 with ⟨q4, n4⟩ | ⟨v4, c4, l4, z4, t4, b4, q4, d4⟩
  · rw [q4] at h4 hl
    subst h4
    exact ⟨fun h => by simp at h, fun _ => hl.2 (by simp)⟩
  rw [q4] at h4 hl
  subst h4
  simp only [mx_up (12 + c1 + c2 + c3) c4] at hl
  exact hl
/-- All is read, as the document asks. -/
theorem end_ref {b : List UInt8} {p e f : Int} {N : Nat} {rs : List (List UInt8)} {a : Nat} (h : soFar b p e f N rs a) (hN : rs.length = N) {m : Int} (hm : i64R m) (hb : numN b 0 8 = u64N m) :
    rgt (p, e, f, rs) = true ∧ 12 + (inB (p, e, f, rs)).length ≤ 60000 ∧ okE m (p, e, f, rs) ∧ (enB m (p, e, f, rs) ≠ b → badE b) := by
  have hx := fun {m x} => @soFar_x b p e f N rs a h m x
  obtain ⟨h1, h2, h3, h4, h5, h6, h7, h8, h9, h10, h11⟩ := h
  have hr : rgt (p, e, f, rs) = true := (rgt_iff _).2 ⟨by show rs.length ≤ 256; omega, h8⟩
  have hl : 12 + (inB (p, e, f, rs)).length ≤ 60000 := by
    have := congrArg List.length h11
    rw [← List.append_assoc, List.length_append, List.length_drop] at this
    unfold inB
    simp only [hN]
    omega
  refine ⟨hr, hl, ⟨hm, h3, h4, h5, hr, hl⟩, fun hne m' x ho he => hne ?_⟩
  obtain ⟨a1, a2, a3, a4, a5⟩ := hx ho he
  have h6' : recsB x.2.2.2 ++ [] = recsB rs ++ b.drop a := by rw [List.append_nil]; exact a5
  have a6 := (recsB_sd (rgt_lt ho.2.2.2.2.1) (fun r hr => by have := h8 r hr; omega) (by omega) h6').1
  have a7 := (sum_of he).2
  obtain rfl : m' = m := u64N_inj ho.1 hm (by omega)
  obtain rfl : x = (p, e, f, rs) := Prod.ext a1 (Prod.ext a2 (Prod.ext a3 a6))
  exact he
end Go.Proofs.Ytjgmlkogppibfaa.Ev
