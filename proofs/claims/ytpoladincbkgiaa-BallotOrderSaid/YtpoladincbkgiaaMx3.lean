/- Functions of the program as Lean functions, each with a proof that the Go code answers just so; written by a program of this session (mkprint.py). No conditions. -/
import Derived.Test.YtpoladincbkgiaaMx0
import Derived.Test.YtpoladincbkgiaaMx1
namespace Go.Proofs.Ytpoladincbkgiaa.M
open Go.RowKit Go.Proofs.YtpoladincbkgiaaW.PrintWords Go.Proofs.YtpoladincbkgiaaW.PrintLast Go.Proofs.YtpoladincbkgiaaW.PrintMore
attribute [local go_sem] max2_int min2_int max_two min_two max_three min_three max_four min_four   -- for this text's walks alone
set_option linter.unusedVariables false
set_option linter.unusedSimpArgs false

/-! ### conduitlaw02_SumsJoin: function 7 -/
/-- Three lists held against each other, bit by bit. -/
def conduitlaw02_SumsJoin.mix (a b c : List Int) (j : Nat) : Int := Go.bits .xor .u8 (Go.bits .xor .u8 (rd a (j : Int)) (rd b (j : Int))) (rd c (j : Int))
def conduitlaw02_SumsJoin.mixed (a b c : List Int) (i : Nat) : List Int := (List.range i).map (conduitlaw02_SumsJoin.mix a b c)
theorem conduitlaw02_SumsJoin.mixed_succ (a b c : List Int) (i : Nat) : conduitlaw02_SumsJoin.mixed a b c (i + 1) = conduitlaw02_SumsJoin.mixed a b c i ++ [conduitlaw02_SumsJoin.mix a b c i] := by simp [conduitlaw02_SumsJoin.mixed, List.range_succ]
theorem conduitlaw02_SumsJoin.mixed_length (a b c : List Int) (i : Nat) : (conduitlaw02_SumsJoin.mixed a b c i).length = i := by simp [conduitlaw02_SumsJoin.mixed]
/-- The sums, as numbers. -/
def conduitlaw02_SumsJoin.Sums (a b c : List Int) (n : Nat) : Prop := ∃ s t u v : Int, sums_Crc.f a = some s ∧ sums_More.f s b = some t ∧ sums_Crc.f (a ++ b) = some t ∧ sums_More.f 0 a = some s ∧
  sums_Crc.f b = some u ∧ sums_Crc.f c = some v ∧ sums_Crc.f (conduitlaw02_SumsJoin.mixed a b c n) = some (Go.bits .xor .u32 (Go.bits .xor .u32 s u) v)
theorem conduitlaw02_SumsJoin.crc_n (A : Option Addr) (c n : Nat) (l : List Int) (r : Int) (w : World) (hn : l.length = n) (hr : Kd.C (Kd.int .u8) w A n l) (hc : n ≤ c) (h : sums_Crc.f l = some r) :
    Calls Try.prog 14 #[.slice A n c] w fun e w' => e = .returned (.int .u32 r) ∧ Below w.heap.size w w' := by
  subst hn
  exact sums_Crc.calls _ _ l r _ hr hc h
theorem conduitlaw02_SumsJoin.more_n (s : Int) (A : Option Addr) (c n : Nat) (l : List Int) (r : Int) (w : World) (hn : l.length = n) (hr : Kd.C (Kd.int .u8) w A n l) (hc : n ≤ c) (h : sums_More.f s l = some r) :
    Calls Try.prog 15 #[.int .u32 s, .slice A n c] w fun e w' => e = .returned (.int .u32 r) ∧ Below w.heap.size w w' := by
  subst hn
  exact sums_More.calls _ _ _ l r _ hr hc h
theorem conduitlaw02_SumsJoin.copy_n (A : Option Addr) (c n : Nat) (l : List Int) (w : World) (hn : l.length = n) (hr : Kd.C (Kd.int .u8) w A n l) (hc : n ≤ c) (hl : n ≤ 20000) :
    Calls Try.prog 21 #[.slice A n c] w fun e w' => ∃ v : Value, e = .returned v ∧ Kd.R (Kd.int .u8) 5 w' w.heap.size (fun _ => True) v l ∧ Below w.heap.size w w' := by
  subst hn
  exact conduitlow_CopyBytes.calls _ _ l l _ hr hc (by unfold conduitlow_CopyBytes.f; rw [if_pos (by simp; omega)]; rfl)
def conduitlaw02_SumsJoin.T10 : Bool × List (List Nat × List Nat) := (true, [([], []), ([], []), ([], []), ([1, 2], [1, 2]), ([3], [3]), ([], []), ([], []), ([5, 6], [5, 6]), ([7], [7]), ([4, 8], [4, 8]), ([], []), ([], []), ([10, 11], [10, 11]), ([12], [12]), ([9, 13], [9, 13]), ([14], [14]), ([0, 15], [0, 15]), ([16, 16, 0, 1, 2, 3, 4, 5, 6, 7, 8, 9, 10, 11, 12, 13, 14, 15, 16], [0, 16])])
def conduitlaw02_SumsJoin.B10 : List Nat := [0, 0, 0, 6, 14, 0, 0, 96, 224, 510, 0, 0, 3072, 7168, 16382, 32766, 65535, 131071]
theorem conduitlaw02_SumsJoin.tab10 : rtab .any (opsOf Try.f7 10) = conduitlaw02_SumsJoin.T10 := by kernel_rfl
theorem conduitlaw02_SumsJoin.bits10 : waitsOk conduitlaw02_SumsJoin.T10.2 conduitlaw02_SumsJoin.B10 = true := by kernel_rfl
set_option maxHeartbeats 3200000 in
theorem conduitlaw02_SumsJoin.runs (n : Nat) (hn : n ≤ 20000) (m1 m2 m3 : Nat) (A1 A2 A3 : Option Addr) (c1 c2 c3 : Nat) (a b c : List Int) (w : World) (hm : mn (mn (mn (m1 : Int) (m2 : Int)) (m3 : Int)) 20000 = (n : Int))
    (k1 : m1 ≤ c1) (k2 : m2 ≤ c2) (k3 : m3 ≤ c3) (la : a.length = n) (lb : b.length = n) (lc : c.length = n)
    (ra : Kd.C (Kd.int .u8) w A1 n a) (rb : Kd.C (Kd.int .u8) w A2 n b) (rc : Kd.C (Kd.int .u8) w A3 n c) (S : conduitlaw02_SumsJoin.Sums a b c n) (aw : conduitlaw02_awake.f = some true) :
    Calls Try.prog 7 #[.slice A1 m1 c1, .slice A2 m2 c2, .slice A3 m3 c3] w fun e w' => e = .returned (.bool true) ∧ Below w.heap.size w w' := by
  have q1 : n ≤ m1 := by unfold mn at hm; split at hm <;> split at hm <;> split at hm <;> omega
  have q2 : n ≤ m2 := by unfold mn at hm; split at hm <;> split at hm <;> split at hm <;> omega
  have q3 : n ≤ m3 := by unfold mn at hm; split at hm <;> split at hm <;> split at hm <;> omega
  obtain ⟨s, t, u, v, p1, p2, p3, p4, p5, p6, p7⟩ := S
  obtain ⟨y, hy⟩ : ∃ y : List Int, a ++ b = y := ⟨_, rfl⟩
  rw [hy] at p3
  have HY := Aside0.mk hy
  clear hy
  have P1 := Aside0.mk p1
  have P2 := Aside0.mk p2
  have P3 := Aside0.mk p3
  have P4 := Aside0.mk p4
  have P5 := Aside0.mk p5
  have P6 := Aside0.mk p6
  have P7 := Aside0.mk p7
  have PA := Aside0.mk aw
  clear p1 p2 p3 p4 p5 p6 p7 aw
  obtain ⟨i0, hi0, _, hsz0, _⟩ := info_parts info5
  have cut1 := cut_to (P := Try.prog) 26 5 .i64 Try.underlying26 hi0 A1 m1 c1 (n : Int) (by omega) (by omega) k1
  have cut2 := cut_to (P := Try.prog) 26 5 .i64 Try.underlying26 hi0 A2 m2 c2 (n : Int) (by omega) (by omega) k2
  have cut3 := cut_to (P := Try.prog) 26 5 .i64 Try.underlying26 hi0 A3 m3 c3 (n : Int) (by omega) (by omega) k3
  rw [Int.toNat_natCast] at cut1 cut2 cut3
  obtain ⟨i1, e1⟩ : ∃ i : Int, mn (m1 : Int) (m2 : Int) = i := ⟨_, rfl⟩
  rw [e1] at hm
  obtain ⟨i2, e2⟩ : ∃ i : Int, mn i1 (m3 : Int) = i := ⟨_, rfl⟩
  rw [e2] at hm
  have f1 : (if m2 < m1 then (m2 : Int) else (m1 : Int)) = i1 := by rw [← e1]; unfold mn; split <;> split <;> omega
  have f2 : (if (m3 : Int) < i1 then (m3 : Int) else i1) = i2 := e2
  have f3 : (if 20000 < i2 then 20000 else i2) = (n : Int) := hm
  have RA := Aside0.mk ra
  have RB := Aside0.mk rb
  have RC := Aside0.mk rc
  have LA := Aside0.mk la
  have LB := Aside0.mk lb
  have LC := Aside0.mk lc
  have K1 : Aside0 (n ≤ c1) := ⟨by omega⟩
  have K2 : Aside0 (n ≤ c2) := ⟨by omega⟩
  have K3 : Aside0 (n ≤ c3) := ⟨by omega⟩
  have HN := Aside0.mk hn
  clear e1 e2 hm ra rb rc la lb lc k1 k2 k3 q1 q2 q3 hi0 hsz0 hn
  go_enter Try.func7, Try.ntmps7
  go_wp2
  go_quiet (fail)
  have B0 := Aside0.mk (pw_below_drewN (Below.refl w.heap.size w) nq)
  generalize w.drewN nq = w0 at B0 ⊢
  go_wp2_with fail
  refine (conduitlaw02_SumsJoin.copy_n _ _ _ a _ LA.out (Kd.C_below RA.out B0.out) K1.out HN.out).mono ?_
  rintro e w1 ⟨x1, rfl, o1, b1⟩
  have O1 := Aside0.mk (Kd.R_lower o1 B0.out.size)
  have B1 := Aside0.mk (below_then B0.out B0.out.size b1)
  clear o1 b1 B0
  go_upto_region 4 with ((with_reducible refine gate_builtin (b := .append) (xs := #[.tmp 28, .tmp 29]) rfl ?_); at_builtin; refine Kd.R_append_rows (Kd.int .u8) (w0 := w) w.heap.size rfl (.tmp 28) (.tmp 29) 26 5 (.int .u8 0) 1 rfl Try.underlying26 info5 rfl (by decide) (by omega) x1 a b A2 n c2 (fun _ => True) (fun _ => False) rfl rfl O1.out (Kd.C_below RB.out B1.out) (fun _ _ h => h) (fun _ h => h.elim) (fun _ _ => trivial) B1.out B1.out.size ?aL ?_; (case aL => have h1 := HN.out; have h2 := LA.out; omega); intro x2 w2 o2 b2 g2 at2; rw [HY.out] at o2; obtain ⟨A4, c4, e4, hc4, r4⟩ := Kd.R_reads o2; subst e4; have R4 := Aside0.mk r4; have HC4 := Aside0.mk hc4; have B2 := Aside0.mk b2; clear g2 at2 o2 b2 hc4 r4 O1 B1)
  go_wp2_with fail
  refine (conduitlaw02_SumsJoin.crc_n _ _ _ a s _ LA.out (Kd.C_below RA.out B2.out) K1.out P1.out).mono ?_
  rintro e w3 ⟨rfl, b⟩
  replace R4 := Aside0.mk (Kd.C_below R4.out b)
  have B3 := Aside0.mk (below_then B2.out B2.out.size b)
  clear b B2
  go_wp2_with fail
  refine (conduitlaw02_SumsJoin.more_n _ _ _ _ b t _ LB.out (Kd.C_below RB.out B3.out) K2.out P2.out).mono ?_
  rintro e w4 ⟨rfl, b⟩
  replace R4 := Aside0.mk (Kd.C_below R4.out b)
  have B4 := Aside0.mk (below_then B3.out B3.out.size b)
  clear b B3
  go_wp2_with fail
  refine (sums_Crc.calls _ _ _ t _ R4.out HC4.out P3.out).mono ?_
  rintro e w5 ⟨rfl, b⟩
  have B5 := Aside0.mk (below_then B4.out B4.out.size b)
  clear b B4 R4 HC4
  go_wp2_with fail
  refine (conduitlaw02_SumsJoin.more_n _ _ _ _ a s _ LA.out (Kd.C_below RA.out B5.out) K1.out P4.out).mono ?_
  rintro e w6 ⟨rfl, b⟩
  have B6 := Aside0.mk (below_then B5.out B5.out.size b)
  clear b B5
  go_wp2_with fail
  refine (conduitlaw02_SumsJoin.crc_n _ _ _ a s _ LA.out (Kd.C_below RA.out B6.out) K1.out P1.out).mono ?_
  rintro e w7 ⟨rfl, b⟩
  have B7 := Aside0.mk (below_then B6.out B6.out.size b)
  clear b B6
  go_wp2
  go_loopw [9, 10] (fun x9 i wr => ∃ k : Nat, k ≤ n ∧ i = .int .i64 k ∧ Kd.R (Kd.int .u8) 5 wr w.heap.size (fun _ => True) x9 (conduitlaw02_SumsJoin.mixed a b c k) ∧ Below w.heap.size w wr) (fun _ i _ => n - (intOf i).toNat)
  case atStart => exact ⟨0, Nat.zero_le _, rfl, Kd.R_nil _ _ _ _ _, B7.out⟩
  case round =>
    obtain ⟨k, hk, rfl, hx, hb⟩ := hrel
    have HX := Aside0.mk hx
    have HB := Aside0.mk hb
    have hlen : (n : Int) ≤ 9223372036854775807 := by have := HN.out; omega
    clear hx hb
    by_cases hlt : k < n
    · obtain ⟨ad1, e1, cw1⟩ := Kd.at_int RA.out (k : Int) (by omega) (by omega)
      obtain ⟨ad2, e2, cw2⟩ := Kd.at_int RB.out (k : Int) (by omega) (by omega)
      obtain ⟨ad3, e3, cw3⟩ := Kd.at_int RC.out (k : Int) (by omega) (by omega)
      subst e1 e2 e3
      simp only [Int.toNat_natCast] at cw1 cw2 cw3
      have cell1 := pw_cell_below HB.out cw1
      have cell2 := pw_cell_below HB.out cw2
      have cell3 := pw_cell_below HB.out cw3
      have CW1 := Aside0.mk cw1
      have CW2 := Aside0.mk cw2
      have CW3 := Aside0.mk cw3
      clear cw1 cw2 cw3
      go_wp2
      refine start_ (n := 18) (S := fun w' => w'.cell? (ad1.add k) = some (.int .u8 (rd a k)) ∧ w'.cell? (ad2.add k) = some (.int .u8 (rd b k)) ∧ w'.cell? (ad3.add k) = some (.int .u8 (rd c k))) (ds := []) #[false, false, false, false, false, false, false, false, false, false, false, false, false, false, false, false, false, false] (by kernel_rfl) rfl rfl ⟨cell1, cell2, cell3⟩ (fun hHeld => ?_)
      refine with_tabW conduitlaw02_SumsJoin.tab10 conduitlaw02_SumsJoin.bits10 (fun HT_ HW_ => ?_)
      have hs0 := Aside0.mk hHeld
      replace HX := Aside0.mk (Kd.R_drew HX.out)
      replace HB := Aside0.mk (below_drew HB.out)
      generalize wr.drew = w8 at HX HB hHeld hs0 ⊢
      refine pure_ (i := 0) (N := some 50) (v := ?_) (a' := ?_) #[true, false, false, false, false, false, false, false, false, false, false, false, false, false, false, false, false, false] rfl rfl (any_of HT_.out (by kernel_rfl)) (fun _ _ _ h => h) (Or.inl ⟨by rfl, ?_⟩) ?_ ?_
      rotate_left
      · intro w'
        go_simp
        with_reducible rfl
      rotate_left
      · simp only [Act.put, List.setIfInBounds_toArray, List.set_cons_zero, List.set_cons_succ, i64_w, i32_w]
        rfl
      refine pure_ (i := 1) (N := some 51) (v := ?_) (a' := ?_) #[true, true, false, false, false, false, false, false, false, false, false, false, false, false, false, false, false, false] rfl rfl (any_of HT_.out (by kernel_rfl)) (fun _ _ _ h => h) (Or.inl ⟨by rfl, ?_⟩) ?_ ?_
      rotate_left
      · intro w'
        go_simp
        with_reducible rfl
      rotate_left
      · simp only [Act.put, List.setIfInBounds_toArray, List.set_cons_zero, List.set_cons_succ, i64_w, i32_w]
        rfl
      refine pure_ (i := 2) (N := some 52) (v := ?_) (a' := ?_) #[true, true, true, false, false, false, false, false, false, false, false, false, false, false, false, false, false, false] rfl rfl (any_of HT_.out (by kernel_rfl)) (fun _ _ _ h => h) (Or.inl ⟨by rfl, ?_⟩) ?_ ?_
      rotate_left
      · intro w'
        go_simp
        with_reducible rfl
      rotate_left
      · simp only [Act.put, List.setIfInBounds_toArray, List.set_cons_zero, List.set_cons_succ, i64_w, i32_w]
        rfl
      refine pure_ (i := 3) (N := some 53) (v := ?_) (a' := ?_) #[true, true, true, true, false, false, false, false, false, false, false, false, false, false, false, false, false, false] rfl rfl (any_of HT_.out (by kernel_rfl)) (fun _ _ _ h => h) (Or.inl ⟨by rfl, ?_⟩) ?_ ?_
      rotate_left
      · intro w'
        go_simp
        with_reducible rfl
      rotate_left
      · simp only [Act.put, List.setIfInBounds_toArray, List.set_cons_zero, List.set_cons_succ, i64_w, i32_w]
        rfl
      refine pure_ (i := 5) (N := some 55) (v := ?_) (a' := ?_) #[true, true, true, true, false, true, false, false, false, false, false, false, false, false, false, false, false, false] rfl rfl (any_of HT_.out (by kernel_rfl)) (fun _ _ _ h => h) (Or.inl ⟨by rfl, ?_⟩) ?_ ?_
      rotate_left
      · intro w'
        go_simp
        with_reducible rfl
      rotate_left
      · simp only [Act.put, List.setIfInBounds_toArray, List.set_cons_zero, List.set_cons_succ, i64_w, i32_w]
        rfl
      refine pure_ (i := 6) (N := some 56) (v := ?_) (a' := ?_) #[true, true, true, true, false, true, true, false, false, false, false, false, false, false, false, false, false, false] rfl rfl (any_of HT_.out (by kernel_rfl)) (fun _ _ _ h => h) (Or.inl ⟨by rfl, ?_⟩) ?_ ?_
      rotate_left
      · intro w'
        go_simp
        with_reducible rfl
      rotate_left
      · simp only [Act.put, List.setIfInBounds_toArray, List.set_cons_zero, List.set_cons_succ, i64_w, i32_w]
        rfl
      refine pure_ (i := 7) (N := some 57) (v := ?_) (a' := ?_) #[true, true, true, true, false, true, true, true, false, false, false, false, false, false, false, false, false, false] rfl rfl (any_of HT_.out (by kernel_rfl)) (fun _ _ _ h => h) (Or.inl ⟨by rfl, ?_⟩) ?_ ?_
      rotate_left
      · intro w'
        go_simp
        with_reducible rfl
      rotate_left
      · simp only [Act.put, List.setIfInBounds_toArray, List.set_cons_zero, List.set_cons_succ, i64_w, i32_w]
        rfl
      refine pure_ (i := 10) (N := some 60) (v := ?_) (a' := ?_) #[true, true, true, true, false, true, true, true, false, false, true, false, false, false, false, false, false, false] rfl rfl (any_of HT_.out (by kernel_rfl)) (fun _ _ _ h => h) (Or.inl ⟨by rfl, ?_⟩) ?_ ?_
      rotate_left
      · intro w'
        go_simp
        with_reducible rfl
      rotate_left
      · simp only [Act.put, List.setIfInBounds_toArray, List.set_cons_zero, List.set_cons_succ, i64_w, i32_w]
        rfl
      refine pure_ (i := 11) (N := some 61) (v := ?_) (a' := ?_) #[true, true, true, true, false, true, true, true, false, false, true, true, false, false, false, false, false, false] rfl rfl (any_of HT_.out (by kernel_rfl)) (fun _ _ _ h => h) (Or.inl ⟨by rfl, ?_⟩) ?_ ?_
      rotate_left
      · intro w'
        go_simp
        with_reducible rfl
      rotate_left
      · simp only [Act.put, List.setIfInBounds_toArray, List.set_cons_zero, List.set_cons_succ, i64_w, i32_w]
        rfl
      refine pure_ (i := 12) (N := some 62) (v := ?_) (a' := ?_) #[true, true, true, true, false, true, true, true, false, false, true, true, true, false, false, false, false, false] rfl rfl (any_of HT_.out (by kernel_rfl)) (fun _ _ _ h => h) (Or.inl ⟨by rfl, ?_⟩) ?_ ?_
      rotate_left
      · intro w'
        go_simp
        with_reducible rfl
      rotate_left
      · simp only [Act.put, List.setIfInBounds_toArray, List.set_cons_zero, List.set_cons_succ, i64_w, i32_w]
        rfl
      refine take_ (i := 4) (N := some 54) (v := ?_) (a' := ?_) #[true, true, true, true, true, true, true, true, false, false, true, true, true, false, false, false, false, false] rfl rfl (take_ofW HT_.out HW_.out (by kernel_rfl)) (fun _ _ _ h => h) (Or.inl ⟨by rfl, ?_⟩) hHeld ?_ ?_
      rotate_left
      · rintro w' ⟨s0, s1, s2⟩
        go_simp
        with_reducible rfl
      rotate_left
      · simp only [Act.put, List.setIfInBounds_toArray, List.set_cons_zero, List.set_cons_succ, i64_w, i32_w]
        rfl
      refine take_ (i := 8) (N := some 58) (v := ?_) (a' := ?_) #[true, true, true, true, true, true, true, true, true, false, true, true, true, false, false, false, false, false] rfl rfl (take_ofW HT_.out HW_.out (by kernel_rfl)) (fun _ _ _ h => h) (Or.inl ⟨by rfl, ?_⟩) hHeld ?_ ?_
      rotate_left
      · rintro w' ⟨s0, s1, s2⟩
        go_simp
        with_reducible rfl
      rotate_left
      · simp only [Act.put, List.setIfInBounds_toArray, List.set_cons_zero, List.set_cons_succ, i64_w, i32_w]
        rfl
      refine pure_ (i := 9) (N := some 59) (v := ?_) (a' := ?_) #[true, true, true, true, true, true, true, true, true, true, true, true, true, false, false, false, false, false] rfl rfl (any_of HT_.out (by kernel_rfl)) (fun _ _ _ h => h) (Or.inl ⟨by rfl, ?_⟩) ?_ ?_
      rotate_left
      · intro w'
        go_simp
        with_reducible rfl
      rotate_left
      · simp only [Act.put, List.setIfInBounds_toArray, List.set_cons_zero, List.set_cons_succ, i64_w, i32_w]
        rfl
      refine take_ (i := 13) (N := some 63) (v := ?_) (a' := ?_) #[true, true, true, true, true, true, true, true, true, true, true, true, true, true, false, false, false, false] rfl rfl (take_ofW HT_.out HW_.out (by kernel_rfl)) (fun _ _ _ h => h) (Or.inl ⟨by rfl, ?_⟩) hHeld ?_ ?_
      rotate_left
      · rintro w' ⟨s0, s1, s2⟩
        go_simp
        with_reducible rfl
      rotate_left
      · simp only [Act.put, List.setIfInBounds_toArray, List.set_cons_zero, List.set_cons_succ, i64_w, i32_w]
        rfl
      refine pure_ (i := 14) (N := some 64) (v := ?_) (a' := ?_) #[true, true, true, true, true, true, true, true, true, true, true, true, true, true, true, false, false, false] rfl rfl (any_of HT_.out (by kernel_rfl)) (fun _ _ _ h => h) (Or.inl ⟨by rfl, ?_⟩) ?_ ?_
      rotate_left
      · intro w'
        go_simp
        with_reducible rfl
      rotate_left
      · simp only [Act.put, List.setIfInBounds_toArray, List.set_cons_zero, List.set_cons_succ, i64_w, i32_w]
        rfl
      refine one_ (i := 15) (N := some 65) #[true, true, true, true, true, true, true, true, true, true, true, true, true, true, true, true, false, false] rfl rfl (one_of HT_.out (by kernel_rfl)) (by decide) (fun K hK => ?_)
      refine value_ (w1 := ?_) (v := ?_) (by rfl) rfl ?_ ?_
      rotate_left 2
      · go_simp
        constructor
        · rfl
        · rfl
      refine hK.out _ _ ⟨(World.cell?_alloc_lt _ _ _ (World.block_lt_of_cell? _ _ hs0.out.1)).trans hs0.out.1, (World.cell?_alloc_lt _ _ _ (World.block_lt_of_cell? _ _ hs0.out.2.1)).trans hs0.out.2.1, (World.cell?_alloc_lt _ _ _ (World.block_lt_of_cell? _ _ hs0.out.2.2)).trans hs0.out.2.2⟩ (fun hHeld => ?_)
      clear hK K
      refine norm_ (a' := ?_) ?_ ?_
      rotate_left
      · show Act.put _ (some 65) _ = _
        simp only [Act.put, List.setIfInBounds_toArray, List.set_cons_zero, List.set_cons_succ, i64_w, i32_w]
        rfl
      refine one_ (i := 16) (N := some 66) #[true, true, true, true, true, true, true, true, true, true, true, true, true, true, true, true, true, false] rfl rfl (one_of HT_.out (by kernel_rfl)) (by decide) (fun K hK => ?_)
      refine Kd.R_append_step (Kd.int .u8) (w0 := w) w.heap.size (by rfl) (.tmp 50) (.tmp 65) 26 5 (.int .u8 0) 1 rfl Try.underlying26 info5 rfl (by decide) (by omega) u9 (conduitlaw02_SumsJoin.mixed a b c k) (conduitlaw02_SumsJoin.mix a b c k) [.int .u8 (conduitlaw02_SumsJoin.mix a b c k)] (fun _ => True) (fun _ => False) rfl rfl rfl (fun _ hk => hk.elim) (fun _ _ => trivial) HX.out HB.out HB.out.size ?aL ?_
      (case aL => rw [conduitlaw02_SumsJoin.mixed_length]; have := HN.out; omega)
      intro x9' w9 ho hb _ _
      rw [← conduitlaw02_SumsJoin.mixed_succ] at ho
      refine hK.out _ _ ⟨pw_cell_below hb CW1.out, pw_cell_below hb CW2.out, pw_cell_below hb CW3.out⟩ (fun hHeld => ?_)
      clear hK K
      refine norm_ (a' := ?_) ?_ ?_
      rotate_left
      · show Act.put _ (some 66) _ = _
        simp only [Act.put, List.setIfInBounds_toArray, List.set_cons_zero, List.set_cons_succ, i64_w, i32_w]
        rfl
      refine pure_ (i := 17) (N := some 9) (v := ?_) (a' := ?_) #[true, true, true, true, true, true, true, true, true, true, true, true, true, true, true, true, true, true] rfl rfl (any_of HT_.out (by kernel_rfl)) (fun _ _ _ h => h) (Or.inl ⟨by rfl, ?_⟩) ?_ ?_
      rotate_left
      · intro w'
        go_simp
        with_reducible rfl
      rotate_left
      · simp only [Act.put, List.setIfInBounds_toArray, List.set_cons_zero, List.set_cons_succ, i64_w, i32_w]
        rfl
      refine done_ (done_of HT_.out (by kernel_rfl)) ?_
      go_wp2
      go_roundw
      case rel => exact ⟨k + 1, by omega, by go_num, ho, hb⟩
      case measure => simp [intOf]; omega
    · obtain rfl : k = n := by omega
      obtain ⟨Ax, cx, ex, hcx, rx⟩ := Kd.R_reads HX.out
      subst ex
      obtain ⟨z, hz⟩ : ∃ z : List Int, conduitlaw02_SumsJoin.mixed a b c k = z := ⟨_, rfl⟩
      rw [hz] at hcx rx
      have HCX := Aside0.mk hcx
      have RX := Aside0.mk rx
      have PZ : Aside0 (sums_Crc.f z = some (Go.bits .xor .u32 (Go.bits .xor .u32 s u) v)) := ⟨by rw [← hz]; exact P7.out⟩
      rw [hz]
      clear hcx rx HX P7 hz hlt
      go_wp2_with fail
      refine (sums_Crc.calls _ _ _ _ _ RX.out HCX.out PZ.out).mono ?_
      rintro e w8 ⟨rfl, q⟩
      have B8 := Aside0.mk (below_then HB.out HB.out.size q)
      clear q HB
      go_wp2_with fail
      refine (conduitlaw02_SumsJoin.crc_n _ _ _ a s _ LA.out (Kd.C_below RA.out B8.out) K1.out P1.out).mono ?_
      rintro e w9 ⟨rfl, q⟩
      have B9 := Aside0.mk (below_then B8.out B8.out.size q)
      clear q B8
      go_wp2_with fail
      refine (conduitlaw02_SumsJoin.crc_n _ _ _ b u _ LB.out (Kd.C_below RB.out B9.out) K2.out P5.out).mono ?_
      rintro e w10 ⟨rfl, q⟩
      have B10 := Aside0.mk (below_then B9.out B9.out.size q)
      clear q B9
      go_wp2_with fail
      refine (conduitlaw02_SumsJoin.crc_n _ _ _ c v _ LC.out (Kd.C_below RC.out B10.out) K3.out P6.out).mono ?_
      rintro e w11 ⟨rfl, q⟩
      have B11 := Aside0.mk (below_then B10.out B10.out.size q)
      clear q B10
      go_wp2_with fail
      refine (conduitlaw02_awake.calls _ _ PA.out).mono ?_
      rintro e w12 ⟨rfl, q⟩
      have B12 := Aside0.mk (below_then B11.out B11.out.size q)
      clear q B11
      go_wp2
      go_ret
      exact ⟨rfl, B12.out⟩
def conduitlaw02_SumsJoin.Pure : Prop := ∀ (n : Nat) (a b c : List Int), n ≤ 20000 → a.length = n → b.length = n → c.length = n → (∀ x ∈ a, (Lit.int .u8 x).wf = true) → (∀ x ∈ b, (Lit.int .u8 x).wf = true) → (∀ x ∈ c, (Lit.int .u8 x).wf = true) →
  conduitlaw02_SumsJoin.Sums a b c n ∧ conduitlaw02_awake.f = some true
theorem conduitlaw02_SumsJoin.walk (P : conduitlaw02_SumsJoin.Pure) (a0 : Option Addr) (len0 cap0 : Nat) (z0 : List Int) (a1 : Option Addr) (len1 cap1 : Nat) (z1 : List Int) (a2 : Option Addr) (len2 cap2 : Nat) (z2 : List Int) (w : World)
    (w0 : (a0 = none ∧ len0 = 0 ∧ cap0 = 0 ∧ z0 = []) ∨ ∃ x, a0 = some x ∧ len0 ≤ cap0 ∧ cap0 ≤ maxLen ∧ z0.length = cap0 ∧ (∀ i, i < z0.length → w.cell? (x.add i) = some (.int .u8 (z0.getD i 0))) ∧ ∀ n ∈ z0, (Lit.int .u8 n).wf = true) (y0 : len0 * 1 ≤ 140737488351232)
    (w1 : (a1 = none ∧ len1 = 0 ∧ cap1 = 0 ∧ z1 = []) ∨ ∃ x, a1 = some x ∧ len1 ≤ cap1 ∧ cap1 ≤ maxLen ∧ z1.length = cap1 ∧ (∀ i, i < z1.length → w.cell? (x.add i) = some (.int .u8 (z1.getD i 0))) ∧ ∀ n ∈ z1, (Lit.int .u8 n).wf = true) (y1 : len1 * 1 ≤ 140737488351232)
    (w2 : (a2 = none ∧ len2 = 0 ∧ cap2 = 0 ∧ z2 = []) ∨ ∃ x, a2 = some x ∧ len2 ≤ cap2 ∧ cap2 ≤ maxLen ∧ z2.length = cap2 ∧ (∀ i, i < z2.length → w.cell? (x.add i) = some (.int .u8 (z2.getD i 0))) ∧ ∀ n ∈ z2, (Lit.int .u8 n).wf = true) (y2 : len2 * 1 ≤ 140737488351232) :
    Calls Try.prog 7 #[.slice a0 len0 cap0, .slice a1 len1 cap1, .slice a2 len2 cap2] w fun e w' => e = .returned (.bool true) ∧ Below w.heap.size w w' := by
  obtain ⟨l0, rfl, hr0, hm0, hw0, hc0⟩ := ReadsInt.ofRowC w0
  obtain ⟨l1, rfl, hr1, hm1, hw1, hc1⟩ := ReadsInt.ofRowC w1
  obtain ⟨l2, rfl, hr2, hm2, hw2, hc2⟩ := ReadsInt.ofRowC w2
  obtain ⟨n, hn⟩ : ∃ n : Nat, mn (mn (mn (l0.length : Int) (l1.length : Int)) (l2.length : Int)) 20000 = (n : Int) := ⟨(mn (mn (mn (l0.length : Int) (l1.length : Int)) (l2.length : Int)) 20000).toNat, by unfold mn; split <;> split <;> split <;> omega⟩
  have h0 : n ≤ l0.length := by unfold mn at hn; split at hn <;> split at hn <;> split at hn <;> omega
  have h1 : n ≤ l1.length := by unfold mn at hn; split at hn <;> split at hn <;> split at hn <;> omega
  have h2 : n ≤ l2.length := by unfold mn at hn; split at hn <;> split at hn <;> split at hn <;> omega
  have h3 : n ≤ 20000 := by unfold mn at hn; split at hn <;> split at hn <;> split at hn <;> omega
  have e0 : (l0.take n).length = n := by rw [List.length_take]; omega
  have e1 : (l1.take n).length = n := by rw [List.length_take]; omega
  have e2 : (l2.take n).length = n := by rw [List.length_take]; omega
  have r0 := Kd.C_take (m := n) (Kd.C_of_reads (d := (0 : Int)) (h1 := fun _ => rfl) hr0) h0
  have r1 := Kd.C_take (m := n) (Kd.C_of_reads (d := (0 : Int)) (h1 := fun _ => rfl) hr1) h1
  have r2 := Kd.C_take (m := n) (Kd.C_of_reads (d := (0 : Int)) (h1 := fun _ => rfl) hr2) h2
  rw [e0] at r0
  rw [e1] at r1
  rw [e2] at r2
  obtain ⟨S, aw⟩ := P n (l0.take n) (l1.take n) (l2.take n) h3 e0 e1 e2 (fun x hx => hw0 x (List.mem_of_mem_take hx)) (fun x hx => hw1 x (List.mem_of_mem_take hx)) (fun x hx => hw2 x (List.mem_of_mem_take hx))
  exact conduitlaw02_SumsJoin.runs n h3 l0.length l1.length l2.length a0 a1 a2 cap0 cap1 cap2 _ _ _ w hn hc0 hc1 hc2 e0 e1 e2 r0 r1 r2 S aw


/-! ### ballot_Majority: function 25 -/
def ballot_Majority.f (a0 : Int) (a1 : Int) : Option (Bool) := some (decide (a0 > (wrap64 (a1 - a0))))
set_option maxHeartbeats 8000000 in
set_option maxRecDepth 100000 in
theorem ballot_Majority.calls (a0 : Int) (a1 : Int) (r : Bool) (w : World) (h : ballot_Majority.f a0 a1 = some r) :
    Calls Try.prog 25 #[.int .i64 a0, .int .i64 a1] w fun e w' => e = .returned (.bool r) ∧ Drawn0 w w' := by
  have H : (some (decide (a0 > (wrap64 (a1 - a0))))) = some r := h
  clear h
  obtain rfl := Option.some.inj H
  go_enter Try.func25, Try.ntmps25
  go_wp2
  go_ret
  exact ⟨by first | rfl | (simp; done) | (simp [*]; done), by repeat (first | exact Drawn0.refl _ | apply Drawn0.step)⟩

end Go.Proofs.Ytpoladincbkgiaa.M
