/- Functions of the program as Lean functions, each with a proof that the Go code answers just so; written by a program of this session (mkprint.py). No conditions. -/
import Derived.Test.YtpoladincbkgiaaMx0
import Derived.Test.YtpoladincbkgiaaMx1
namespace Go.Proofs.Ytpoladincbkgiaa.M
open Go.RowKit Go.Proofs.YtpoladincbkgiaaW.PrintWords Go.Proofs.YtpoladincbkgiaaW.PrintLast Go.Proofs.YtpoladincbkgiaaW.PrintMore
attribute [local go_sem] max2_int min2_int max_two min_two max_three min_three max_four min_four   -- for this text's walks alone
set_option linter.unusedVariables false
set_option linter.unusedSimpArgs false

/-! ### conduitlaw02_SumsJoin: function 7 -/
/-- Three lists held against each other, bit by bit. -/
def conduitlaw02_SumsJoin.mix (a b c : List Int) (j : Nat) : Int := Go.bits .xor .u8 (Go.bits .xor .u8 (rd a (j : Int)) (rd b (j : Int))) (rd c (j : Int))
def conduitlaw02_SumsJoin.mixed (a b c : List Int) (i : Nat) : List Int := (List.range i).map (conduitlaw02_SumsJoin.mix a b c)
theorem conduitlaw02_SumsJoin.mixed_succ (a b c : List Int) (i : Nat) : conduitlaw02_SumsJoin.mixed a b c (i + 1) = conduitlaw02_SumsJoin.mixed a b c i ++ [conduitlaw02_SumsJoin.mix a b c i] := by simp [conduitlaw02_SumsJoin.mixed, List.range_succ]
theorem conduitlaw02_SumsJoin.mixed_length (a b c : List Int) (i : Nat) : (conduitlaw02_SumsJoin.mixed a b c i).length = i := by simp [conduitlaw02_SumsJoin.mixed]
/-- The sums, as numbers. -/
def conduitlaw02_SumsJoin.Sums (a b c : List Int) (n : Nat) : Prop := ∃ s t u v : Int, sums_Crc.f a = some s ∧ sums_More.f s b = some t ∧ sums_Crc.f (a ++ b) = some t ∧ sums_More.f 0 a = some s ∧
  sums_Crc.f b = some u ∧ sums_Crc.f c = some v ∧ sums_Crc.f (conduitlaw02_SumsJoin.mixed a b c n) = some (Go.bits .xor .u32 (Go.bits .xor .u32 s u) v)
theorem conduitlaw02_SumsJoin.crc_n (A : Option Addr) (c n : Nat) (l : List Int) (r : Int) (w : World) (hn : l.length = n) (hr : Kd.C (Kd.int .u8) w A n l) (hc : n ≤ c) (h : sums_Crc.f l = some r) :
    Calls Try.prog 14 #[.slice A n c] w fun e w' => e = .returned (.int .u32 r) ∧ Below w.heap.size w w' := by
  subst hn
  exact sums_Crc.calls _ _ l r _ hr hc h
theorem conduitlaw02_SumsJoin.more_n (s : Int) (A : Option Addr) (c n : Nat) (l : List Int) (r : Int) (w : World) (hn : l.length = n) (hr : Kd.C (Kd.int .u8) w A n l) (hc : n ≤ c) (h : sums_More.f s l = some r) :
    Calls Try.prog 15 #[.int .u32 s, .slice A n c] w fun e w' => e = .returned (.int .u32 r) ∧ Below w.heap.size w w' := by
  subst hn
  exact sums_More.calls _ _ _ l r _ hr hc h
theorem conduitlaw02_SumsJoin.copy_n (A : Option Addr) (c n : Nat) (l : List Int) (w : World) (hn : l.length = n) (hr : Kd.C (Kd.int .u8) w A n l) (hc : n ≤ c) (hl : n ≤ 20000) :
    Calls Try.prog 21 #[.slice A n c] w fun e w' => ∃ v : Value, e = .returned v ∧ Kd.R (Kd.int .u8) 5 w' w.heap.size (fun _ => True) v l ∧ Below w.heap.size w w' := by
  subst hn
  exact conduitlow_CopyBytes.calls _ _ l l _ hr hc (by unfold conduitlow_CopyBytes.f; rw [if_pos (by simp; omega)]; rfl)
def conduitlaw02_SumsJoin.T10 : Bool × List (List Nat × List Nat) := (true, [([], []), ([], []), ([], []), ([1, 2], [1, 2]), ([3], [3]), ([], []), ([], []), ([5, 6], [5, 6]), ([7], [7]), ([4, 8], [4, 8]), ([], []), ([], []), ([10, 11], [10, 11]), ([12], [12]), ([9, 13], [9, 13]), ([14], [14]), ([0, 15], [0, 15]), ([16, 16, 0, 1, 2, 3, 4, 5, 6, 7, 8, 9, 10, 11, 12, 13, 14, 15, 16], [0, 16])])
def conduitlaw02_SumsJoin.B10 : List Nat := [0, 0, 0, 6, 14, 0, 0, 96, 224, 510, 0, 0, 3072, 7168, 16382, 32766, 65535, 131071]
theorem conduitlaw02_SumsJoin.tab10 : rtab .any (opsOf Try.f7 10) = conduitlaw02_SumsJoin.T10 := by kernel_rfl
theorem conduitlaw02_SumsJoin.bits10 : waitsOk conduitlaw02_SumsJoin.T10.2 conduitlaw02_SumsJoin.B10 = true := by kernel_rfl
set_option maxHeartbeats 3200000 in
theorem conduitlaw02_SumsJoin.runs (n : Nat) (hn : n ≤ 20000) (m1 m2 m3 : Nat) (A1 A2 A3 : Option Addr) (c1 c2 c3 : Nat) (a b c : List Int) (w : World) (hm : mn (mn (mn (m1 : Int) (m2 : Int)) (m3 : Int)) 20000 = (n : Int))
    (k1 : m1 ≤ c1) (k2 : m2 ≤ c2) (k3 : m3 ≤ c3) (la : a.length = n) (lb : b.length = n) (lc : c.length = n)
    (ra : Kd.C (Kd.int .u8) w A1 n a) (rb : Kd.C (Kd.int .u8) w A2 n b) (rc : Kd.C (Kd.int .u8) w A3 n c) (S : conduitlaw02_SumsJoin.Sums a b c n) (aw : conduitlaw02_awake.f = some true) :
    Calls Try.prog 7 #[.slice A1 m1 c1, .slice A2 m2 c2, .slice A3 m3 c3] w fun e w' => e = .returned (.bool true) ∧ Below w.heap.size w w' := by
  have q1 : n ≤ m1 := by unfold mn at hm; split at hm <;> split at hm <;> split at hm <;> omega
  have q2 : n ≤ m2 := by unfold mn at hm; split at hm <;> split at hm <;> split at hm <;> omega
  have q3 : n ≤ m3 := by unfold mn at hm; split at hm <;> split at hm <;> split at hm <;> omega
  obtain ⟨s, t, u, v, p1, p2, p3, p4, p5, p6, p7⟩ := S
  obtain ⟨y, hy⟩ : ∃ y : List Int, a ++ b = y := ⟨_, rfl⟩
  rw [hy] at p3
  have HY := Aside0.mk hy
  clear hy
  have P1 := Aside0.mk p1
  have P2 := Aside0.mk p2
  have P3 := Aside0.mk p3
  have P4 := Aside0.mk p4
  have P5 := Aside0.mk p5
  have P6 := Aside0.mk p6
  have P7 := Aside0.mk p7
  have PA := Aside0.mk aw
  clear p1 p2 p3 p4 p5 p6 p7 aw
  obtain ⟨i0, hi0, _, hsz0, _⟩ := info_parts info5
  have cut1 := cut_to (P := Try.prog) 26 5 .i64 Try.underlying26 hi0 A1 m1 c1 (n : Int) (by omega) (by omega) k1
  have cut2 := cut_to (P := Try.prog) 26 5 .i64 Try.underlying26 hi0 A2 m2 c2 (n : Int) (by omega) (by omega) k2
  have cut3 := cut_to (P := Try.prog) 26 5 .i64 Try.underlying26 hi0 A3 m3 c3 (n : Int) (by omega) (by omega) k3
  rw [Int.toNat_natCast] at cut1 cut2 cut3
  obtain ⟨i1, e1⟩ : ∃ i : Int, mn (m1 : Int) (m2 : Int) = i := ⟨_, rfl⟩
  rw [e1] at hm
  obtain ⟨i2, e2⟩ : ∃ i : Int, mn i1 (m3 : Int) = i := ⟨_, rfl⟩
  rw [e2] at hm
  have f1 : (if m2 < m1 then (m2 : Int) else (m1 : Int)) = i1 := by rw [← e1]; unfold mn; split <;> split <;> omega
  have f2 : (if (m3 : Int) < i1 then (m3 : Int) else i1) = i2 := e2
  have f3 : (if 20000 < i2 then 20000 else i2) = (n : Int) := hm
  have RA := Aside0.mk ra
  have RB := Aside0.mk rb
  have RC := Aside0.mk rc
  have LA := Aside0.mk la
  have LB := Aside0.mk lb
  have LC := Aside0.mk lc
  have K1 : Aside0 (n ≤ c1) := ⟨by omega⟩
  have K2 : Aside0 (n ≤ c2) := ⟨by omega⟩
  have K3 : Aside0 (n ≤ c3) := ⟨by omega⟩
  have HN := Aside0.mk hn
  clear e1 e2 hm ra rb rc la lb lc k1 k2 k3 q1 q2 q3 hi0 hsz0 hn
  go_enter Try.func7, Try.ntmps7
  go_wp2
  go_quiet (fail)
  have B0 := Aside0.mk (pw_below_drewN (Below.refl w.heap.size w) nq)
  generalize w.drewN nq = w0 at B0 ⊢
  go_wp2_with fail
  refine (conduitlaw02_SumsJoin.copy_n _ _ _ a _ LA.out (Kd.C_below RA.out B0.out) K1.out HN.out).mono ?_
  rintro e w1 ⟨x1, rfl, o1, b1⟩
  have O1 := Aside0.mk (Kd.R_lower o1 B0.out.size)
  have B1 := Aside0.mk (below_then B0.out B0.out.size b1)
  clear o1 b1 B0
  go_upto_region 4 with ((with_reducible refine gate_builtin (b := .append) (xs := #[.tmp 28, .tmp 29]) rfl ?_); at_builtin; refine Kd.R_append_rows (Kd.int .u8) (w0 := w) w.heap.size rfl (.tmp 28) (.tmp 29) 26 5 (.int .u8 0) 1 rfl Try.underlying26 info5 rfl (by decide) (by omega) x1 a b A2 n c2 (fun _ => True) (fun _ => False) rfl rfl O1.out (Kd.C_below RB.out B1.out) (fun _ _ h => h) (fun _ h => h.elim) (fun _ _ => trivial) B1.out B1.out.size ?aL ?_; (case aL => have h1 := HN.out; have h2 := LA.out; omega); intro x2 w2 o2 b2 g2 at2; rw [HY.out] at o2; obtain ⟨A4, c4, e4, hc4, r4⟩ := Kd.R_reads o2; subst e4; have R4 := Aside0.mk r4; have HC4 := Aside0.mk hc4; have B2 := Aside0.mk b2; clear g2 at2 o2 b2 hc4 r4 O1 B1)
  go_wp2_with fail
  refine (conduitlaw02_SumsJoin.crc_n _ _ _ a s _ LA.out (Kd.C_below RA.out B2.out) K1.out P1.out).mono ?_
  rintro e w3 ⟨rfl, b⟩
  replace R4 := Aside0.mk (Kd.C_below R4.out b)
  have B3 := Aside0.mk (below_then B2.out B2.out.size b)
  clear b B2
  go_wp2_with fail
  refine (conduitlaw02_SumsJoin.more_n _ _ _ _ b t _ LB.out (Kd.C_below RB.out B3.out) K2.out P2.out).mono ?_
  rintro e w4 ⟨rfl, b⟩
  replace R4 := Aside0.mk (Kd.C_below R4.out b)
  have B4 := Aside0.mk (below_then B3.out B3.out.size b)
  clear b B3
  go_wp2_with fail
  refine (sums_Crc.calls _ _ _ t _ R4.out HC4.out P3.out).mono ?_
  rintro e w5 ⟨rfl, b⟩
  have B5 := Aside0.mk (below_then B4.out B4.out.size b)
  clear b B4 R4 HC4
  go_wp2_with fail
  refine (conduitlaw02_SumsJoin.more_n _ _ _ _ a s _ LA.out (Kd.C_below RA.out B5.out) K1.out P4.out).mono ?_
  rintro e w6 ⟨rfl, b⟩
  have B6 := Aside0.mk (below_then B5.out B5.out.size b)
  clear b B5
  go_wp2_with fail
  refine (conduitlaw02_SumsJoin.crc_n _ _ _ a s _ LA.out (Kd.C_below RA.out B6.out) K1.out P1.out).mono ?_
  rintro e w7 ⟨rfl, b⟩
  have B7 := Aside0.mk (below_then B6.out B6.out.size b)
  clear b B6
  go_wp2
  go_loopw [9, 10] (fun x9 i wr => ∃ k : Nat, k ≤ n ∧ i = .int .i64 k ∧ Kd.R (Kd.int .u8) 5 wr w.heap.size (fun _ => True) x9 (conduitlaw02_SumsJoin.mixed a b c k) ∧ Below w.heap.size w wr) (fun _ i _ => n - (intOf i).toNat)
  case atStart => exact ⟨0, Nat.zero_le _, rfl, Kd.R_nil _ _ _ _ _, B7.out⟩
  case round =>
    obtain ⟨k, hk, rfl, hx, hb⟩ := hrel
    have HX := Aside0.mk hx
    have HB := Aside0.mk hb
    have hlen : (n : Int) ≤ 9223372036854775807 := by have := HN.out; omega
    clear hx hb
    by_cases hlt : k < n
    · obtain ⟨ad1, e1, cw1⟩ := Kd.at_int RA.out (k : Int) (by omega) (by omega)
      obtain ⟨ad2, e2, cw2⟩ := Kd.at_int RB.out (k : Int) (by omega) (by omega)
      obtain ⟨ad3, e3, cw3⟩ := Kd.at_int RC.out (k : Int) (by omega) (by omega)
      subst e1 e2 e3
      simp only [Int.toNat_natCast] at cw1 cw2 cw3
      have cell1 := pw_cell_below HB.out cw1
      have cell2 := pw_cell_below HB.out cw2
      have cell3 := pw_cell_below HB.out cw3
      have CW1 := Aside0.mk cw1
      have CW2 := Aside0.mk cw2
      have CW3 := Aside0.mk cw3
      clear cw1 cw2 cw3
      go_wp2
      refine start_ (n := 18) (S := fun w' => w'.cell? (ad1.add k) = some (.int .u8 (rd a k)) ∧ w'.cell? (ad2.add k) = some (.int .u8 (rd b k)) ∧ w'.cell? (ad3.add k) = some (.int .u8 (rd c k))) (ds := []) #[false, false, false, false, false, false, false, false, false, false, false, false, false, false, false, false, false, false] (by kernel_rfl) rfl rfl ⟨cell1, cell2, cell3⟩ (fun hHeld => ?_)
      refine with_tabW conduitlaw02_SumsJoin.tab10 conduitlaw02_SumsJoin.bits10 (fun HT_ HW_ => ?_)
      have hs0 := Aside0.mk hHeld
      replace HX := Aside0.mk (Kd.R_drew HX.out)
      replace HB := Aside0.mk (below_drew HB.out)
      generalize wr.drew = w8 at HX HB hHeld hs0 ⊢
      refine pure_ (i := 0) (N := some 50) (v := ?_) (a' := ?_) #[true, false, false, false, false, false, false, false, false, false, false, false, false, false, false, false, false, false] rfl rfl (any_of HT_.out (by kernel_rfl)) (fun _ _ _ h => h) (Or.inl ⟨by rfl, ?_⟩) ?_ ?_
      rotate_left
      · intro w'
        go_simp
        with_reducible rfl
      rotate_left
      · simp only [Act.put, List.setIfInBounds_toArray, List.set_cons_zero, List.set_cons_succ, i64_w, i32_w]
        rfl
      refine pure_ (i := 1) (N := some 51) (v := ?_) (a' := ?_) #[true, true, false, false, false, false, false, false, false, false, false, false, false, false, false, false, false, false] rfl rfl (any_of HT_.out (by kernel_rfl)) (fun _ _ _ h => h) (Or.inl ⟨by rfl, ?_⟩) ?_ ?_
      rotate_left
      · intro w'
        go_simp
        with_reducible rfl
      rotate_left
      · simp only [Act.put, List.setIfInBounds_toArray, List.set_cons_zero, List.set_cons_succ, i64_w, i32_w]
        rfl
      refine pure_ (i := 2) (N := some 52) (v := ?_) (a' := ?_) #[true, true, true, false, false, false, false, false, false, false, false, false, false, false, false, false, false, false] rfl rfl (any_of HT_.out (by kernel_rfl)) (fun _ _ _ h => h) (Or.inl ⟨by rfl, ?_⟩) ?_ ?_
      rotate_left
      · intro w'
        go_simp
        with_reducible rfl
      rotate_left
      · simp only [Act.put, List.setIfInBounds_toArray, List.set_cons_zero, List.set_cons_succ, i64_w, i32_w]
        rfl
      refine pure_ (i := 3) (N := some 53) (v := ?_) (a' := ?_) #[true, true, true, true, false, false, false, false, false, false, false, false, false, false, false, false, false, false] rfl rfl (any_of HT_.out (by kernel_rfl)) (fun _ _ _ h => h) (Or.inl ⟨by rfl, ?_⟩) ?_ ?_
      rotate_left
      · intro w'
        go_simp
        with_reducible rfl
      rotate_left
      · simp only [Act.put, List.setIfInBounds_toArray, List.set_cons_zero, List.set_cons_succ, i64_w, i32_w]
        rfl
      refine pure_ (i := 5) (N := some 55) (v := ?_) (a' := ?_) #[true, true, true, true, false, true, false, false, false, false, false, false, false, false, false, false, false, false] rfl rfl (any_of HT_.out (by kernel_rfl)) (fun _ _ _ h => h) (Or.inl ⟨by rfl, ?_⟩) ?_ ?_
      rotate_left
      · intro w'
        go_simp
        with_reducible rfl
      rotate_left
      · simp only [Act.put, List.setIfInBounds_toArray, List.set_cons_zero, List.set_cons_succ, i64_w, i32_w]
        rfl
      refine pure_ (i := 6) (N := some 56) (v := ?_) (a' := ?_) #[true, true, true, true, false, true, true, false, false, false, false, false, false, false, false, false, false, false] rfl rfl (any_of HT_.out (by kernel_rfl)) (fun _ _ _ h => h) (Or.inl ⟨by rfl, ?_⟩) ?_ ?_
      rotate_left
      · intro w'
        go_simp
        with_reducible rfl
      rotate_left
      · simp only [Act.put, List.setIfInBounds_toArray, List.set_cons_zero, List.set_cons_succ, i64_w, i32_w]
        rfl
      refine pure_ (i := 7) (N := some 57) (v := ?_) (a' := ?_) #[true, true, true, true, false, true, true, true, false, false, false, false, false, false, false, false, false, false] rfl rfl (any_of HT_.out (by kernel_rfl)) (fun _ _ _ h => h) (Or.inl ⟨by rfl, ?_⟩) ?_ ?_
      rotate_left
      · intro w'
        go_simp
        with_reducible rfl
      rotate_left
      · simp only [Act.put, List.setIfInBounds_toArray, List.set_cons_zero, List.set_cons_succ, i64_w, i32_w]
        rfl
      refine pure_ (i := 10) (N := some 60) (v := ?_) (a' := ?_) #[true, true, true, true, false, true, true, true, false, false, true, false, false, false, false, false, false, false] rfl rfl (any_of HT_.out (by kernel_rfl)) (fun _ _ _ h => h) (Or.inl ⟨by rfl, ?_⟩) ?_ ?_
      rotate_left
      · intro w'
        go_simp
        with_reducible rfl
      rotate_left
      · simp only [Act.put, List.setIfInBounds_toArray, List.set_cons_zero, List.set_cons_succ, i64_w, i32_w]
        rfl
      refine pure_ (i := 11) (N := some 61) (v := ?_) (a' := ?_) #[true, true, true, true, false, true, true, true, false, false, true, true, false, false, false, false, false, false] rfl rfl (any_of HT_.out (by kernel_rfl)) (fun _ _ _ h => h) (Or.inl ⟨by rfl, ?_⟩) ?_ ?_
      rotate_left
      · intro w'
        go_simp
        with_reducible rfl
      rotate_left
      · simp only [Act.put, List.setIfInBounds_toArray, List.set_cons_zero, List.set_cons_succ, i64_w, i32_w]
        rfl
      refine pure_ (i := 12) (N := some 62) (v := ?_) (a' := ?_) #[true, true, true, true, false, true, true, true, false, false, true, true, true, false, false, false, false, false] rfl rfl (any_of HT_.out (by kernel_rfl)) (fun _ _ _ h => h) (Or.inl ⟨by rfl, ?_⟩) ?_ ?_
      rotate_left
      · intro w'
        go_simp
        with_reducible rfl
      rotate_left
      · simp only [Act.put, List.setIfInBounds_toArray, List.set_cons_zero, List.set_cons_succ, i64_w, i32_w]
        rfl
      refine take_ (i := 4) (N := some 54) (v := ?_) (a' := ?_) #[true, true, true, true, true, true, true, true, false, false, true, true, true, false, false, false, false, false] rfl rfl (take_ofW HT_.out HW_.out (by kernel_rfl)) (fun _ _ _ h => h) (Or.inl ⟨by rfl, ?_⟩) hHeld ?_ ?_
      rotate_left
      · rintro w' ⟨s0, s1, s2⟩
        go_simp
        with_reducible rfl
      rotate_left
      · simp only [Act.put, List.setIfInBounds_toArray, List.set_cons_zero, List.set_cons_succ, i64_w, i32_w]
        rfl
      refine take_ (i := 8) (N := some 58) (v := ?_) (a' := ?_) #[true, true, true, true, true, true, true, true, true, false, true, true, true, false, false, false, false, false] rfl rfl (take_ofW HT_.out HW_.out (by kernel_rfl)) (fun _ _ _ h => h) (Or.inl ⟨by rfl, ?_⟩) hHeld ?_ ?_
      rotate_left
      · rintro w' ⟨s0, s1, s2⟩
        go_simp
        with_reducible rfl
      rotate_left
      · simp only [Act.put, List.setIfInBounds_toArray, List.set_cons_zero, List.set_cons_succ, i64_w, i32_w]
        rfl
      refine pure_ (i := 9) (N := some 59) (v := ?_) (a' := ?_) #[true, true, true, true, true, true, true, true, true, true, true, true, true, false, false, false, false, false] rfl rfl (any_of HT_.out (by kernel_rfl)) (fun _ _ _ h => h) (Or.inl ⟨by rfl, ?_⟩) ?_ ?_
      rotate_left
      · intro w'
        go_simp
        with_reducible rfl
      rotate_left
      · simp only [Act.put, List.setIfInBounds_toArray, List.set_cons_zero, List.set_cons_succ, i64_w, i32_w]
        rfl
      refine take_ (i := 13) (N := some 63) (v := ?_) (a' := ?_) #[true, true, true, true, true, true, true, true, true, true, true, true, true, true, false, false, false, false] rfl rfl (take_ofW HT_.out HW_.out (by kernel_rfl)) (fun _ _ _ h => h) (Or.inl ⟨by rfl, ?_⟩) hHeld ?_ ?_
      rotate_left
      · rintro w' ⟨s0, s1, s2⟩
        go_simp
        with_reducible rfl
      rotate_left
      · simp only [Act.put, List.setIfInBounds_toArray, List.set_cons_zero, List.set_cons_succ, i64_w, i32_w]
        rfl
      refine pure_ (i := 14) (N := some 64) (v := ?_) (a' := ?_) #[true, true, true, true, true, true, true, true, true, true, true, true, true, true, true, false, false, false] rfl rfl (any_of HT_.out (by kernel_rfl)) (fun _ _ _ h => h) (Or.inl ⟨by rfl, ?_⟩) ?_ ?_
      rotate_left
      · intro w'
        go_simp
        with_reducible rfl
      rotate_left
      · simp only [Act.put, List.setIfInBounds_toArray, List.set_cons_zero, List.set_cons_succ, i64_w, i32_w]
        rfl
      refine one_ (i := 15) (N := some 65) #[true, true, true, true, true, true, true, true, true, true, true, true, true, true, true, true, false, false] rfl rfl (one_of HT_.out (by kernel_rfl)) (by decide) (fun K hK => ?_)
      refine value_ (w1 := ?_) (v := ?_) (by rfl) rfl ?_ ?_
      rotate_left 2
      · go_simp
        constructor
        · rfl
        · rfl
      refine hK.out _ _ ⟨(World.cell?_alloc_lt _ _ _ (World.block_lt_of_cell? _ _ hs0.out.1)).trans hs0.out.1, (World.cell?_alloc_lt _ _ _ (World.block_lt_of_cell? _ _ hs0.out.2.1)).trans hs0.out.2.1, (World.cell?_alloc_lt _ _ _ (World.block_lt_of_cell? _ _ hs0.out.2.2)).trans hs0.out.2.2⟩ (fun hHeld => ?_)
      clear hK K
      refine norm_ (a' := ?_) ?_ ?_
      rotate_left
      · show Act.put _ (some 65) _ = _
        simp only [Act.put, List.setIfInBounds_toArray, List.set_cons_zero, List.set_cons_succ, i64_w, i32_w]
        rfl
      refine one_ (i := 16) (N := some 66) #[true, true, true, true, true, true, true, true, true, true, true, true, true, true, true, true, true, false] rfl rfl (one_of HT_.out (by kernel_rfl)) (by decide) (fun K hK => ?_)
      refine Kd.R_append_step (Kd.int .u8) (w0 := w) w.heap.size (by rfl) (.tmp 50) (.tmp 65) 26 5 (.int .u8 0) 1 rfl Try.underlying26 info5 rfl (by decide) (by omega) u9 (conduitlaw02_SumsJoin.mixed a b c k) (conduitlaw02_SumsJoin.mix a b c k) [.int .u8 (conduitlaw02_SumsJoin.mix a b c k)] (fun _ => True) (fun _ => False) rfl rfl rfl (fun _ hk => hk.elim) (fun _ _ => trivial) HX.out HB.out HB.out.size ?aL ?_
      (case aL => rw [conduitlaw02_SumsJoin.mixed_length]; have := HN.out; omega)
      intro x9' w9 ho hb _ _
      rw [← conduitlaw02_SumsJoin.mixed_succ] at ho
      refine hK.out _ _ ⟨pw_cell_below hb CW1.out, pw_cell_below hb CW2.out, pw_cell_below hb CW3.out⟩ (fun hHeld => ?_)
      clear hK K
      refine norm_ (a' := ?_) ?_ ?_
      rotate_left
      · show Act.put _ (some 66) _ = _
        simp only [Act.put, List.setIfInBounds_toArray, List.set_cons_zero, List.set_cons_succ, i64_w, i32_w]
        rfl
      refine pure_ (i := 17) (N := some 9) (v := ?_) (a' := ?_) #[true, true, true, true, true, true, true, true, true, true, true, true, true, true, true, true, true, true] rfl rfl (any_of HT_.out (by kernel_rfl)) (fun _ _ _ h => h) (Or.inl ⟨by rfl, ?_⟩) ?_ ?_
      rotate_left
      · intro w'
        go_simp
        with_reducible rfl
      rotate_left
      · simp only [Act.put, List.setIfInBounds_toArray, List.set_cons_zero, List.set_cons_succ, i64_w, i32_w]
        rfl
      refine done_ (done_of HT_.out (by kernel_rfl)) ?_
      go_wp2
      go_roundw
      case rel => exact ⟨k + 1, by omega, by go_num, ho, hb⟩
      case measure => simp [intOf]; omega
    · obtain rfl : k = n := by omega
      obtain ⟨Ax, cx, ex, hcx, rx⟩ := Kd.R_reads HX.out
      subst ex
      obtain ⟨z, hz⟩ : ∃ z : List Int, conduitlaw02_SumsJoin.mixed a b c k = z := ⟨_, rfl⟩
      rw [hz] at hcx rx
      have HCX := Aside0.mk hcx
      have RX := Aside0.mk rx
      have PZ : Aside0 (sums_Crc.f z = some (Go.bits .xor .u32 (Go.bits .xor .u32 s u) v)) := ⟨by rw [← hz]; exact P7.out⟩
      rw [hz]
      clear hcx rx HX P7 hz hlt
      go_wp2_with fail
      refine (sums_Crc.calls _ _ _ _ _ RX.out HCX.out PZ.out).mono ?_
      rintro e w8 ⟨rfl, q⟩
      have B8 := Aside0.mk (below_then HB.out HB.out.size q)
      clear q HB
      go_wp2_with fail
      refine (conduitlaw02_SumsJoin.crc_n _ _ _ a s _ LA.out (Kd.C_below RA.out B8.out) K1.out P1.out).mono ?_
      rintro e w9 ⟨rfl, q⟩
      have B9 := Aside0.mk (below_then B8.out B8.out.size q)
      clear q B8
      go_wp2_with fail
      refine (conduitlaw02_SumsJoin.crc_n _ _ _ b u _ LB.out (Kd.C_below RB.out B9.out) K2.out P5.out).mono ?_
      rintro e w10 ⟨rfl, q⟩
      have B10 := Aside0.mk (below_then B9.out B9.out.size q)
      clear q B9
      go_wp2_with fail
      refine (conduitlaw02_SumsJoin.crc_n _ _ _ c v _ LC.out (Kd.C_below RC.out B10.out) K3.out P6.out).mono ?_
      rintro e w11 ⟨rfl, q⟩
      have B11 := Aside0.mk (below_then B10.out B10.out.size q)
      clear q B10
      go_wp2_with fail
      refine (conduitlaw02_awake.calls _ _ PA.out).mono ?_
      rintro e w12 ⟨rfl, q⟩
      have B12 := Aside0.mk (below_then B11.out B11.out.size q)
      clear q B11
      go_wp2
      go_ret
      exact ⟨rfl, B12.out⟩
def conduitlaw02_SumsJoin.Pure : Prop := ∀ (n : Nat) (a b c : List Int), n ≤ 20000 → a.length = n → b.length = n → c.length = n → (∀ x ∈ a, (Lit.int .u8 x).wf = true) → (∀ x ∈ b, (Lit.int .u8 x).wf = true) → (∀ x ∈ c, (Lit.int .u8 x).wf = true) →
  conduitlaw02_SumsJoin.Sums a b c n ∧ conduitlaw02_awake.f = some true
theorem conduitlaw02_SumsJoin.walk (P : conduitlaw02_SumsJoin.Pure) (a0 : Option Addr) (len0 cap0 : Nat) (z0 : List Int) (a1 : Option Addr) (len1 cap1 : Nat) (z1 : List Int) (a2 : Option Addr) (len2 cap2 : Nat) (z2 : List Int) (w : World)
    (w0 : (a0 = none ∧ len0 = 0 ∧ cap0 = 0 ∧ z0 = []) ∨ ∃ x, a0 = some x ∧ len0 ≤ cap0 ∧ cap0 ≤ maxLen ∧ z0.length = cap0 ∧ (∀ i, i < z0.length → w.cell? (x.add i) = some (.int .u8 (z0.getD i 0))) ∧ ∀ n ∈ z0, (Lit.int .u8 n).wf = true) (y0 : len0 * 1 ≤ 140737488351232)
    (w1 : (a1 = none ∧ len1 = 0 ∧ cap1 = 0 ∧ z1 = []) ∨ ∃ x, a1 = some x ∧ len1 ≤ cap1 ∧ cap1 ≤ maxLen ∧ z1.length = cap1 ∧ (∀ i, i < z1.length → w.cell? (x.add i) = some (.int .u8 (z1.getD i 0))) ∧ ∀ n ∈ z1, (Lit.int .u8 n).wf = true) (y1 : len1 * 1 ≤ 140737488351232)
    (w2 : (a2 = none ∧ len2 = 0 ∧ cap2 = 0 ∧ z2 = []) ∨ ∃ x, a2 = some x ∧ len2 ≤ cap2 ∧ cap2 ≤ maxLen ∧ z2.length = cap2 ∧ (∀ i, i < z2.length → w.cell? (x.add i) = some (.int .u8 (z2.getD i 0))) ∧ ∀ n ∈ z2, (Lit.int .u8 n).wf = true) (y2 : len2 * 1 ≤ 140737488351232) :
    Calls Try.prog 7 #[.slice a0 len0 cap0, .slice a1 len1 cap1, .slice a2 len2 cap2] w fun e w' => e = .returned (.bool true) ∧ Below w.heap.size w w' := by
  obtain ⟨l0, rfl, hr0, hm0, hw0, hc0⟩ := ReadsInt.ofRowC w0
  obtain ⟨l1, rfl, hr1, hm1, hw1, hc1⟩ := ReadsInt.ofRowC w1
  obtain ⟨l2, rfl, hr2, hm2, hw2, hc2⟩ := ReadsInt.ofRowC w2
  obtain ⟨n, hn⟩ : ∃ n : Nat, mn (mn (mn (l0.length : Int) (l1.length : Int)) (l2.length : Int)) 20000 = (n : Int) := ⟨(mn (mn (mn (l0.length : Int) (l1.length : Int)) (l2.length : Int)) 20000).toNat, by unfold mn; split <;> split <;> split <;> omega⟩
  have h0 : n ≤ l0.length := by unfold mn at hn; split at hn <;> split at hn <;> split at hn <;> omega
  have h1 : n ≤ l1.length := by unfold mn at hn; split at hn <;> split at hn <;> split at hn <;> omega
  have h2 : n ≤ l2.length := by unfold mn at hn; split at hn <;> split at hn <;> split at hn <;> omega
  have h3 : n ≤ 20000 := by unfold mn at hn; split at hn <;> split at hn <;> split at hn <;> omega
  have e0 : (l0.take n).length = n := by rw [List.length_take]; omega
  have e1 : (l1.take n).length = n := by rw [List.length_take]; omega
  have e2 : (l2.take n).length = n := by rw [List.length_take]; omega
  have r0 := Kd.C_take (m := n) (Kd.C_of_reads (d := (0 : Int)) (h1 := fun _ => rfl) hr0) h0
  have r1 := Kd.C_take (m := n) (Kd.C_of_reads (d := (0 : Int)) (h1 := fun _ => rfl) hr1) h1
  have r2 := Kd.C_take (m := n) (Kd.C_of_reads (d := (0 : Int)) (h1 := fun _ => rfl) hr2) h2
  rw [e0] at r0
  rw [e1] at r1
  rw [e2] at r2
  obtain ⟨S, aw⟩ := P n (l0.take n) (l1.take n) (l2.take n) h3 e0 e1 e2 (fun x hx => hw0 x (List.mem_of_mem_take hx)) (fun x hx => hw1 x (List.mem_of_mem_take hx)) (fun x hx => hw2 x (List.mem_of_mem_take hx))
  exact conduitlaw02_SumsJoin.runs n h3 l0.length l1.length l2.length a0 a1 a2 cap0 cap1 cap2 _ _ _ w hn hc0 hc1 hc2 e0 e1 e2 r0 r1 r2 S aw


/-! ### ballot_Majority: function 25 -/
def ballot_Majority.f (a0 : Int) (a1 : Int) : Option (Bool) := some (decide (a0 > (wrap64 (a1 - a0))))
set_option maxHeartbeats 8000000 in
set_option maxRecDepth 100000 in
theorem ballot_Majority.calls (a0 : Int) (a1 : Int) (r : Bool) (w : World) (h : ballot_Majority.f a0 a1 = some r) :
    Calls Try.prog 25 #[.int .i64 a0, .int .i64 a1] w fun e w' => e = .returned (.bool r) ∧ Drawn0 w w' := by
  have H : (some (decide (a0 > (wrap64 (a1 - a0))))) = some r := h
  clear h
  obtain rfl := Option.some.inj H
  go_enter Try.func25, Try.ntmps25
  go_wp2
  go_ret
  exact ⟨by first | rfl | (simp; done) | (simp [*]; done), by repeat (first | exact Drawn0.refl _ | apply Drawn0.step)⟩

-- NOT PRINTED: function 8 (conduitlaw20_BallotOrder)

/-! ### ballot_Timeout: function 27 -/
def ballot_Timeout.f (a0 : Int) : Option (Int) := some (wrap64 (10 + (Int.tmod (wrap64 ((Int.tmod a0 10) + 10)) 10)))
set_option maxHeartbeats 8000000 in
set_option maxRecDepth 100000 in
theorem ballot_Timeout.calls (a0 : Int) (r : Int) (w : World) (h : ballot_Timeout.f a0 = some r) :
    Calls Try.prog 27 #[.int .i64 a0] w fun e w' => e = .returned (.int .i64 r) ∧ Drawn0 w w' := by
  have H : (some (wrap64 (10 + (Int.tmod (wrap64 ((Int.tmod a0 10) + 10)) 10)))) = some r := h
  clear h
  obtain rfl := Option.some.inj H
  go_enter Try.func27, Try.ntmps27
  go_wp2
  go_ret
  exact ⟨by first | rfl | (simp; done) | (simp [*]; done), by repeat (first | exact Drawn0.refl _ | apply Drawn0.step)⟩

/-! ### conduitlaw20_BallotNumbers: function 9 -/
def conduitlaw20_BallotNumbers.j0 : Nat → Bool → Option (Bool)
  | 0, _ => none
  | k + 1, x13 => if x13 = true then ((ballot_Majority.f 2 3).bind fun t258 => (if t258 = true then ((ballot_Majority.f 2 4).bind fun t259 => (if t259 = true then (some false) else ((ballot_Majority.f 0 0).bind fun t260 => (if t260 = true then (some false) else ((ballot_Majority.f 1 1).bind fun t261 => (if t261 = true then ((ballot_Timeout.f 3).bind fun t262 => (if t262 = 13 then ((ballot_Timeout.f (-1)).bind fun t263 => (if t263 = 19 then ((ballot_Timeout.f (-9223372036854775808)).bind fun t264 => (if t264 = 12 then ((conduitlaw20_awake.f).bind fun t265 => (some t265)) else (some false))) else (some false))) else (some false))) else (some false))))))) else (some false))) else (some false)
def conduitlaw20_BallotNumbers.f (k : Nat)  : Option (Bool) := (conduitlaw20_asks.f 4 1 1 1).bind fun bt182 => ((ballot_Vote.f 3 2 1 1 bt182.1 bt182.2.1 bt182.2.2.1 bt182.2.2.2.1 bt182.2.2.2.2.1 bt182.2.2.2.2.2.1 bt182.2.2.2.2.2.2.1 bt182.2.2.2.2.2.2.2.1 bt182.2.2.2.2.2.2.2.2.1 bt182.2.2.2.2.2.2.2.2.2.1 bt182.2.2.2.2.2.2.2.2.2.2.1 bt182.2.2.2.2.2.2.2.2.2.2.2).bind fun bt198 => ((conduitlaw20_asks.f 2 2 9 9).bind fun bt201 => ((ballot_Vote.f 3 2 1 1 bt201.1 bt201.2.1 bt201.2.2.1 bt201.2.2.2.1 bt201.2.2.2.2.1 bt201.2.2.2.2.2.1 bt201.2.2.2.2.2.2.1 bt201.2.2.2.2.2.2.2.1 bt201.2.2.2.2.2.2.2.2.1 bt201.2.2.2.2.2.2.2.2.2.1 bt201.2.2.2.2.2.2.2.2.2.2.1 bt201.2.2.2.2.2.2.2.2.2.2.2).bind fun bt217 => ((conduitlaw20_asks.f 5 2 1 9).bind fun bt220 => ((ballot_Vote.f 3 0 2 1 bt220.1 bt220.2.1 bt220.2.2.1 bt220.2.2.2.1 bt220.2.2.2.2.1 bt220.2.2.2.2.2.1 bt220.2.2.2.2.2.2.1 bt220.2.2.2.2.2.2.2.1 bt220.2.2.2.2.2.2.2.2.1 bt220.2.2.2.2.2.2.2.2.2.1 bt220.2.2.2.2.2.2.2.2.2.2.1 bt220.2.2.2.2.2.2.2.2.2.2.2).bind fun bt236 => ((conduitlaw20_asks.f 3 2 1 1).bind fun bt239 => ((ballot_Vote.f 3 2 1 1 bt239.1 bt239.2.1 bt239.2.2.1 bt239.2.2.2.1 bt239.2.2.2.2.1 bt239.2.2.2.2.2.1 bt239.2.2.2.2.2.2.1 bt239.2.2.2.2.2.2.2.1 bt239.2.2.2.2.2.2.2.2.1 bt239.2.2.2.2.2.2.2.2.2.1 bt239.2.2.2.2.2.2.2.2.2.2.1 bt239.2.2.2.2.2.2.2.2.2.2.2).bind fun bt255 => (if bt198.1 = 4 then (if bt198.2.1 = 1 then (if bt198.2.2 = true then (if bt217.1 = 3 then (if bt217.2.1 = 2 then (if bt217.2.2 = true then (conduitlaw20_BallotNumbers.j0 k false) else (if bt236.1 = 5 then (if bt236.2.1 = 0 then (if bt236.2.2 = true then (conduitlaw20_BallotNumbers.j0 k false) else (if bt255.1 = 3 then (if bt255.2.1 = 2 then (conduitlaw20_BallotNumbers.j0 k bt255.2.2) else (conduitlaw20_BallotNumbers.j0 k false)) else (conduitlaw20_BallotNumbers.j0 k false))) else (conduitlaw20_BallotNumbers.j0 k false)) else (conduitlaw20_BallotNumbers.j0 k false))) else (conduitlaw20_BallotNumbers.j0 k false)) else (conduitlaw20_BallotNumbers.j0 k false)) else (conduitlaw20_BallotNumbers.j0 k false)) else (conduitlaw20_BallotNumbers.j0 k false)) else (conduitlaw20_BallotNumbers.j0 k false)))))))))
theorem conduitlaw20_BallotNumbers.mono_l : ∀ k, (∀ y0, LeO (conduitlaw20_BallotNumbers.j0 k y0) (conduitlaw20_BallotNumbers.j0 (k + 1) y0))
  | 0 => fun _ r h => by simp [conduitlaw20_BallotNumbers.j0] at h
  | k + 1 => by
    have ih0 := conduitlaw20_BallotNumbers.mono_l k
    · intro y0
      unfold conduitlaw20_BallotNumbers.j0
      repeat' first
      | (with_reducible exact ih0 _)
      | (with_reducible exact LeO.refl _)
      | (with_reducible exact LeO.none _)
      | (with_reducible refine LeO.ite ?_ ?_)
      | (with_reducible refine LeO.bind ?_ (fun _ => ?_))
      | exact ih0 _
      | exact LeO.none _
      | refine LeO.ite ?_ ?_
      | refine LeO.bind ?_ (fun _ => ?_)
theorem conduitlaw20_BallotNumbers.mono : ∀ k, LeO (conduitlaw20_BallotNumbers.f k ) (conduitlaw20_BallotNumbers.f (k + 1) ) := by
  intro  k
  have ih0 := conduitlaw20_BallotNumbers.mono_l k
  unfold conduitlaw20_BallotNumbers.f
  repeat' first
      | (with_reducible exact ih0 _)
      | (with_reducible exact LeO.refl _)
      | (with_reducible exact LeO.none _)
      | (with_reducible refine LeO.ite ?_ ?_)
      | (with_reducible refine LeO.bind ?_ (fun _ => ?_))
      | exact ih0 _
      | exact LeO.none _
      | refine LeO.ite ?_ ?_
      | refine LeO.bind ?_ (fun _ => ?_)
set_option maxHeartbeats 8000000 in
set_option maxRecDepth 100000 in
theorem conduitlaw20_BallotNumbers.calls (k : Nat)  (r : Bool) (w : World) (h : conduitlaw20_BallotNumbers.f k  = some r) :
    Calls Try.prog 9 #[] w fun e w' => e = .returned (.bool r) ∧ Below w.heap.size w w' := by
  have HB := Aside0.mk (Below.refl w.heap.size w)
  have H : ((conduitlaw20_asks.f 4 1 1 1).bind fun bt182 => ((ballot_Vote.f 3 2 1 1 bt182.1 bt182.2.1 bt182.2.2.1 bt182.2.2.2.1 bt182.2.2.2.2.1 bt182.2.2.2.2.2.1 bt182.2.2.2.2.2.2.1 bt182.2.2.2.2.2.2.2.1 bt182.2.2.2.2.2.2.2.2.1 bt182.2.2.2.2.2.2.2.2.2.1 bt182.2.2.2.2.2.2.2.2.2.2.1 bt182.2.2.2.2.2.2.2.2.2.2.2).bind fun bt198 => ((conduitlaw20_asks.f 2 2 9 9).bind fun bt201 => ((ballot_Vote.f 3 2 1 1 bt201.1 bt201.2.1 bt201.2.2.1 bt201.2.2.2.1 bt201.2.2.2.2.1 bt201.2.2.2.2.2.1 bt201.2.2.2.2.2.2.1 bt201.2.2.2.2.2.2.2.1 bt201.2.2.2.2.2.2.2.2.1 bt201.2.2.2.2.2.2.2.2.2.1 bt201.2.2.2.2.2.2.2.2.2.2.1 bt201.2.2.2.2.2.2.2.2.2.2.2).bind fun bt217 => ((conduitlaw20_asks.f 5 2 1 9).bind fun bt220 => ((ballot_Vote.f 3 0 2 1 bt220.1 bt220.2.1 bt220.2.2.1 bt220.2.2.2.1 bt220.2.2.2.2.1 bt220.2.2.2.2.2.1 bt220.2.2.2.2.2.2.1 bt220.2.2.2.2.2.2.2.1 bt220.2.2.2.2.2.2.2.2.1 bt220.2.2.2.2.2.2.2.2.2.1 bt220.2.2.2.2.2.2.2.2.2.2.1 bt220.2.2.2.2.2.2.2.2.2.2.2).bind fun bt236 => ((conduitlaw20_asks.f 3 2 1 1).bind fun bt239 => ((ballot_Vote.f 3 2 1 1 bt239.1 bt239.2.1 bt239.2.2.1 bt239.2.2.2.1 bt239.2.2.2.2.1 bt239.2.2.2.2.2.1 bt239.2.2.2.2.2.2.1 bt239.2.2.2.2.2.2.2.1 bt239.2.2.2.2.2.2.2.2.1 bt239.2.2.2.2.2.2.2.2.2.1 bt239.2.2.2.2.2.2.2.2.2.2.1 bt239.2.2.2.2.2.2.2.2.2.2.2).bind fun bt255 => (if bt198.1 = 4 then (if bt198.2.1 = 1 then (if bt198.2.2 = true then (if bt217.1 = 3 then (if bt217.2.1 = 2 then (if bt217.2.2 = true then (conduitlaw20_BallotNumbers.j0 k false) else (if bt236.1 = 5 then (if bt236.2.1 = 0 then (if bt236.2.2 = true then (conduitlaw20_BallotNumbers.j0 k false) else (if bt255.1 = 3 then (if bt255.2.1 = 2 then (conduitlaw20_BallotNumbers.j0 k bt255.2.2) else (conduitlaw20_BallotNumbers.j0 k false)) else (conduitlaw20_BallotNumbers.j0 k false))) else (conduitlaw20_BallotNumbers.j0 k false)) else (conduitlaw20_BallotNumbers.j0 k false))) else (conduitlaw20_BallotNumbers.j0 k false)) else (conduitlaw20_BallotNumbers.j0 k false)) else (conduitlaw20_BallotNumbers.j0 k false)) else (conduitlaw20_BallotNumbers.j0 k false)) else (conduitlaw20_BallotNumbers.j0 k false)))))))))) = some r := h
  clear h
  replace H := Option.bind_eq_some_iff.mp H
  obtain ⟨⟨t182, t183, t184, t185, t186, t187, t188, t189, t190, t191, t192, t195⟩, A10, H⟩ := H
  replace H : ((ballot_Vote.f 3 2 1 1 t182 t183 t184 t185 t186 t187 t188 t189 t190 t191 t192 t195).bind fun bt198 => ((conduitlaw20_asks.f 2 2 9 9).bind fun bt201 => ((ballot_Vote.f 3 2 1 1 bt201.1 bt201.2.1 bt201.2.2.1 bt201.2.2.2.1 bt201.2.2.2.2.1 bt201.2.2.2.2.2.1 bt201.2.2.2.2.2.2.1 bt201.2.2.2.2.2.2.2.1 bt201.2.2.2.2.2.2.2.2.1 bt201.2.2.2.2.2.2.2.2.2.1 bt201.2.2.2.2.2.2.2.2.2.2.1 bt201.2.2.2.2.2.2.2.2.2.2.2).bind fun bt217 => ((conduitlaw20_asks.f 5 2 1 9).bind fun bt220 => ((ballot_Vote.f 3 0 2 1 bt220.1 bt220.2.1 bt220.2.2.1 bt220.2.2.2.1 bt220.2.2.2.2.1 bt220.2.2.2.2.2.1 bt220.2.2.2.2.2.2.1 bt220.2.2.2.2.2.2.2.1 bt220.2.2.2.2.2.2.2.2.1 bt220.2.2.2.2.2.2.2.2.2.1 bt220.2.2.2.2.2.2.2.2.2.2.1 bt220.2.2.2.2.2.2.2.2.2.2.2).bind fun bt236 => ((conduitlaw20_asks.f 3 2 1 1).bind fun bt239 => ((ballot_Vote.f 3 2 1 1 bt239.1 bt239.2.1 bt239.2.2.1 bt239.2.2.2.1 bt239.2.2.2.2.1 bt239.2.2.2.2.2.1 bt239.2.2.2.2.2.2.1 bt239.2.2.2.2.2.2.2.1 bt239.2.2.2.2.2.2.2.2.1 bt239.2.2.2.2.2.2.2.2.2.1 bt239.2.2.2.2.2.2.2.2.2.2.1 bt239.2.2.2.2.2.2.2.2.2.2.2).bind fun bt255 => (if bt198.1 = 4 then (if bt198.2.1 = 1 then (if bt198.2.2 = true then (if bt217.1 = 3 then (if bt217.2.1 = 2 then (if bt217.2.2 = true then (conduitlaw20_BallotNumbers.j0 k false) else (if bt236.1 = 5 then (if bt236.2.1 = 0 then (if bt236.2.2 = true then (conduitlaw20_BallotNumbers.j0 k false) else (if bt255.1 = 3 then (if bt255.2.1 = 2 then (conduitlaw20_BallotNumbers.j0 k bt255.2.2) else (conduitlaw20_BallotNumbers.j0 k false)) else (conduitlaw20_BallotNumbers.j0 k false))) else (conduitlaw20_BallotNumbers.j0 k false)) else (conduitlaw20_BallotNumbers.j0 k false))) else (conduitlaw20_BallotNumbers.j0 k false)) else (conduitlaw20_BallotNumbers.j0 k false)) else (conduitlaw20_BallotNumbers.j0 k false)) else (conduitlaw20_BallotNumbers.j0 k false)) else (conduitlaw20_BallotNumbers.j0 k false))))))))) = some r := H
  have A1 := Aside0.mk A10
  clear A10
  replace H := Option.bind_eq_some_iff.mp H
  obtain ⟨⟨t198, t199, t200⟩, A20, H⟩ := H
  replace H : ((conduitlaw20_asks.f 2 2 9 9).bind fun bt201 => ((ballot_Vote.f 3 2 1 1 bt201.1 bt201.2.1 bt201.2.2.1 bt201.2.2.2.1 bt201.2.2.2.2.1 bt201.2.2.2.2.2.1 bt201.2.2.2.2.2.2.1 bt201.2.2.2.2.2.2.2.1 bt201.2.2.2.2.2.2.2.2.1 bt201.2.2.2.2.2.2.2.2.2.1 bt201.2.2.2.2.2.2.2.2.2.2.1 bt201.2.2.2.2.2.2.2.2.2.2.2).bind fun bt217 => ((conduitlaw20_asks.f 5 2 1 9).bind fun bt220 => ((ballot_Vote.f 3 0 2 1 bt220.1 bt220.2.1 bt220.2.2.1 bt220.2.2.2.1 bt220.2.2.2.2.1 bt220.2.2.2.2.2.1 bt220.2.2.2.2.2.2.1 bt220.2.2.2.2.2.2.2.1 bt220.2.2.2.2.2.2.2.2.1 bt220.2.2.2.2.2.2.2.2.2.1 bt220.2.2.2.2.2.2.2.2.2.2.1 bt220.2.2.2.2.2.2.2.2.2.2.2).bind fun bt236 => ((conduitlaw20_asks.f 3 2 1 1).bind fun bt239 => ((ballot_Vote.f 3 2 1 1 bt239.1 bt239.2.1 bt239.2.2.1 bt239.2.2.2.1 bt239.2.2.2.2.1 bt239.2.2.2.2.2.1 bt239.2.2.2.2.2.2.1 bt239.2.2.2.2.2.2.2.1 bt239.2.2.2.2.2.2.2.2.1 bt239.2.2.2.2.2.2.2.2.2.1 bt239.2.2.2.2.2.2.2.2.2.2.1 bt239.2.2.2.2.2.2.2.2.2.2.2).bind fun bt255 => (if t198 = 4 then (if t199 = 1 then (if t200 = true then (if bt217.1 = 3 then (if bt217.2.1 = 2 then (if bt217.2.2 = true then (conduitlaw20_BallotNumbers.j0 k false) else (if bt236.1 = 5 then (if bt236.2.1 = 0 then (if bt236.2.2 = true then (conduitlaw20_BallotNumbers.j0 k false) else (if bt255.1 = 3 then (if bt255.2.1 = 2 then (conduitlaw20_BallotNumbers.j0 k bt255.2.2) else (conduitlaw20_BallotNumbers.j0 k false)) else (conduitlaw20_BallotNumbers.j0 k false))) else (conduitlaw20_BallotNumbers.j0 k false)) else (conduitlaw20_BallotNumbers.j0 k false))) else (conduitlaw20_BallotNumbers.j0 k false)) else (conduitlaw20_BallotNumbers.j0 k false)) else (conduitlaw20_BallotNumbers.j0 k false)) else (conduitlaw20_BallotNumbers.j0 k false)) else (conduitlaw20_BallotNumbers.j0 k false)))))))) = some r := H
  have A2 := Aside0.mk A20
  clear A20
  replace H := Option.bind_eq_some_iff.mp H
  obtain ⟨⟨t201, t202, t203, t204, t205, t206, t207, t208, t209, t210, t211, t214⟩, A30, H⟩ := H
  replace H : ((ballot_Vote.f 3 2 1 1 t201 t202 t203 t204 t205 t206 t207 t208 t209 t210 t211 t214).bind fun bt217 => ((conduitlaw20_asks.f 5 2 1 9).bind fun bt220 => ((ballot_Vote.f 3 0 2 1 bt220.1 bt220.2.1 bt220.2.2.1 bt220.2.2.2.1 bt220.2.2.2.2.1 bt220.2.2.2.2.2.1 bt220.2.2.2.2.2.2.1 bt220.2.2.2.2.2.2.2.1 bt220.2.2.2.2.2.2.2.2.1 bt220.2.2.2.2.2.2.2.2.2.1 bt220.2.2.2.2.2.2.2.2.2.2.1 bt220.2.2.2.2.2.2.2.2.2.2.2).bind fun bt236 => ((conduitlaw20_asks.f 3 2 1 1).bind fun bt239 => ((ballot_Vote.f 3 2 1 1 bt239.1 bt239.2.1 bt239.2.2.1 bt239.2.2.2.1 bt239.2.2.2.2.1 bt239.2.2.2.2.2.1 bt239.2.2.2.2.2.2.1 bt239.2.2.2.2.2.2.2.1 bt239.2.2.2.2.2.2.2.2.1 bt239.2.2.2.2.2.2.2.2.2.1 bt239.2.2.2.2.2.2.2.2.2.2.1 bt239.2.2.2.2.2.2.2.2.2.2.2).bind fun bt255 => (if t198 = 4 then (if t199 = 1 then (if t200 = true then (if bt217.1 = 3 then (if bt217.2.1 = 2 then (if bt217.2.2 = true then (conduitlaw20_BallotNumbers.j0 k false) else (if bt236.1 = 5 then (if bt236.2.1 = 0 then (if bt236.2.2 = true then (conduitlaw20_BallotNumbers.j0 k false) else (if bt255.1 = 3 then (if bt255.2.1 = 2 then (conduitlaw20_BallotNumbers.j0 k bt255.2.2) else (conduitlaw20_BallotNumbers.j0 k false)) else (conduitlaw20_BallotNumbers.j0 k false))) else (conduitlaw20_BallotNumbers.j0 k false)) else (conduitlaw20_BallotNumbers.j0 k false))) else (conduitlaw20_BallotNumbers.j0 k false)) else (conduitlaw20_BallotNumbers.j0 k false)) else (conduitlaw20_BallotNumbers.j0 k false)) else (conduitlaw20_BallotNumbers.j0 k false)) else (conduitlaw20_BallotNumbers.j0 k false))))))) = some r := H
  have A3 := Aside0.mk A30
  clear A30
  replace H := Option.bind_eq_some_iff.mp H
  obtain ⟨⟨t217, t218, t219⟩, A40, H⟩ := H
  replace H : ((conduitlaw20_asks.f 5 2 1 9).bind fun bt220 => ((ballot_Vote.f 3 0 2 1 bt220.1 bt220.2.1 bt220.2.2.1 bt220.2.2.2.1 bt220.2.2.2.2.1 bt220.2.2.2.2.2.1 bt220.2.2.2.2.2.2.1 bt220.2.2.2.2.2.2.2.1 bt220.2.2.2.2.2.2.2.2.1 bt220.2.2.2.2.2.2.2.2.2.1 bt220.2.2.2.2.2.2.2.2.2.2.1 bt220.2.2.2.2.2.2.2.2.2.2.2).bind fun bt236 => ((conduitlaw20_asks.f 3 2 1 1).bind fun bt239 => ((ballot_Vote.f 3 2 1 1 bt239.1 bt239.2.1 bt239.2.2.1 bt239.2.2.2.1 bt239.2.2.2.2.1 bt239.2.2.2.2.2.1 bt239.2.2.2.2.2.2.1 bt239.2.2.2.2.2.2.2.1 bt239.2.2.2.2.2.2.2.2.1 bt239.2.2.2.2.2.2.2.2.2.1 bt239.2.2.2.2.2.2.2.2.2.2.1 bt239.2.2.2.2.2.2.2.2.2.2.2).bind fun bt255 => (if t198 = 4 then (if t199 = 1 then (if t200 = true then (if t217 = 3 then (if t218 = 2 then (if t219 = true then (conduitlaw20_BallotNumbers.j0 k false) else (if bt236.1 = 5 then (if bt236.2.1 = 0 then (if bt236.2.2 = true then (conduitlaw20_BallotNumbers.j0 k false) else (if bt255.1 = 3 then (if bt255.2.1 = 2 then (conduitlaw20_BallotNumbers.j0 k bt255.2.2) else (conduitlaw20_BallotNumbers.j0 k false)) else (conduitlaw20_BallotNumbers.j0 k false))) else (conduitlaw20_BallotNumbers.j0 k false)) else (conduitlaw20_BallotNumbers.j0 k false))) else (conduitlaw20_BallotNumbers.j0 k false)) else (conduitlaw20_BallotNumbers.j0 k false)) else (conduitlaw20_BallotNumbers.j0 k false)) else (conduitlaw20_BallotNumbers.j0 k false)) else (conduitlaw20_BallotNumbers.j0 k false)))))) = some r := H
  have A4 := Aside0.mk A40
  clear A40
  replace H := Option.bind_eq_some_iff.mp H
  obtain ⟨⟨t220, t221, t222, t223, t224, t225, t226, t227, t228, t229, t230, t233⟩, A50, H⟩ := H
  replace H : ((ballot_Vote.f 3 0 2 1 t220 t221 t222 t223 t224 t225 t226 t227 t228 t229 t230 t233).bind fun bt236 => ((conduitlaw20_asks.f 3 2 1 1).bind fun bt239 => ((ballot_Vote.f 3 2 1 1 bt239.1 bt239.2.1 bt239.2.2.1 bt239.2.2.2.1 bt239.2.2.2.2.1 bt239.2.2.2.2.2.1 bt239.2.2.2.2.2.2.1 bt239.2.2.2.2.2.2.2.1 bt239.2.2.2.2.2.2.2.2.1 bt239.2.2.2.2.2.2.2.2.2.1 bt239.2.2.2.2.2.2.2.2.2.2.1 bt239.2.2.2.2.2.2.2.2.2.2.2).bind fun bt255 => (if t198 = 4 then (if t199 = 1 then (if t200 = true then (if t217 = 3 then (if t218 = 2 then (if t219 = true then (conduitlaw20_BallotNumbers.j0 k false) else (if bt236.1 = 5 then (if bt236.2.1 = 0 then (if bt236.2.2 = true then (conduitlaw20_BallotNumbers.j0 k false) else (if bt255.1 = 3 then (if bt255.2.1 = 2 then (conduitlaw20_BallotNumbers.j0 k bt255.2.2) else (conduitlaw20_BallotNumbers.j0 k false)) else (conduitlaw20_BallotNumbers.j0 k false))) else (conduitlaw20_BallotNumbers.j0 k false)) else (conduitlaw20_BallotNumbers.j0 k false))) else (conduitlaw20_BallotNumbers.j0 k false)) else (conduitlaw20_BallotNumbers.j0 k false)) else (conduitlaw20_BallotNumbers.j0 k false)) else (conduitlaw20_BallotNumbers.j0 k false)) else (conduitlaw20_BallotNumbers.j0 k false))))) = some r := H
  have A5 := Aside0.mk A50
  clear A50
  replace H := Option.bind_eq_some_iff.mp H
  obtain ⟨⟨t236, t237, t238⟩, A60, H⟩ := H
  replace H : ((conduitlaw20_asks.f 3 2 1 1).bind fun bt239 => ((ballot_Vote.f 3 2 1 1 bt239.1 bt239.2.1 bt239.2.2.1 bt239.2.2.2.1 bt239.2.2.2.2.1 bt239.2.2.2.2.2.1 bt239.2.2.2.2.2.2.1 bt239.2.2.2.2.2.2.2.1 bt239.2.2.2.2.2.2.2.2.1 bt239.2.2.2.2.2.2.2.2.2.1 bt239.2.2.2.2.2.2.2.2.2.2.1 bt239.2.2.2.2.2.2.2.2.2.2.2).bind fun bt255 => (if t198 = 4 then (if t199 = 1 then (if t200 = true then (if t217 = 3 then (if t218 = 2 then (if t219 = true then (conduitlaw20_BallotNumbers.j0 k false) else (if t236 = 5 then (if t237 = 0 then (if t238 = true then (conduitlaw20_BallotNumbers.j0 k false) else (if bt255.1 = 3 then (if bt255.2.1 = 2 then (conduitlaw20_BallotNumbers.j0 k bt255.2.2) else (conduitlaw20_BallotNumbers.j0 k false)) else (conduitlaw20_BallotNumbers.j0 k false))) else (conduitlaw20_BallotNumbers.j0 k false)) else (conduitlaw20_BallotNumbers.j0 k false))) else (conduitlaw20_BallotNumbers.j0 k false)) else (conduitlaw20_BallotNumbers.j0 k false)) else (conduitlaw20_BallotNumbers.j0 k false)) else (conduitlaw20_BallotNumbers.j0 k false)) else (conduitlaw20_BallotNumbers.j0 k false)))) = some r := H
  have A6 := Aside0.mk A60
  clear A60
  replace H := Option.bind_eq_some_iff.mp H
  obtain ⟨⟨t239, t240, t241, t242, t243, t244, t245, t246, t247, t248, t249, t252⟩, A70, H⟩ := H
  replace H : ((ballot_Vote.f 3 2 1 1 t239 t240 t241 t242 t243 t244 t245 t246 t247 t248 t249 t252).bind fun bt255 => (if t198 = 4 then (if t199 = 1 then (if t200 = true then (if t217 = 3 then (if t218 = 2 then (if t219 = true then (conduitlaw20_BallotNumbers.j0 k false) else (if t236 = 5 then (if t237 = 0 then (if t238 = true then (conduitlaw20_BallotNumbers.j0 k false) else (if bt255.1 = 3 then (if bt255.2.1 = 2 then (conduitlaw20_BallotNumbers.j0 k bt255.2.2) else (conduitlaw20_BallotNumbers.j0 k false)) else (conduitlaw20_BallotNumbers.j0 k false))) else (conduitlaw20_BallotNumbers.j0 k false)) else (conduitlaw20_BallotNumbers.j0 k false))) else (conduitlaw20_BallotNumbers.j0 k false)) else (conduitlaw20_BallotNumbers.j0 k false)) else (conduitlaw20_BallotNumbers.j0 k false)) else (conduitlaw20_BallotNumbers.j0 k false)) else (conduitlaw20_BallotNumbers.j0 k false))) = some r := H
  have A7 := Aside0.mk A70
  clear A70
  replace H := Option.bind_eq_some_iff.mp H
  obtain ⟨⟨t255, t256, t257⟩, A80, H⟩ := H
  replace H : (if t198 = 4 then (if t199 = 1 then (if t200 = true then (if t217 = 3 then (if t218 = 2 then (if t219 = true then (conduitlaw20_BallotNumbers.j0 k false) else (if t236 = 5 then (if t237 = 0 then (if t238 = true then (conduitlaw20_BallotNumbers.j0 k false) else (if t255 = 3 then (if t256 = 2 then (conduitlaw20_BallotNumbers.j0 k t257) else (conduitlaw20_BallotNumbers.j0 k false)) else (conduitlaw20_BallotNumbers.j0 k false))) else (conduitlaw20_BallotNumbers.j0 k false)) else (conduitlaw20_BallotNumbers.j0 k false))) else (conduitlaw20_BallotNumbers.j0 k false)) else (conduitlaw20_BallotNumbers.j0 k false)) else (conduitlaw20_BallotNumbers.j0 k false)) else (conduitlaw20_BallotNumbers.j0 k false)) else (conduitlaw20_BallotNumbers.j0 k false)) = some r := H
  have A8 := Aside0.mk A80
  clear A80
  have HC9 := Aside0.mk H
  clear H
  go_enter Try.func9, Try.ntmps9
  go_upto_region 5 with (first | ((with_reducible refine gate_callee (f := 26) rfl ?_); refine goesL_ (some 15) rfl rfl Try.func26 (by kernel_rfl) rfl #[.int .i64 4, .int .i64 1, .int .i64 1, .int .i64 1] rfl (by (try simp only [List.map_toArray, List.map_cons, List.map_nil]); first | done | rfl | (simp only [List.length_drop, List.length_take]; rfl)) ?_; (with_reducible refine (conduitlaw20_asks.calls 4 1 1 1 t182 t183 t184 t185 t186 t187 t188 t189 t190 t191 t192 t195 _ A1.out).mono ?_); rintro e w10 ⟨v193, v196, rfl, ho0, ho1, hb⟩; refine ⟨_, rfl, ?_⟩; have n0_ := Aside0.mk (Kd.S_lower ho0 (below_size (by repeat (first | (with_reducible first | exact HB.out | apply below_alloc | apply pw_below_drewN | apply below_drew1) | exact HB.out)))); have n1_ := Aside0.mk (Kd.R_lower ho1 (below_size (by repeat (first | (with_reducible first | exact HB.out | apply below_alloc | apply pw_below_drewN | apply below_drew1) | exact HB.out)))); have n2_ := Aside0.mk (below_step (by repeat (first | (with_reducible first | exact HB.out | apply below_alloc | apply pw_below_drewN | apply below_drew1) | exact HB.out)) hb); clear HB; have HO194 := n0_; have HO197 := n1_; have HB := n2_; clear n0_ n1_ n2_; (try clear hb); (try clear hb2); (try clear hk); (try clear hi); (try clear ho0); (try clear ho1); obtain ⟨Ao11, co11, eo11⟩ := Kd.S_slice HO194.out; subst eo11; obtain ⟨Ao12, co12, eo12⟩ := Kd.R_slice HO197.out; subst eo12) | ((with_reducible refine gate_callee (f := 12) rfl ?_); refine goesL_ (some 16) rfl rfl Try.func12 (by kernel_rfl) rfl #[.int .i64 3, .int .i64 2, .int .i64 1, .int .i64 1, .agg #[.string t182, .int .u8 t183, .int .i64 t184, .int .i64 t185, .int .i64 t186, .int .i64 t187, .int .i64 t188, .int .i64 t189, .int .i64 t190, .bool t191, .slice Ao11 t192.length co11, .slice Ao12 t195.length co12]] rfl (by (try simp only [List.map_toArray, List.map_cons, List.map_nil]); first | done | rfl | (simp only [List.length_drop, List.length_take]; rfl)) ?_; (with_reducible refine (ballot_Vote.calls 3 2 1 1 t182 t183 t184 t185 t186 t187 t188 t189 t190 t191 _ _ t192 _ _ t195 t198 t199 t200 _ ?side1 ?side2 ?side3 ?side4 A2.out).mono ?_); (case side1 => repeat (first | exact (Kd.S_reads' HO194.out).2.2 | (with_reducible refine Kd.C_alloc ?_ _) | (with_reducible refine Kd.C_drewN ?_ _) | (with_reducible refine Kd.C_drew ?_))); (case side2 => exact (Kd.S_reads' HO194.out).2.1); (case side3 => repeat (first | exact (Kd.R_reads' HO197.out).2.2 | (with_reducible refine Kd.C_alloc ?_ _) | (with_reducible refine Kd.C_drewN ?_ _) | (with_reducible refine Kd.C_drew ?_))); (case side4 => exact (Kd.R_reads' HO197.out).2.1); rintro e w13 ⟨rfl, hb⟩; refine ⟨_, rfl, ?_⟩; have n0_ := Aside0.mk (Kd.S_below (by (with_reducible repeat (first | apply Kd.S_alloc | apply Kd.S_drewN | apply Kd.S_drew)); exact HO194.out) hb); have n1_ := Aside0.mk (Kd.R_below (by (with_reducible repeat (first | apply Kd.R_alloc | apply Kd.R_drewN | apply Kd.R_drew)); exact HO197.out) hb); have n2_ := Aside0.mk (below_step (by repeat (first | (with_reducible first | exact HB.out | apply below_alloc | apply pw_below_drewN | apply below_drew1) | exact HB.out)) hb); clear HO194; clear HO197; clear HB; have HO194 := n0_; have HO197 := n1_; have HB := n2_; clear n0_ n1_ n2_; (try clear hb); (try clear hb2); (try clear hk); (try clear hi)) | ((with_reducible refine gate_callee (f := 26) rfl ?_); refine goesL_ (some 21) rfl rfl Try.func26 (by kernel_rfl) rfl #[.int .i64 2, .int .i64 2, .int .i64 9, .int .i64 9] rfl (by (try simp only [List.map_toArray, List.map_cons, List.map_nil]); first | done | rfl | (simp only [List.length_drop, List.length_take]; rfl)) ?_; (with_reducible refine (conduitlaw20_asks.calls 2 2 9 9 t201 t202 t203 t204 t205 t206 t207 t208 t209 t210 t211 t214 _ A3.out).mono ?_); rintro e w14 ⟨v212, v215, rfl, ho0, ho1, hb⟩; refine ⟨_, rfl, ?_⟩; have n0_ := Aside0.mk (Kd.S_mono (Kd.S_told (Kd.S_told (Kd.S_old (by (with_reducible repeat (first | apply Kd.S_alloc | apply Kd.S_drewN | apply Kd.S_drew)); exact HO194.out) hb) (Kd.S_base ho0)) (Kd.R_base ho1)) (fun _ h_ => h_.1)); have n1_ := Aside0.mk (Kd.R_elder' (by (with_reducible repeat (first | apply Kd.R_alloc | apply Kd.R_drewN | apply Kd.R_drew)); exact HO197.out) (Kd.R_base ho1) hb); have n2_ := Aside0.mk (Kd.S_lower (Kd.S_new' (Kd.S_new' ho0 (Kd.S_lt (by (with_reducible repeat (first | apply Kd.S_alloc | apply Kd.S_drewN | apply Kd.S_drew)); exact HO194.out))) (Kd.R_lt (by (with_reducible repeat (first | apply Kd.R_alloc | apply Kd.R_drewN | apply Kd.R_drew)); exact HO197.out))) (below_size (by repeat (first | (with_reducible first | exact HB.out | apply below_alloc | apply pw_below_drewN | apply below_drew1) | exact HB.out)))); have n3_ := Aside0.mk (Kd.R_lower (Kd.R_new' ho1 (Kd.R_lt (by (with_reducible repeat (first | apply Kd.R_alloc | apply Kd.R_drewN | apply Kd.R_drew)); exact HO197.out))) (below_size (by repeat (first | (with_reducible first | exact HB.out | apply below_alloc | apply pw_below_drewN | apply below_drew1) | exact HB.out)))); have n4_ := Aside0.mk (below_step (by repeat (first | (with_reducible first | exact HB.out | apply below_alloc | apply pw_below_drewN | apply below_drew1) | exact HB.out)) hb); clear HO194; clear HO197; clear HB; have HO194 := n0_; have HO197 := n1_; have HO213 := n2_; have HO216 := n3_; have HB := n4_; clear n0_ n1_ n2_ n3_ n4_; (try clear hb); (try clear hb2); (try clear hk); (try clear hi); (try clear ho0); (try clear ho1); obtain ⟨Ao15, co15, eo15⟩ := Kd.S_slice HO213.out; subst eo15; obtain ⟨Ao16, co16, eo16⟩ := Kd.R_slice HO216.out; subst eo16) | ((with_reducible refine gate_callee (f := 12) rfl ?_); refine goesL_ (some 22) rfl rfl Try.func12 (by kernel_rfl) rfl #[.int .i64 3, .int .i64 2, .int .i64 1, .int .i64 1, .agg #[.string t201, .int .u8 t202, .int .i64 t203, .int .i64 t204, .int .i64 t205, .int .i64 t206, .int .i64 t207, .int .i64 t208, .int .i64 t209, .bool t210, .slice Ao15 t211.length co15, .slice Ao16 t214.length co16]] rfl (by (try simp only [List.map_toArray, List.map_cons, List.map_nil]); first | done | rfl | (simp only [List.length_drop, List.length_take]; rfl)) ?_; (with_reducible refine (ballot_Vote.calls 3 2 1 1 t201 t202 t203 t204 t205 t206 t207 t208 t209 t210 _ _ t211 _ _ t214 t217 t218 t219 _ ?side1 ?side2 ?side3 ?side4 A4.out).mono ?_); (case side1 => repeat (first | exact (Kd.S_reads' HO213.out).2.2 | (with_reducible refine Kd.C_alloc ?_ _) | (with_reducible refine Kd.C_drewN ?_ _) | (with_reducible refine Kd.C_drew ?_))); (case side2 => exact (Kd.S_reads' HO213.out).2.1); (case side3 => repeat (first | exact (Kd.R_reads' HO216.out).2.2 | (with_reducible refine Kd.C_alloc ?_ _) | (with_reducible refine Kd.C_drewN ?_ _) | (with_reducible refine Kd.C_drew ?_))); (case side4 => exact (Kd.R_reads' HO216.out).2.1); rintro e w17 ⟨rfl, hb⟩; refine ⟨_, rfl, ?_⟩; have n0_ := Aside0.mk (Kd.S_below (by (with_reducible repeat (first | apply Kd.S_alloc | apply Kd.S_drewN | apply Kd.S_drew)); exact HO194.out) hb); have n1_ := Aside0.mk (Kd.R_below (by (with_reducible repeat (first | apply Kd.R_alloc | apply Kd.R_drewN | apply Kd.R_drew)); exact HO197.out) hb); have n2_ := Aside0.mk (Kd.S_below (by (with_reducible repeat (first | apply Kd.S_alloc | apply Kd.S_drewN | apply Kd.S_drew)); exact HO213.out) hb); have n3_ := Aside0.mk (Kd.R_below (by (with_reducible repeat (first | apply Kd.R_alloc | apply Kd.R_drewN | apply Kd.R_drew)); exact HO216.out) hb); have n4_ := Aside0.mk (below_step (by repeat (first | (with_reducible first | exact HB.out | apply below_alloc | apply pw_below_drewN | apply below_drew1) | exact HB.out)) hb); clear HO194; clear HO197; clear HO213; clear HO216; clear HB; have HO194 := n0_; have HO197 := n1_; have HO213 := n2_; have HO216 := n3_; have HB := n4_; clear n0_ n1_ n2_ n3_ n4_; (try clear hb); (try clear hb2); (try clear hk); (try clear hi)) | ((with_reducible refine gate_callee (f := 26) rfl ?_); refine goesL_ (some 27) rfl rfl Try.func26 (by kernel_rfl) rfl #[.int .i64 5, .int .i64 2, .int .i64 1, .int .i64 9] rfl (by (try simp only [List.map_toArray, List.map_cons, List.map_nil]); first | done | rfl | (simp only [List.length_drop, List.length_take]; rfl)) ?_; (with_reducible refine (conduitlaw20_asks.calls 5 2 1 9 t220 t221 t222 t223 t224 t225 t226 t227 t228 t229 t230 t233 _ A5.out).mono ?_); rintro e w18 ⟨v231, v234, rfl, ho0, ho1, hb⟩; refine ⟨_, rfl, ?_⟩; have n0_ := Aside0.mk (Kd.S_mono (Kd.S_told (Kd.S_told (Kd.S_old (by (with_reducible repeat (first | apply Kd.S_alloc | apply Kd.S_drewN | apply Kd.S_drew)); exact HO194.out) hb) (Kd.S_base ho0)) (Kd.R_base ho1)) (fun _ h_ => h_.1)); have n1_ := Aside0.mk (Kd.R_elder' (by (with_reducible repeat (first | apply Kd.R_alloc | apply Kd.R_drewN | apply Kd.R_drew)); exact HO197.out) (Kd.R_base ho1) hb); have n2_ := Aside0.mk (Kd.S_mono (Kd.S_told (Kd.S_told (Kd.S_old (by (with_reducible repeat (first | apply Kd.S_alloc | apply Kd.S_drewN | apply Kd.S_drew)); exact HO213.out) hb) (Kd.S_base ho0)) (Kd.R_base ho1)) (fun _ h_ => h_.1)); have n3_ := Aside0.mk (Kd.R_elder' (by (with_reducible repeat (first | apply Kd.R_alloc | apply Kd.R_drewN | apply Kd.R_drew)); exact HO216.out) (Kd.R_base ho1) hb); have n4_ := Aside0.mk (Kd.S_lower (Kd.S_new' (Kd.S_new' (Kd.S_new' (Kd.S_new' ho0 (Kd.S_lt (by (with_reducible repeat (first | apply Kd.S_alloc | apply Kd.S_drewN | apply Kd.S_drew)); exact HO194.out))) (Kd.R_lt (by (with_reducible repeat (first | apply Kd.R_alloc | apply Kd.R_drewN | apply Kd.R_drew)); exact HO197.out))) (Kd.S_lt (by (with_reducible repeat (first | apply Kd.S_alloc | apply Kd.S_drewN | apply Kd.S_drew)); exact HO213.out))) (Kd.R_lt (by (with_reducible repeat (first | apply Kd.R_alloc | apply Kd.R_drewN | apply Kd.R_drew)); exact HO216.out))) (below_size (by repeat (first | (with_reducible first | exact HB.out | apply below_alloc | apply pw_below_drewN | apply below_drew1) | exact HB.out)))); have n5_ := Aside0.mk (Kd.R_lower (Kd.R_new' (Kd.R_new' ho1 (Kd.R_lt (by (with_reducible repeat (first | apply Kd.R_alloc | apply Kd.R_drewN | apply Kd.R_drew)); exact HO197.out))) (Kd.R_lt (by (with_reducible repeat (first | apply Kd.R_alloc | apply Kd.R_drewN | apply Kd.R_drew)); exact HO216.out))) (below_size (by repeat (first | (with_reducible first | exact HB.out | apply below_alloc | apply pw_below_drewN | apply below_drew1) | exact HB.out)))); have n6_ := Aside0.mk (below_step (by repeat (first | (with_reducible first | exact HB.out | apply below_alloc | apply pw_below_drewN | apply below_drew1) | exact HB.out)) hb); clear HO194; clear HO197; clear HO213; clear HO216; clear HB; have HO194 := n0_; have HO197 := n1_; have HO213 := n2_; have HO216 := n3_; have HO232 := n4_; have HO235 := n5_; have HB := n6_; clear n0_ n1_ n2_ n3_ n4_ n5_ n6_; (try clear hb); (try clear hb2); (try clear hk); (try clear hi); (try clear ho0); (try clear ho1); obtain ⟨Ao19, co19, eo19⟩ := Kd.S_slice HO232.out; subst eo19; obtain ⟨Ao20, co20, eo20⟩ := Kd.R_slice HO235.out; subst eo20) | ((with_reducible refine gate_callee (f := 12) rfl ?_); refine goesL_ (some 28) rfl rfl Try.func12 (by kernel_rfl) rfl #[.int .i64 3, .int .i64 0, .int .i64 2, .int .i64 1, .agg #[.string t220, .int .u8 t221, .int .i64 t222, .int .i64 t223, .int .i64 t224, .int .i64 t225, .int .i64 t226, .int .i64 t227, .int .i64 t228, .bool t229, .slice Ao19 t230.length co19, .slice Ao20 t233.length co20]] rfl (by (try simp only [List.map_toArray, List.map_cons, List.map_nil]); first | done | rfl | (simp only [List.length_drop, List.length_take]; rfl)) ?_; (with_reducible refine (ballot_Vote.calls 3 0 2 1 t220 t221 t222 t223 t224 t225 t226 t227 t228 t229 _ _ t230 _ _ t233 t236 t237 t238 _ ?side1 ?side2 ?side3 ?side4 A6.out).mono ?_); (case side1 => repeat (first | exact (Kd.S_reads' HO232.out).2.2 | (with_reducible refine Kd.C_alloc ?_ _) | (with_reducible refine Kd.C_drewN ?_ _) | (with_reducible refine Kd.C_drew ?_))); (case side2 => exact (Kd.S_reads' HO232.out).2.1); (case side3 => repeat (first | exact (Kd.R_reads' HO235.out).2.2 | (with_reducible refine Kd.C_alloc ?_ _) | (with_reducible refine Kd.C_drewN ?_ _) | (with_reducible refine Kd.C_drew ?_))); (case side4 => exact (Kd.R_reads' HO235.out).2.1); rintro e w21 ⟨rfl, hb⟩; refine ⟨_, rfl, ?_⟩; have n0_ := Aside0.mk (Kd.S_below (by (with_reducible repeat (first | apply Kd.S_alloc | apply Kd.S_drewN | apply Kd.S_drew)); exact HO194.out) hb); have n1_ := Aside0.mk (Kd.R_below (by (with_reducible repeat (first | apply Kd.R_alloc | apply Kd.R_drewN | apply Kd.R_drew)); exact HO197.out) hb); have n2_ := Aside0.mk (Kd.S_below (by (with_reducible repeat (first | apply Kd.S_alloc | apply Kd.S_drewN | apply Kd.S_drew)); exact HO213.out) hb); have n3_ := Aside0.mk (Kd.R_below (by (with_reducible repeat (first | apply Kd.R_alloc | apply Kd.R_drewN | apply Kd.R_drew)); exact HO216.out) hb); have n4_ := Aside0.mk (Kd.S_below (by (with_reducible repeat (first | apply Kd.S_alloc | apply Kd.S_drewN | apply Kd.S_drew)); exact HO232.out) hb); have n5_ := Aside0.mk (Kd.R_below (by (with_reducible repeat (first | apply Kd.R_alloc | apply Kd.R_drewN | apply Kd.R_drew)); exact HO235.out) hb); have n6_ := Aside0.mk (below_step (by repeat (first | (with_reducible first | exact HB.out | apply below_alloc | apply pw_below_drewN | apply below_drew1) | exact HB.out)) hb); clear HO194; clear HO197; clear HO213; clear HO216; clear HO232; clear HO235; clear HB; have HO194 := n0_; have HO197 := n1_; have HO213 := n2_; have HO216 := n3_; have HO232 := n4_; have HO235 := n5_; have HB := n6_; clear n0_ n1_ n2_ n3_ n4_ n5_ n6_; (try clear hb); (try clear hb2); (try clear hk); (try clear hi)) | ((with_reducible refine gate_callee (f := 26) rfl ?_); refine goesL_ (some 33) rfl rfl Try.func26 (by kernel_rfl) rfl #[.int .i64 3, .int .i64 2, .int .i64 1, .int .i64 1] rfl (by (try simp only [List.map_toArray, List.map_cons, List.map_nil]); first | done | rfl | (simp only [List.length_drop, List.length_take]; rfl)) ?_; (with_reducible refine (conduitlaw20_asks.calls 3 2 1 1 t239 t240 t241 t242 t243 t244 t245 t246 t247 t248 t249 t252 _ A7.out).mono ?_); rintro e w22 ⟨v250, v253, rfl, ho0, ho1, hb⟩; refine ⟨_, rfl, ?_⟩; have n0_ := Aside0.mk (Kd.S_mono (Kd.S_told (Kd.S_told (Kd.S_old (by (with_reducible repeat (first | apply Kd.S_alloc | apply Kd.S_drewN | apply Kd.S_drew)); exact HO194.out) hb) (Kd.S_base ho0)) (Kd.R_base ho1)) (fun _ h_ => h_.1)); have n1_ := Aside0.mk (Kd.R_elder' (by (with_reducible repeat (first | apply Kd.R_alloc | apply Kd.R_drewN | apply Kd.R_drew)); exact HO197.out) (Kd.R_base ho1) hb); have n2_ := Aside0.mk (Kd.S_mono (Kd.S_told (Kd.S_told (Kd.S_old (by (with_reducible repeat (first | apply Kd.S_alloc | apply Kd.S_drewN | apply Kd.S_drew)); exact HO213.out) hb) (Kd.S_base ho0)) (Kd.R_base ho1)) (fun _ h_ => h_.1)); have n3_ := Aside0.mk (Kd.R_elder' (by (with_reducible repeat (first | apply Kd.R_alloc | apply Kd.R_drewN | apply Kd.R_drew)); exact HO216.out) (Kd.R_base ho1) hb); have n4_ := Aside0.mk (Kd.S_mono (Kd.S_told (Kd.S_told (Kd.S_old (by (with_reducible repeat (first | apply Kd.S_alloc | apply Kd.S_drewN | apply Kd.S_drew)); exact HO232.out) hb) (Kd.S_base ho0)) (Kd.R_base ho1)) (fun _ h_ => h_.1)); have n5_ := Aside0.mk (Kd.R_elder' (by (with_reducible repeat (first | apply Kd.R_alloc | apply Kd.R_drewN | apply Kd.R_drew)); exact HO235.out) (Kd.R_base ho1) hb); have n6_ := Aside0.mk (Kd.S_lower (Kd.S_new' (Kd.S_new' (Kd.S_new' (Kd.S_new' (Kd.S_new' (Kd.S_new' ho0 (Kd.S_lt (by (with_reducible repeat (first | apply Kd.S_alloc | apply Kd.S_drewN | apply Kd.S_drew)); exact HO194.out))) (Kd.R_lt (by (with_reducible repeat (first | apply Kd.R_alloc | apply Kd.R_drewN | apply Kd.R_drew)); exact HO197.out))) (Kd.S_lt (by (with_reducible repeat (first | apply Kd.S_alloc | apply Kd.S_drewN | apply Kd.S_drew)); exact HO213.out))) (Kd.R_lt (by (with_reducible repeat (first | apply Kd.R_alloc | apply Kd.R_drewN | apply Kd.R_drew)); exact HO216.out))) (Kd.S_lt (by (with_reducible repeat (first | apply Kd.S_alloc | apply Kd.S_drewN | apply Kd.S_drew)); exact HO232.out))) (Kd.R_lt (by (with_reducible repeat (first | apply Kd.R_alloc | apply Kd.R_drewN | apply Kd.R_drew)); exact HO235.out))) (below_size (by repeat (first | (with_reducible first | exact HB.out | apply below_alloc | apply pw_below_drewN | apply below_drew1) | exact HB.out)))); have n7_ := Aside0.mk (Kd.R_lower (Kd.R_new' (Kd.R_new' (Kd.R_new' ho1 (Kd.R_lt (by (with_reducible repeat (first | apply Kd.R_alloc | apply Kd.R_drewN | apply Kd.R_drew)); exact HO197.out))) (Kd.R_lt (by (with_reducible repeat (first | apply Kd.R_alloc | apply Kd.R_drewN | apply Kd.R_drew)); exact HO216.out))) (Kd.R_lt (by (with_reducible repeat (first | apply Kd.R_alloc | apply Kd.R_drewN | apply Kd.R_drew)); exact HO235.out))) (below_size (by repeat (first | (with_reducible first | exact HB.out | apply below_alloc | apply pw_below_drewN | apply below_drew1) | exact HB.out)))); have n8_ := Aside0.mk (below_step (by repeat (first | (with_reducible first | exact HB.out | apply below_alloc | apply pw_below_drewN | apply below_drew1) | exact HB.out)) hb); clear HO194; clear HO197; clear HO213; clear HO216; clear HO232; clear HO235; clear HB; have HO194 := n0_; have HO197 := n1_; have HO213 := n2_; have HO216 := n3_; have HO232 := n4_; have HO235 := n5_; have HO251 := n6_; have HO254 := n7_; have HB := n8_; clear n0_ n1_ n2_ n3_ n4_ n5_ n6_ n7_ n8_; (try clear hb); (try clear hb2); (try clear hk); (try clear hi); (try clear ho0); (try clear ho1); obtain ⟨Ao23, co23, eo23⟩ := Kd.S_slice HO251.out; subst eo23; obtain ⟨Ao24, co24, eo24⟩ := Kd.R_slice HO254.out; subst eo24) | ((with_reducible refine gate_callee (f := 12) rfl ?_); refine goesL_ (some 34) rfl rfl Try.func12 (by kernel_rfl) rfl #[.int .i64 3, .int .i64 2, .int .i64 1, .int .i64 1, .agg #[.string t239, .int .u8 t240, .int .i64 t241, .int .i64 t242, .int .i64 t243, .int .i64 t244, .int .i64 t245, .int .i64 t246, .int .i64 t247, .bool t248, .slice Ao23 t249.length co23, .slice Ao24 t252.length co24]] rfl (by (try simp only [List.map_toArray, List.map_cons, List.map_nil]); first | done | rfl | (simp only [List.length_drop, List.length_take]; rfl)) ?_; (with_reducible refine (ballot_Vote.calls 3 2 1 1 t239 t240 t241 t242 t243 t244 t245 t246 t247 t248 _ _ t249 _ _ t252 t255 t256 t257 _ ?side1 ?side2 ?side3 ?side4 A8.out).mono ?_); (case side1 => repeat (first | exact (Kd.S_reads' HO251.out).2.2 | (with_reducible refine Kd.C_alloc ?_ _) | (with_reducible refine Kd.C_drewN ?_ _) | (with_reducible refine Kd.C_drew ?_))); (case side2 => exact (Kd.S_reads' HO251.out).2.1); (case side3 => repeat (first | exact (Kd.R_reads' HO254.out).2.2 | (with_reducible refine Kd.C_alloc ?_ _) | (with_reducible refine Kd.C_drewN ?_ _) | (with_reducible refine Kd.C_drew ?_))); (case side4 => exact (Kd.R_reads' HO254.out).2.1); rintro e w25 ⟨rfl, hb⟩; refine ⟨_, rfl, ?_⟩; have n0_ := Aside0.mk (Kd.S_below (by (with_reducible repeat (first | apply Kd.S_alloc | apply Kd.S_drewN | apply Kd.S_drew)); exact HO194.out) hb); have n1_ := Aside0.mk (Kd.R_below (by (with_reducible repeat (first | apply Kd.R_alloc | apply Kd.R_drewN | apply Kd.R_drew)); exact HO197.out) hb); have n2_ := Aside0.mk (Kd.S_below (by (with_reducible repeat (first | apply Kd.S_alloc | apply Kd.S_drewN | apply Kd.S_drew)); exact HO213.out) hb); have n3_ := Aside0.mk (Kd.R_below (by (with_reducible repeat (first | apply Kd.R_alloc | apply Kd.R_drewN | apply Kd.R_drew)); exact HO216.out) hb); have n4_ := Aside0.mk (Kd.S_below (by (with_reducible repeat (first | apply Kd.S_alloc | apply Kd.S_drewN | apply Kd.S_drew)); exact HO232.out) hb); have n5_ := Aside0.mk (Kd.R_below (by (with_reducible repeat (first | apply Kd.R_alloc | apply Kd.R_drewN | apply Kd.R_drew)); exact HO235.out) hb); have n6_ := Aside0.mk (Kd.S_below (by (with_reducible repeat (first | apply Kd.S_alloc | apply Kd.S_drewN | apply Kd.S_drew)); exact HO251.out) hb); have n7_ := Aside0.mk (Kd.R_below (by (with_reducible repeat (first | apply Kd.R_alloc | apply Kd.R_drewN | apply Kd.R_drew)); exact HO254.out) hb); have n8_ := Aside0.mk (below_step (by repeat (first | (with_reducible first | exact HB.out | apply below_alloc | apply pw_below_drewN | apply below_drew1) | exact HB.out)) hb); clear HO194; clear HO197; clear HO213; clear HO216; clear HO232; clear HO235; clear HO251; clear HO254; clear HB; have HO194 := n0_; have HO197 := n1_; have HO213 := n2_; have HO216 := n3_; have HO232 := n4_; have HO235 := n5_; have HO251 := n6_; have HO254 := n7_; have HB := n8_; clear n0_ n1_ n2_ n3_ n4_ n5_ n6_ n7_ n8_; (try clear hb); (try clear hb2); (try clear hk); (try clear hi)))
  (try simp only [Act.put, List.setIfInBounds_toArray, List.set_cons_zero, List.set_cons_succ])
  go_cut [13] (fun v13 wc => ∃ (kq : Nat) (x13_8 : Bool), v13 = .bool x13_8 ∧ Aside0 (conduitlaw20_BallotNumbers.j0 kq x13_8 = some r) ∧ Aside0 (kq ≤ k) ∧ Aside0 (Below w.heap.size w wc))
  case first =>
    have H := HC9.out
    clear HC9
    by_cases c26 : t198 = 4
    · rw [if_pos c26] at H
      have c26b0 : (t198 == 4) = true := beq_iff_eq.mpr c26
      have c26b1 : (t198 != 4) = false := bne_eq_false_iff_eq.mpr c26
      clear c26
      (first | rw [c26b0] | (simp only [i64_w, i32_w]; rw [c26b0]) | skip)
      by_cases c27 : t199 = 1
      · rw [if_pos c27] at H
        have c27b0 : (t199 == 1) = true := beq_iff_eq.mpr c27
        have c27b1 : (t199 != 1) = false := bne_eq_false_iff_eq.mpr c27
        clear c27
        by_cases c28 : t200 = true
        · subst c28
          have H1 : (if t217 = 3 then (if t218 = 2 then (if t219 = true then (conduitlaw20_BallotNumbers.j0 k false) else (if t236 = 5 then (if t237 = 0 then (if t238 = true then (conduitlaw20_BallotNumbers.j0 k false) else (if t255 = 3 then (if t256 = 2 then (conduitlaw20_BallotNumbers.j0 k t257) else (conduitlaw20_BallotNumbers.j0 k false)) else (conduitlaw20_BallotNumbers.j0 k false))) else (conduitlaw20_BallotNumbers.j0 k false)) else (conduitlaw20_BallotNumbers.j0 k false))) else (conduitlaw20_BallotNumbers.j0 k false)) else (conduitlaw20_BallotNumbers.j0 k false)) = some r := by rw [if_pos rfl] at H; exact H
          clear H
          have H := H1
          clear H1
          by_cases c29 : t217 = 3
          · rw [if_pos c29] at H
            have c29b0 : (t217 == 3) = true := beq_iff_eq.mpr c29
            have c29b1 : (t217 != 3) = false := bne_eq_false_iff_eq.mpr c29
            clear c29
            by_cases c30 : t218 = 2
            · rw [if_pos c30] at H
              have c30b0 : (t218 == 2) = true := beq_iff_eq.mpr c30
              have c30b1 : (t218 != 2) = false := bne_eq_false_iff_eq.mpr c30
              clear c30
              by_cases c31 : t219 = true
              · subst c31
                have H1 : (conduitlaw20_BallotNumbers.j0 k false) = some r := by rw [if_pos rfl] at H; exact H
                clear H
                have H := H1
                clear H1
                have H' := Aside0.mk H
                clear H
                go_wp2
                go_meet
                case rel => exact ⟨_, (false), (by first | rfl | (simp; done) | (simp [*]; done)), H', ⟨by first | omega | exact Nat.le_refl _⟩, ⟨by repeat (first | (with_reducible first | exact HB.out | apply below_alloc | apply pw_below_drewN | apply below_drew1) | exact HB.out)⟩⟩
              · replace c31 := Bool.eq_false_iff.mpr c31
                subst c31
                have H1 : (if t236 = 5 then (if t237 = 0 then (if t238 = true then (conduitlaw20_BallotNumbers.j0 k false) else (if t255 = 3 then (if t256 = 2 then (conduitlaw20_BallotNumbers.j0 k t257) else (conduitlaw20_BallotNumbers.j0 k false)) else (conduitlaw20_BallotNumbers.j0 k false))) else (conduitlaw20_BallotNumbers.j0 k false)) else (conduitlaw20_BallotNumbers.j0 k false)) = some r := by rw [if_neg (show ¬ (false = true) by decide)] at H; exact H
                clear H
                have H := H1
                clear H1
                by_cases c32 : t236 = 5
                · rw [if_pos c32] at H
                  have c32b0 : (t236 == 5) = true := beq_iff_eq.mpr c32
                  have c32b1 : (t236 != 5) = false := bne_eq_false_iff_eq.mpr c32
                  clear c32
                  by_cases c33 : t237 = 0
                  · rw [if_pos c33] at H
                    have c33b0 : (t237 == 0) = true := beq_iff_eq.mpr c33
                    have c33b1 : (t237 != 0) = false := bne_eq_false_iff_eq.mpr c33
                    clear c33
                    by_cases c34 : t238 = true
                    · subst c34
                      have H1 : (conduitlaw20_BallotNumbers.j0 k false) = some r := by rw [if_pos rfl] at H; exact H
                      clear H
                      have H := H1
                      clear H1
                      have H' := Aside0.mk H
                      clear H
                      go_wp2
                      go_meet
                      case rel => exact ⟨_, (false), (by first | rfl | (simp; done) | (simp [*]; done)), H', ⟨by first | omega | exact Nat.le_refl _⟩, ⟨by repeat (first | (with_reducible first | exact HB.out | apply below_alloc | apply pw_below_drewN | apply below_drew1) | exact HB.out)⟩⟩
                    · replace c34 := Bool.eq_false_iff.mpr c34
                      subst c34
                      have H1 : (if t255 = 3 then (if t256 = 2 then (conduitlaw20_BallotNumbers.j0 k t257) else (conduitlaw20_BallotNumbers.j0 k false)) else (conduitlaw20_BallotNumbers.j0 k false)) = some r := by rw [if_neg (show ¬ (false = true) by decide)] at H; exact H
                      clear H
                      have H := H1
                      clear H1
                      by_cases c35 : t255 = 3
                      · rw [if_pos c35] at H
                        have c35b0 : (t255 == 3) = true := beq_iff_eq.mpr c35
                        have c35b1 : (t255 != 3) = false := bne_eq_false_iff_eq.mpr c35
                        clear c35
                        by_cases c36 : t256 = 2
                        · rw [if_pos c36] at H
                          have c36b0 : (t256 == 2) = true := beq_iff_eq.mpr c36
                          have c36b1 : (t256 != 2) = false := bne_eq_false_iff_eq.mpr c36
                          clear c36
                          have H' := Aside0.mk H
                          clear H
                          go_wp2
                          go_meet
                          case rel => exact ⟨_, (t257), (by first | rfl | (simp; done) | (simp [*]; done)), H', ⟨by first | omega | exact Nat.le_refl _⟩, ⟨by repeat (first | (with_reducible first | exact HB.out | apply below_alloc | apply pw_below_drewN | apply below_drew1) | exact HB.out)⟩⟩
                        · rw [if_neg c36] at H
                          have c36b0 : (t256 == 2) = false := beq_eq_false_iff_ne.mpr c36
                          have c36b1 : (t256 != 2) = true := bne_iff_ne.mpr c36
                          have H' := Aside0.mk H
                          clear H
                          go_wp2
                          go_meet
                          case rel => exact ⟨_, (false), (by first | rfl | (simp; done) | (simp [*]; done)), H', ⟨by first | omega | exact Nat.le_refl _⟩, ⟨by repeat (first | (with_reducible first | exact HB.out | apply below_alloc | apply pw_below_drewN | apply below_drew1) | exact HB.out)⟩⟩
                      · rw [if_neg c35] at H
                        have c35b0 : (t255 == 3) = false := beq_eq_false_iff_ne.mpr c35
                        have c35b1 : (t255 != 3) = true := bne_iff_ne.mpr c35
                        have H' := Aside0.mk H
                        clear H
                        go_wp2
                        go_meet
                        case rel => exact ⟨_, (false), (by first | rfl | (simp; done) | (simp [*]; done)), H', ⟨by first | omega | exact Nat.le_refl _⟩, ⟨by repeat (first | (with_reducible first | exact HB.out | apply below_alloc | apply pw_below_drewN | apply below_drew1) | exact HB.out)⟩⟩
                  · rw [if_neg c33] at H
                    have c33b0 : (t237 == 0) = false := beq_eq_false_iff_ne.mpr c33
                    have c33b1 : (t237 != 0) = true := bne_iff_ne.mpr c33
                    have H' := Aside0.mk H
                    clear H
                    go_wp2
                    go_meet
                    case rel => exact ⟨_, (false), (by first | rfl | (simp; done) | (simp [*]; done)), H', ⟨by first | omega | exact Nat.le_refl _⟩, ⟨by repeat (first | (with_reducible first | exact HB.out | apply below_alloc | apply pw_below_drewN | apply below_drew1) | exact HB.out)⟩⟩
                · rw [if_neg c32] at H
                  have c32b0 : (t236 == 5) = false := beq_eq_false_iff_ne.mpr c32
                  have c32b1 : (t236 != 5) = true := bne_iff_ne.mpr c32
                  have H' := Aside0.mk H
                  clear H
                  go_wp2
                  go_meet
                  case rel => exact ⟨_, (false), (by first | rfl | (simp; done) | (simp [*]; done)), H', ⟨by first | omega | exact Nat.le_refl _⟩, ⟨by repeat (first | (with_reducible first | exact HB.out | apply below_alloc | apply pw_below_drewN | apply below_drew1) | exact HB.out)⟩⟩
            · rw [if_neg c30] at H
              have c30b0 : (t218 == 2) = false := beq_eq_false_iff_ne.mpr c30
              have c30b1 : (t218 != 2) = true := bne_iff_ne.mpr c30
              have H' := Aside0.mk H
              clear H
              go_wp2
              go_meet
              case rel => exact ⟨_, (false), (by first | rfl | (simp; done) | (simp [*]; done)), H', ⟨by first | omega | exact Nat.le_refl _⟩, ⟨by repeat (first | (with_reducible first | exact HB.out | apply below_alloc | apply pw_below_drewN | apply below_drew1) | exact HB.out)⟩⟩
          · rw [if_neg c29] at H
            have c29b0 : (t217 == 3) = false := beq_eq_false_iff_ne.mpr c29
            have c29b1 : (t217 != 3) = true := bne_iff_ne.mpr c29
            have H' := Aside0.mk H
            clear H
            go_wp2
            go_meet
            case rel => exact ⟨_, (false), (by first | rfl | (simp; done) | (simp [*]; done)), H', ⟨by first | omega | exact Nat.le_refl _⟩, ⟨by repeat (first | (with_reducible first | exact HB.out | apply below_alloc | apply pw_below_drewN | apply below_drew1) | exact HB.out)⟩⟩
        · replace c28 := Bool.eq_false_iff.mpr c28
          subst c28
          have H1 : (conduitlaw20_BallotNumbers.j0 k false) = some r := by rw [if_neg (show ¬ (false = true) by decide)] at H; exact H
          clear H
          have H := H1
          clear H1
          have H' := Aside0.mk H
          clear H
          go_wp2
          go_meet
          case rel => exact ⟨_, (false), (by first | rfl | (simp; done) | (simp [*]; done)), H', ⟨by first | omega | exact Nat.le_refl _⟩, ⟨by repeat (first | (with_reducible first | exact HB.out | apply below_alloc | apply pw_below_drewN | apply below_drew1) | exact HB.out)⟩⟩
      · rw [if_neg c27] at H
        have c27b0 : (t199 == 1) = false := beq_eq_false_iff_ne.mpr c27
        have c27b1 : (t199 != 1) = true := bne_iff_ne.mpr c27
        have H' := Aside0.mk H
        clear H
        go_wp2
        go_meet
        case rel => exact ⟨_, (false), (by first | rfl | (simp; done) | (simp [*]; done)), H', ⟨by first | omega | exact Nat.le_refl _⟩, ⟨by repeat (first | (with_reducible first | exact HB.out | apply below_alloc | apply pw_below_drewN | apply below_drew1) | exact HB.out)⟩⟩
    · rw [if_neg c26] at H
      have c26b0 : (t198 == 4) = false := beq_eq_false_iff_ne.mpr c26
      have c26b1 : (t198 != 4) = true := bne_iff_ne.mpr c26
      (first | rw [c26b0] | (simp only [i64_w, i32_w]; rw [c26b0]) | skip)
      have H' := Aside0.mk H
      clear H
      go_wp2
      go_meet
      case rel => exact ⟨_, (false), (by first | rfl | (simp; done) | (simp [*]; done)), H', ⟨by first | omega | exact Nat.le_refl _⟩, ⟨by repeat (first | (with_reducible first | exact HB.out | apply below_alloc | apply pw_below_drewN | apply below_drew1) | exact HB.out)⟩⟩
  case rest =>
    clear HC9
    try clear c1
    try clear c2
    try clear p2
    try clear c3
    try clear c9
    try clear c12
    try clear c26
    try clear c26b0
    try clear c26b1
    try clear c27
    try clear c27b0
    try clear c27b1
    try clear c28
    try clear c29
    try clear c29b0
    try clear c29b1
    try clear c30
    try clear c30b0
    try clear c30b1
    try clear c31
    try clear c32
    try clear c32b0
    try clear c32b1
    try clear c33
    try clear c33b0
    try clear c33b1
    try clear c34
    try clear c35
    try clear c35b0
    try clear c35b1
    try clear c36
    try clear c36b0
    try clear c36b1
    obtain ⟨kq, x13_8, rfl, HA, HJ8, HB⟩ := hcut
    cases kq with
    | zero => exact absurd HA.out (by simp [conduitlaw20_BallotNumbers.j0])
    | succ kj8 =>
      have H := HA.out
      clear HA
      simp only [conduitlaw20_BallotNumbers.j0] at H
      by_cases c37 : x13_8 = true
      · subst c37
        have H1 : ((ballot_Majority.f 2 3).bind fun t258 => (if t258 = true then ((ballot_Majority.f 2 4).bind fun t259 => (if t259 = true then (some false) else ((ballot_Majority.f 0 0).bind fun t260 => (if t260 = true then (some false) else ((ballot_Majority.f 1 1).bind fun t261 => (if t261 = true then ((ballot_Timeout.f 3).bind fun t262 => (if t262 = 13 then ((ballot_Timeout.f (-1)).bind fun t263 => (if t263 = 19 then ((ballot_Timeout.f (-9223372036854775808)).bind fun t264 => (if t264 = 12 then ((conduitlaw20_awake.f).bind fun t265 => (some t265)) else (some false))) else (some false))) else (some false))) else (some false))))))) else (some false))) = some r := by rw [if_pos rfl] at H; exact H
        clear H
        have H := H1
        clear H1
        replace H := Option.bind_eq_some_iff.mp H
        obtain ⟨t258, A380, H⟩ := H
        replace H : (if t258 = true then ((ballot_Majority.f 2 4).bind fun t259 => (if t259 = true then (some false) else ((ballot_Majority.f 0 0).bind fun t260 => (if t260 = true then (some false) else ((ballot_Majority.f 1 1).bind fun t261 => (if t261 = true then ((ballot_Timeout.f 3).bind fun t262 => (if t262 = 13 then ((ballot_Timeout.f (-1)).bind fun t263 => (if t263 = 19 then ((ballot_Timeout.f (-9223372036854775808)).bind fun t264 => (if t264 = 12 then ((conduitlaw20_awake.f).bind fun t265 => (some t265)) else (some false))) else (some false))) else (some false))) else (some false))))))) else (some false)) = some r := H
        have A38 := Aside0.mk A380
        clear A380
        by_cases c39 : t258 = true
        · subst c39
          have H1 : ((ballot_Majority.f 2 4).bind fun t259 => (if t259 = true then (some false) else ((ballot_Majority.f 0 0).bind fun t260 => (if t260 = true then (some false) else ((ballot_Majority.f 1 1).bind fun t261 => (if t261 = true then ((ballot_Timeout.f 3).bind fun t262 => (if t262 = 13 then ((ballot_Timeout.f (-1)).bind fun t263 => (if t263 = 19 then ((ballot_Timeout.f (-9223372036854775808)).bind fun t264 => (if t264 = 12 then ((conduitlaw20_awake.f).bind fun t265 => (some t265)) else (some false))) else (some false))) else (some false))) else (some false))))))) = some r := by rw [if_pos rfl] at H; exact H
          clear H
          have H := H1
          clear H1
          replace H := Option.bind_eq_some_iff.mp H
          obtain ⟨t259, A400, H⟩ := H
          replace H : (if t259 = true then (some false) else ((ballot_Majority.f 0 0).bind fun t260 => (if t260 = true then (some false) else ((ballot_Majority.f 1 1).bind fun t261 => (if t261 = true then ((ballot_Timeout.f 3).bind fun t262 => (if t262 = 13 then ((ballot_Timeout.f (-1)).bind fun t263 => (if t263 = 19 then ((ballot_Timeout.f (-9223372036854775808)).bind fun t264 => (if t264 = 12 then ((conduitlaw20_awake.f).bind fun t265 => (some t265)) else (some false))) else (some false))) else (some false))) else (some false)))))) = some r := H
          have A40 := Aside0.mk A400
          clear A400
          by_cases c41 : t259 = true
          · subst c41
            have H1 : (some false) = some r := by rw [if_pos rfl] at H; exact H
            clear H
            have H := H1
            clear H1
            obtain rfl := Option.some.inj H
            go_wp2_with (first | (go_at_call 25; (with_reducible refine (ballot_Majority.calls 2 3 true _ A38.out).mono ?_); rintro e w' ⟨rfl, ⟨nd, rfl⟩⟩) | (go_at_call 25; (with_reducible refine (ballot_Majority.calls 2 4 true _ A40.out).mono ?_); rintro e w' ⟨rfl, ⟨nd, rfl⟩⟩))
            go_ret
            exact ⟨by first | rfl | (simp [errW_none, errW_some] <;> rfl) | (simp [*, errW_none, errW_some] <;> rfl), by repeat (first | (with_reducible first | exact HB.out | apply below_alloc | apply pw_below_drewN | apply below_drew1) | exact HB.out)⟩
          · replace c41 := Bool.eq_false_iff.mpr c41
            subst c41
            have H1 : ((ballot_Majority.f 0 0).bind fun t260 => (if t260 = true then (some false) else ((ballot_Majority.f 1 1).bind fun t261 => (if t261 = true then ((ballot_Timeout.f 3).bind fun t262 => (if t262 = 13 then ((ballot_Timeout.f (-1)).bind fun t263 => (if t263 = 19 then ((ballot_Timeout.f (-9223372036854775808)).bind fun t264 => (if t264 = 12 then ((conduitlaw20_awake.f).bind fun t265 => (some t265)) else (some false))) else (some false))) else (some false))) else (some false))))) = some r := by rw [if_neg (show ¬ (false = true) by decide)] at H; exact H
            clear H
            have H := H1
            clear H1
            replace H := Option.bind_eq_some_iff.mp H
            obtain ⟨t260, A420, H⟩ := H
            replace H : (if t260 = true then (some false) else ((ballot_Majority.f 1 1).bind fun t261 => (if t261 = true then ((ballot_Timeout.f 3).bind fun t262 => (if t262 = 13 then ((ballot_Timeout.f (-1)).bind fun t263 => (if t263 = 19 then ((ballot_Timeout.f (-9223372036854775808)).bind fun t264 => (if t264 = 12 then ((conduitlaw20_awake.f).bind fun t265 => (some t265)) else (some false))) else (some false))) else (some false))) else (some false)))) = some r := H
            have A42 := Aside0.mk A420
            clear A420
            by_cases c43 : t260 = true
            · subst c43
              have H1 : (some false) = some r := by rw [if_pos rfl] at H; exact H
              clear H
              have H := H1
              clear H1
              obtain rfl := Option.some.inj H
              go_wp2_with (first | (go_at_call 25; (with_reducible refine (ballot_Majority.calls 2 3 true _ A38.out).mono ?_); rintro e w' ⟨rfl, ⟨nd, rfl⟩⟩) | (go_at_call 25; (with_reducible refine (ballot_Majority.calls 2 4 false _ A40.out).mono ?_); rintro e w' ⟨rfl, ⟨nd, rfl⟩⟩) | (go_at_call 25; (with_reducible refine (ballot_Majority.calls 0 0 true _ A42.out).mono ?_); rintro e w' ⟨rfl, ⟨nd, rfl⟩⟩))
              go_ret
              exact ⟨by first | rfl | (simp [errW_none, errW_some] <;> rfl) | (simp [*, errW_none, errW_some] <;> rfl), by repeat (first | (with_reducible first | exact HB.out | apply below_alloc | apply pw_below_drewN | apply below_drew1) | exact HB.out)⟩
            · replace c43 := Bool.eq_false_iff.mpr c43
              subst c43
              have H1 : ((ballot_Majority.f 1 1).bind fun t261 => (if t261 = true then ((ballot_Timeout.f 3).bind fun t262 => (if t262 = 13 then ((ballot_Timeout.f (-1)).bind fun t263 => (if t263 = 19 then ((ballot_Timeout.f (-9223372036854775808)).bind fun t264 => (if t264 = 12 then ((conduitlaw20_awake.f).bind fun t265 => (some t265)) else (some false))) else (some false))) else (some false))) else (some false))) = some r := by rw [if_neg (show ¬ (false = true) by decide)] at H; exact H
              clear H
              have H := H1
              clear H1
              replace H := Option.bind_eq_some_iff.mp H
              obtain ⟨t261, A440, H⟩ := H
              replace H : (if t261 = true then ((ballot_Timeout.f 3).bind fun t262 => (if t262 = 13 then ((ballot_Timeout.f (-1)).bind fun t263 => (if t263 = 19 then ((ballot_Timeout.f (-9223372036854775808)).bind fun t264 => (if t264 = 12 then ((conduitlaw20_awake.f).bind fun t265 => (some t265)) else (some false))) else (some false))) else (some false))) else (some false)) = some r := H
              have A44 := Aside0.mk A440
              clear A440
              by_cases c45 : t261 = true
              · subst c45
                have H1 : ((ballot_Timeout.f 3).bind fun t262 => (if t262 = 13 then ((ballot_Timeout.f (-1)).bind fun t263 => (if t263 = 19 then ((ballot_Timeout.f (-9223372036854775808)).bind fun t264 => (if t264 = 12 then ((conduitlaw20_awake.f).bind fun t265 => (some t265)) else (some false))) else (some false))) else (some false))) = some r := by rw [if_pos rfl] at H; exact H
                clear H
                have H := H1
                clear H1
                replace H := Option.bind_eq_some_iff.mp H
                obtain ⟨t262, A460, H⟩ := H
                replace H : (if t262 = 13 then ((ballot_Timeout.f (-1)).bind fun t263 => (if t263 = 19 then ((ballot_Timeout.f (-9223372036854775808)).bind fun t264 => (if t264 = 12 then ((conduitlaw20_awake.f).bind fun t265 => (some t265)) else (some false))) else (some false))) else (some false)) = some r := H
                have A46 := Aside0.mk A460
                clear A460
                by_cases c47 : t262 = 13
                · rw [if_pos c47] at H
                  have c47b0 : (t262 == 13) = true := beq_iff_eq.mpr c47
                  have c47b1 : (t262 != 13) = false := bne_eq_false_iff_eq.mpr c47
                  clear c47
                  replace H := Option.bind_eq_some_iff.mp H
                  obtain ⟨t263, A480, H⟩ := H
                  replace H : (if t263 = 19 then ((ballot_Timeout.f (-9223372036854775808)).bind fun t264 => (if t264 = 12 then ((conduitlaw20_awake.f).bind fun t265 => (some t265)) else (some false))) else (some false)) = some r := H
                  have A48 := Aside0.mk A480
                  clear A480
                  by_cases c49 : t263 = 19
                  · rw [if_pos c49] at H
                    have c49b0 : (t263 == 19) = true := beq_iff_eq.mpr c49
                    have c49b1 : (t263 != 19) = false := bne_eq_false_iff_eq.mpr c49
                    clear c49
                    replace H := Option.bind_eq_some_iff.mp H
                    obtain ⟨t264, A500, H⟩ := H
                    replace H : (if t264 = 12 then ((conduitlaw20_awake.f).bind fun t265 => (some t265)) else (some false)) = some r := H
                    have A50 := Aside0.mk A500
                    clear A500
                    by_cases c51 : t264 = 12
                    · rw [if_pos c51] at H
                      have c51b0 : (t264 == 12) = true := beq_iff_eq.mpr c51
                      have c51b1 : (t264 != 12) = false := bne_eq_false_iff_eq.mpr c51
                      clear c51
                      replace H := Option.bind_eq_some_iff.mp H
                      obtain ⟨t265, A520, H⟩ := H
                      replace H : (some t265) = some r := H
                      have A52 := Aside0.mk A520
                      clear A520
                      obtain rfl := Option.some.inj H
                      go_wp2_with (first | (go_at_call 25; (with_reducible refine (ballot_Majority.calls 2 3 true _ A38.out).mono ?_); rintro e w' ⟨rfl, ⟨nd, rfl⟩⟩) | (go_at_call 25; (with_reducible refine (ballot_Majority.calls 2 4 false _ A40.out).mono ?_); rintro e w' ⟨rfl, ⟨nd, rfl⟩⟩) | (go_at_call 25; (with_reducible refine (ballot_Majority.calls 0 0 false _ A42.out).mono ?_); rintro e w' ⟨rfl, ⟨nd, rfl⟩⟩) | (go_at_call 25; (with_reducible refine (ballot_Majority.calls 1 1 true _ A44.out).mono ?_); rintro e w' ⟨rfl, ⟨nd, rfl⟩⟩) | (go_at_call 27; (with_reducible refine (ballot_Timeout.calls 3 t262 _ A46.out).mono ?_); rintro e w' ⟨rfl, ⟨nd, rfl⟩⟩) | (go_at_call 27; (with_reducible refine (ballot_Timeout.calls (-1) t263 _ A48.out).mono ?_); rintro e w' ⟨rfl, ⟨nd, rfl⟩⟩) | (go_at_call 27; (with_reducible refine (ballot_Timeout.calls (-9223372036854775808) t264 _ A50.out).mono ?_); rintro e w' ⟨rfl, ⟨nd, rfl⟩⟩) | (go_at_call 13; (with_reducible refine (conduitlaw20_awake.calls  t265 _ A52.out).mono ?_); rintro e w53 ⟨rfl, hb⟩; have n0_ := Aside0.mk (below_step (by repeat (first | (with_reducible first | exact HB.out | apply below_alloc | apply pw_below_drewN | apply below_drew1) | exact HB.out)) hb); clear HB; have HB := n0_; clear n0_; (try clear hb); (try clear hb2); (try clear hk); (try clear hi)))
                      go_ret
                      exact ⟨by first | rfl | (simp [errW_none, errW_some] <;> rfl) | (simp [*, errW_none, errW_some] <;> rfl), by repeat (first | (with_reducible first | exact HB.out | apply below_alloc | apply pw_below_drewN | apply below_drew1) | exact HB.out)⟩
                    · rw [if_neg c51] at H
                      have c51b0 : (t264 == 12) = false := beq_eq_false_iff_ne.mpr c51
                      have c51b1 : (t264 != 12) = true := bne_iff_ne.mpr c51
                      obtain rfl := Option.some.inj H
                      go_wp2_with (first | (go_at_call 25; (with_reducible refine (ballot_Majority.calls 2 3 true _ A38.out).mono ?_); rintro e w' ⟨rfl, ⟨nd, rfl⟩⟩) | (go_at_call 25; (with_reducible refine (ballot_Majority.calls 2 4 false _ A40.out).mono ?_); rintro e w' ⟨rfl, ⟨nd, rfl⟩⟩) | (go_at_call 25; (with_reducible refine (ballot_Majority.calls 0 0 false _ A42.out).mono ?_); rintro e w' ⟨rfl, ⟨nd, rfl⟩⟩) | (go_at_call 25; (with_reducible refine (ballot_Majority.calls 1 1 true _ A44.out).mono ?_); rintro e w' ⟨rfl, ⟨nd, rfl⟩⟩) | (go_at_call 27; (with_reducible refine (ballot_Timeout.calls 3 t262 _ A46.out).mono ?_); rintro e w' ⟨rfl, ⟨nd, rfl⟩⟩) | (go_at_call 27; (with_reducible refine (ballot_Timeout.calls (-1) t263 _ A48.out).mono ?_); rintro e w' ⟨rfl, ⟨nd, rfl⟩⟩) | (go_at_call 27; (with_reducible refine (ballot_Timeout.calls (-9223372036854775808) t264 _ A50.out).mono ?_); rintro e w' ⟨rfl, ⟨nd, rfl⟩⟩))
                      go_ret
                      exact ⟨by first | rfl | (simp [errW_none, errW_some] <;> rfl) | (simp [*, errW_none, errW_some] <;> rfl), by repeat (first | (with_reducible first | exact HB.out | apply below_alloc | apply pw_below_drewN | apply below_drew1) | exact HB.out)⟩
                  · rw [if_neg c49] at H
                    have c49b0 : (t263 == 19) = false := beq_eq_false_iff_ne.mpr c49
                    have c49b1 : (t263 != 19) = true := bne_iff_ne.mpr c49
                    obtain rfl := Option.some.inj H
                    go_wp2_with (first | (go_at_call 25; (with_reducible refine (ballot_Majority.calls 2 3 true _ A38.out).mono ?_); rintro e w' ⟨rfl, ⟨nd, rfl⟩⟩) | (go_at_call 25; (with_reducible refine (ballot_Majority.calls 2 4 false _ A40.out).mono ?_); rintro e w' ⟨rfl, ⟨nd, rfl⟩⟩) | (go_at_call 25; (with_reducible refine (ballot_Majority.calls 0 0 false _ A42.out).mono ?_); rintro e w' ⟨rfl, ⟨nd, rfl⟩⟩) | (go_at_call 25; (with_reducible refine (ballot_Majority.calls 1 1 true _ A44.out).mono ?_); rintro e w' ⟨rfl, ⟨nd, rfl⟩⟩) | (go_at_call 27; (with_reducible refine (ballot_Timeout.calls 3 t262 _ A46.out).mono ?_); rintro e w' ⟨rfl, ⟨nd, rfl⟩⟩) | (go_at_call 27; (with_reducible refine (ballot_Timeout.calls (-1) t263 _ A48.out).mono ?_); rintro e w' ⟨rfl, ⟨nd, rfl⟩⟩))
                    go_ret
                    exact ⟨by first | rfl | (simp [errW_none, errW_some] <;> rfl) | (simp [*, errW_none, errW_some] <;> rfl), by repeat (first | (with_reducible first | exact HB.out | apply below_alloc | apply pw_below_drewN | apply below_drew1) | exact HB.out)⟩
                · rw [if_neg c47] at H
                  have c47b0 : (t262 == 13) = false := beq_eq_false_iff_ne.mpr c47
                  have c47b1 : (t262 != 13) = true := bne_iff_ne.mpr c47
                  obtain rfl := Option.some.inj H
                  go_wp2_with (first | (go_at_call 25; (with_reducible refine (ballot_Majority.calls 2 3 true _ A38.out).mono ?_); rintro e w' ⟨rfl, ⟨nd, rfl⟩⟩) | (go_at_call 25; (with_reducible refine (ballot_Majority.calls 2 4 false _ A40.out).mono ?_); rintro e w' ⟨rfl, ⟨nd, rfl⟩⟩) | (go_at_call 25; (with_reducible refine (ballot_Majority.calls 0 0 false _ A42.out).mono ?_); rintro e w' ⟨rfl, ⟨nd, rfl⟩⟩) | (go_at_call 25; (with_reducible refine (ballot_Majority.calls 1 1 true _ A44.out).mono ?_); rintro e w' ⟨rfl, ⟨nd, rfl⟩⟩) | (go_at_call 27; (with_reducible refine (ballot_Timeout.calls 3 t262 _ A46.out).mono ?_); rintro e w' ⟨rfl, ⟨nd, rfl⟩⟩))
                  go_ret
                  exact ⟨by first | rfl | (simp [errW_none, errW_some] <;> rfl) | (simp [*, errW_none, errW_some] <;> rfl), by repeat (first | (with_reducible first | exact HB.out | apply below_alloc | apply pw_below_drewN | apply below_drew1) | exact HB.out)⟩
              · replace c45 := Bool.eq_false_iff.mpr c45
                subst c45
                have H1 : (some false) = some r := by rw [if_neg (show ¬ (false = true) by decide)] at H; exact H
                clear H
                have H := H1
                clear H1
                obtain rfl := Option.some.inj H
                go_wp2_with (first | (go_at_call 25; (with_reducible refine (ballot_Majority.calls 2 3 true _ A38.out).mono ?_); rintro e w' ⟨rfl, ⟨nd, rfl⟩⟩) | (go_at_call 25; (with_reducible refine (ballot_Majority.calls 2 4 false _ A40.out).mono ?_); rintro e w' ⟨rfl, ⟨nd, rfl⟩⟩) | (go_at_call 25; (with_reducible refine (ballot_Majority.calls 0 0 false _ A42.out).mono ?_); rintro e w' ⟨rfl, ⟨nd, rfl⟩⟩) | (go_at_call 25; (with_reducible refine (ballot_Majority.calls 1 1 false _ A44.out).mono ?_); rintro e w' ⟨rfl, ⟨nd, rfl⟩⟩))
                go_ret
                exact ⟨by first | rfl | (simp [errW_none, errW_some] <;> rfl) | (simp [*, errW_none, errW_some] <;> rfl), by repeat (first | (with_reducible first | exact HB.out | apply below_alloc | apply pw_below_drewN | apply below_drew1) | exact HB.out)⟩
        · replace c39 := Bool.eq_false_iff.mpr c39
          subst c39
          have H1 : (some false) = some r := by rw [if_neg (show ¬ (false = true) by decide)] at H; exact H
          clear H
          have H := H1
          clear H1
          obtain rfl := Option.some.inj H
          go_wp2_with (first | (go_at_call 25; (with_reducible refine (ballot_Majority.calls 2 3 false _ A38.out).mono ?_); rintro e w' ⟨rfl, ⟨nd, rfl⟩⟩))
          go_ret
          exact ⟨by first | rfl | (simp [errW_none, errW_some] <;> rfl) | (simp [*, errW_none, errW_some] <;> rfl), by repeat (first | (with_reducible first | exact HB.out | apply below_alloc | apply pw_below_drewN | apply below_drew1) | exact HB.out)⟩
      · replace c37 := Bool.eq_false_iff.mpr c37
        subst c37
        have H1 : (some false) = some r := by rw [if_neg (show ¬ (false = true) by decide)] at H; exact H
        clear H
        have H := H1
        clear H1
        obtain rfl := Option.some.inj H
        go_wp2
        go_ret
        exact ⟨by first | rfl | (simp [errW_none, errW_some] <;> rfl) | (simp [*, errW_none, errW_some] <;> rfl), by repeat (first | (with_reducible first | exact HB.out | apply below_alloc | apply pw_below_drewN | apply below_drew1) | exact HB.out)⟩

/-- THE ONE PURE STATEMENT of conduitlaw20_BallotNumbers: yours. -/
def conduitlaw20_BallotNumbers.Pure : Prop := ∃ k, conduitlaw20_BallotNumbers.f k  = some true
theorem conduitlaw20_BallotNumbers.walk (P : conduitlaw20_BallotNumbers.Pure)  (w : World)  :
    Calls Try.prog 9 #[] w fun e w' => e = .returned (.bool true) ∧ Below w.heap.size w w' := by
  obtain ⟨k, h⟩ := P  
  refine (conduitlaw20_BallotNumbers.calls k  true w h).mono ?_
  rintro e w' ⟨rfl, hd⟩
  exact ⟨rfl, hd⟩

/-! ### conduitref20_Newer: function 29 -/
def conduitref20_Newer.f (a0 : Int) (a1 : Int) (a2 : Int) (a3 : Int) : Option (Bool) := if a0 = a2 then (some (decide (a1 ≥ a3))) else (some (decide (a0 > a2)))
set_option maxHeartbeats 8000000 in
set_option maxRecDepth 100000 in
theorem conduitref20_Newer.calls (a0 : Int) (a1 : Int) (a2 : Int) (a3 : Int) (r : Bool) (w : World) (h : conduitref20_Newer.f a0 a1 a2 a3 = some r) :
    Calls Try.prog 29 #[.int .i64 a0, .int .i64 a1, .int .i64 a2, .int .i64 a3] w fun e w' => e = .returned (.bool r) ∧ Drawn0 w w' := by
  have H : (if a0 = a2 then (some (decide (a1 ≥ a3))) else (some (decide (a0 > a2)))) = some r := h
  clear h
  by_cases c5 : a0 = a2
  · rw [if_pos c5] at H
    have c5b0 : (a0 == a2) = true := beq_iff_eq.mpr c5
    have c5b1 : (a0 != a2) = false := bne_eq_false_iff_eq.mpr c5
    clear c5
    obtain rfl := Option.some.inj H
    go_enter Try.func29, Try.ntmps29
    go_wp2
    go_ret
    exact ⟨by first | rfl | (simp; done) | (simp [*]; done), by repeat (first | exact Drawn0.refl _ | apply Drawn0.step)⟩
  · rw [if_neg c5] at H
    have c5b0 : (a0 == a2) = false := beq_eq_false_iff_ne.mpr c5
    have c5b1 : (a0 != a2) = true := bne_iff_ne.mpr c5
    obtain rfl := Option.some.inj H
    go_enter Try.func29, Try.ntmps29
    go_wp2
    go_ret
    exact ⟨by first | rfl | (simp; done) | (simp [*]; done), by repeat (first | exact Drawn0.refl _ | apply Drawn0.step)⟩

end Go.Proofs.Ytpoladincbkgiaa.M
