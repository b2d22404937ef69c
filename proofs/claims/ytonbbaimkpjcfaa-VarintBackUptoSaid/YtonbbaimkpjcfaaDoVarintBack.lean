/- VarintBack answers true: its walk. The arguments' bulk is bounded. -/
import Derived.Test.YtonbbaimkpjcfaaEvLaw03
import Derived.Test.YtonbbaimkpjcfaaCtr
namespace Go.Proofs.Ytonbbaimkpjcfaa.Ev
open Go
set_option linter.unusedVariables false
set_option linter.unusedSimpArgs false
set_option maxRecDepth 100000
theorem sum_ones {α : Type} (l : List α) : (l.map fun _ => 1).sum = l.length := by
  induction l with
  | nil => rfl
  | cons x r ih => simp only [List.map_cons, List.sum_cons, ih, List.length_cons]; omega
theorem varintBack_does : Does gAw3 tab Try.f10 lawVarintBackU := by
  rintro ⟨p, n, q, a⟩ ⟨-, h2, -, h4, h5⟩
  obtain ⟨n, rfl, hn⟩ := wf_u64 (a := n) h2
  obtain ⟨ha1, ha2⟩ := wf_i64 (a := a) h4
  have hbulk : p.length + q.length ≤ 1048576 := by
    simp only [sum_ones] at h5
    omega
  clear h2 h4 h5
  obtain ⟨s, hs⟩ : ∃ s, IntKind.i64.wrap (n : Int) = s := ⟨_, rfl⟩
  have hsb : -9223372036854775808 ≤ s ∧ s ≤ 9223372036854775807 := by rw [← hs, IntKind.wrap_i64]; omega
  have hzl := zig_lt hsb.1 hsb.2
  have hcn := vCnt_le n hn
  have hcz := vCnt_le (zig s) hzl
  have l1 : (p ++ vE n).length = p.length + vCnt n := by rw [List.length_append, vE_length]
  have l2 : (p ++ vE n ++ vE (zig s)).length = p.length + vCnt n + vCnt (zig s) := by rw [List.length_append, l1, vE_length]
  have l3 : (p ++ vE n ++ vE (zig s) ++ q).length = p.length + vCnt n + vCnt (zig s) + q.length := by rw [List.length_append, l2]
  have g1 : vGet (p ++ vE n ++ vE (zig s) ++ q) (p.length : Nat) = ((n : Int), ((p.length + vCnt n : Nat) : Int), true) := by
    rw [List.append_assoc (p ++ vE n)]
    exact vGet_put p _ hn
  have g2 : vGet (p ++ vE n ++ vE (zig s) ++ q) ((p ++ vE n).length : Nat) = (((zig s : Nat) : Int), (((p ++ vE n).length + vCnt (zig s) : Nat) : Int), true) := vGet_put (p ++ vE n) q hzl
  obtain ⟨C, hC⟩ : ∃ C, p ++ vE n ++ vE (zig s) ++ q = C := ⟨_, rfl⟩
  have hCb : bl (p ++ vE n ++ vE (zig s)) ++ bl q = bl C := by rw [← bl_append, hC]
  have hCp : C.take p.length = p := by rw [← hC, List.append_assoc, List.append_assoc, List.take_left]
  have hCq : C.drop (p.length + vCnt n + vCnt (zig s)) = q := by rw [← hC, ← l2, List.drop_left]
  rw [hC] at l3 g1 g2
  have hCl := bl_length C
  conv => whnf
  refine ⟨(p, n), ?_⟩
  conv => whnf
  refine And.intro (by simp only [allP, List.nil_append, List.cons_append, true_and]; exact ⟨rfl, rfl, hn, by omega⟩) ?_
  conv => whnf
  rw [hs]
  refine ⟨(p ++ vE n, s), ?_⟩
  conv => whnf
  refine And.intro (by simp only [allP, List.nil_append, List.cons_append, true_and]; exact ⟨rfl, rfl, hsb.1, hsb.2, by omega⟩) ?_
  conv => whnf
  refine And.intro (by simp only [allP, List.nil_append, List.cons_append, true_and]; simp only [bl_length, l2]; omega) ?_
  conv => whnf
  rw [hCb]
  refine ⟨(C, p.length), ?_⟩
  conv => whnf
  refine And.intro (by simp only [allP, List.nil_append, List.cons_append, true_and]; rw [bl_length]; exact ⟨rfl, rfl, by omega, by omega, by omega⟩) ?_
  conv => whnf
  rw [g1]
  conv => whnf
  refine ⟨(C, (p ++ vE n).length), ?_⟩
  conv => whnf
  refine And.intro (by simp only [allP, List.nil_append, List.cons_append, true_and]; rw [bl_length]; exact ⟨rfl, rfl, by omega, by omega, by omega⟩) ?_
  conv => whnf
  rw [g2]
  conv => whnf
  have huz : unzig ((zig s : Nat) : Int) = s := unzig_zig s hsb.1 hsb.2
  rw [huz, l1]
  conv => whnf
  split <;> rename_i hb
  · exfalso; (try simp [] at hb) <;> omega
  rw [hb]
  clear hb
  conv => whnf
  split <;> rename_i hb
  · exfalso; (try simp [hs] at hb) <;> omega
  rw [hb]
  clear hb
  conv => whnf
  split <;> rename_i hb
  · exfalso; (try simp [bl_length, l1, vE_length] at hb) <;> omega
  rw [hb]
  clear hb
  conv => whnf
  refine ⟨n, ?_⟩
  conv => whnf
  refine And.intro (by simp only [allP, List.nil_append, List.cons_append, true_and]; exact ⟨rfl, hn⟩) ?_
  conv => whnf
  have hw1 : IntKind.i64.wrap (((bl p).length : Int) + (vCnt n : Nat)) = ((p.length + vCnt n : Nat) : Int) := by rw [bl_length, wrap_i64 (by omega) (by omega)]; omega
  split <;> rename_i hb
  · exfalso; (try simp [hw1] at hb) <;> omega
  rw [hb]
  clear hb
  conv => whnf
  split <;> rename_i hb
  · exfalso; (try simp [bl_length, l3] at hb) <;> omega
  rw [hb]
  clear hb
  conv => whnf
  refine And.intro (by simp only [allP, List.nil_append, List.cons_append, true_and]; rw [bl_length, bl_length]; omega) ?_
  conv => whnf
  have hs1 : cutEls (Int.toNat 0) (((bl p).length : Int).toNat - Int.toNat 0) (bl C) = bl p := by rw [bl_length, Int.toNat_natCast, cut_bl]; simp [hCp]
  refine ⟨(p, p), ?_⟩
  conv => whnf
  refine And.intro (by simp only [allP, List.nil_append, List.cons_append, true_and]; rw [hs1]; exact ⟨rfl, rfl, trivial⟩) ?_
  conv => whnf
  split <;> rename_i hb
  · exfalso; (try simp [] at hb) <;> omega
  rw [hb]
  clear hb
  conv => whnf
  refine And.intro (by simp only [allP, List.nil_append, List.cons_append, true_and]; rw [bl_length, l3]; omega) ?_
  conv => whnf
  have hs2 : cutEls (((p.length + vCnt n + vCnt (zig s) : Nat) : Int).toNat) (((bl C).length : Int).toNat - ((p.length + vCnt n + vCnt (zig s) : Nat) : Int).toNat) (bl C) = bl q := by
    rw [bl_length, Int.toNat_natCast, Int.toNat_natCast, cut_bl, hCq, List.take_of_length_le (by omega)]
  refine ⟨(q, q), ?_⟩
  conv => whnf
  refine And.intro (by simp only [allP, List.nil_append, List.cons_append, true_and]; rw [hs2]; exact ⟨rfl, rfl, trivial⟩) ?_
  conv => whnf
  split <;> rename_i hb
  · exfalso; (try simp [] at hb) <;> omega
  rw [hb]
  clear hb
  conv => whnf
  have hw2 : IntKind.i64.wrap (((bl C).length : Int) + 1) = ((C.length + 1 : Nat) : Int) := by rw [bl_length, wrap_i64 (by omega) (by omega)]; omega
  rw [hw2]
  refine ⟨(a, ((C.length + 1 : Nat) : Int)), ?_⟩
  conv => whnf
  refine And.intro (by simp only [allP, List.nil_append, List.cons_append, true_and]; exact ⟨rfl, rfl, ha1, ha2, by omega, by omega⟩) ?_
  conv => whnf
  have hpk := pickV_bd (x := a) (n := ((C.length + 1 : Nat) : Int)) (by omega)
  obtain ⟨t, ht⟩ : ∃ t, pickV a ((C.length + 1 : Nat) : Int) = t := ⟨_, rfl⟩
  rw [ht] at hpk ⊢
  clear ht
  refine ⟨(C, t), ?_⟩
  conv => whnf
  refine And.intro (by simp only [allP, List.nil_append, List.cons_append, true_and]; exact ⟨rfl, rfl, by omega, by omega, by omega⟩) ?_
  conv => whnf
  rcases vGet_form C t with hg | ⟨v, hv, ht0, ht1, hg, htk⟩ <;> rw [hg]
  · conv => whnf
    refine ⟨(), ?_⟩
    conv => whnf
    refine And.intro (by simp only [allP, List.nil_append, List.cons_append, true_and]; done) ?_
    conv => whnf
    rfl
  · conv => whnf
    refine ⟨([], v), ?_⟩
    conv => whnf
    refine And.intro (by simp only [allP, List.nil_append, List.cons_append, true_and]; exact ⟨rfl, rfl, hv, by simp⟩) ?_
    conv => whnf
    refine And.intro (by simp only [allP, List.nil_append, List.cons_append, true_and]; rw [bl_length]; omega) ?_
    conv => whnf
    have hs3 : cutEls t.toNat ((t + (vCnt v : Nat)).toNat - t.toNat) (bl C) = bl (vE v) := by
      rw [cut_bl, show (t + (vCnt v : Nat)).toNat - t.toNat = vCnt v by omega, htk]
    refine ⟨(vE v, vE v), ?_⟩
    conv => whnf
    refine And.intro (by simp only [allP, List.nil_append, List.cons_append, true_and]; rw [hs3]; exact ⟨rfl, rfl, trivial⟩) ?_
    conv => whnf
    rw [decide_eq_true rfl]
    conv => whnf
    refine ⟨(), ?_⟩
    conv => whnf
    refine And.intro (by simp only [allP, List.nil_append, List.cons_append, true_and]; done) ?_
    conv => whnf
    refine ⟨by rfl, ?_⟩
    rfl
theorem VarintBack_sound : Sound Try.prog 10 lawVarintBackU := does_sound mixed tabOk_prog gAw3_ok Try.func10 varintBack_does
end Go.Proofs.Ytonbbaimkpjcfaa.Ev
