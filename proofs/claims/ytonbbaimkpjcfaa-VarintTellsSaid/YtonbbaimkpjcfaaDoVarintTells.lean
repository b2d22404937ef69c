/- VarintTells answers true: its walk. No conditions. -/
import Derived.Test.YtonbbaimkpjcfaaEvLaw03
import Derived.Test.YtonbbaimkpjcfaaEvVarR
import Derived.Test.YtonbbaimkpjcfaaEvTree
import Derived.Test.YtonbbaimkpjcfaaCtr
namespace Go.Proofs.Ytonbbaimkpjcfaa.Ev
open Go
set_option linter.unusedVariables false
set_option linter.unusedSimpArgs false
set_option maxRecDepth 100000
set_option maxHeartbeats 4000000
def gVT0 : List (FuncId × Ctr) := gAw3 ++ gRef03
theorem gVT0_ok : GamOk Try.prog gVT0 := GamOk.app gAw3_ok gRef03_ok
def gVT : List (FuncId × Ctr) := (42, Apart.cApart) :: gVT0
theorem gVT_ok : GamOk Try.prog gVT := apart_gam gVT0_ok
theorem varintTells_does : Does gVT tabT Try.f9 lawVarintTells := by
  rintro ⟨b, a, n⟩ ⟨h1, h2, h3⟩
  have hb1 : b.length ≤ 140737488351232 := by have := h1.1; simp only at this; omega
  obtain ⟨ha1, ha2⟩ := wf_i64 (a := a) h2
  obtain ⟨n, rfl, hn⟩ := wf_u64 (a := n) h3
  clear h1 h2 h3
  have hc : cutEls 0 b.length (bl (b ++ [77, 78, 79])) = bl b := by simp [cutEls, bl_take]
  have hlen := bl_length b
  have hc2 : List.take b.length (bl (b ++ [77, 78, 79])) = bl b := by simp [bl_take]
  obtain ⟨s, hs⟩ : ∃ s, IntKind.i64.wrap (n : Int) = s := ⟨_, rfl⟩
  have hsb : -9223372036854775808 ≤ s ∧ s ≤ 9223372036854775807 := by rw [← hs, IntKind.wrap_i64]; omega
  have hzl := zig_lt hsb.1 hsb.2
  have hcn := vCnt_le n hn
  have hcz := vCnt_le (zig s) hzl
  have hall : ∀ l ∈ [bl (b ++ vE n), bl (b ++ vE (zig s)), bl b], l.length ≤ 140737488355000 := by
    intro l hl
    simp only [List.mem_cons, List.not_mem_nil, or_false] at hl
    rcases hl with rfl | rfl | rfl <;> simp only [bl_length, List.length_append, vE_length] <;> omega
  conv => whnf
  refine ⟨b, ?_⟩
  conv => whnf
  refine And.intro (by simp only [allP, List.nil_append, List.cons_append, true_and]; exact ⟨rfl, by show b.length ≤ _; omega⟩) ?_
  conv => whnf
  refine ⟨(b, a), ?_⟩
  conv => whnf
  refine And.intro (by simp only [allP, List.nil_append, List.cons_append, true_and]; rw [hc]; exact ⟨rfl, rfl, by omega, by omega, by omega⟩) ?_
  conv => whnf
  refine ⟨(b, a), ?_⟩
  conv => whnf
  refine And.intro (by simp only [allP, List.nil_append, List.cons_append, true_and]; exact ⟨rfl, rfl, by omega, by omega, by omega⟩) ?_
  conv => whnf
  refine ⟨(b, a), ?_⟩
  conv => whnf
  refine And.intro (by simp only [allP, List.nil_append, List.cons_append, true_and]; rw [hc]; exact ⟨rfl, rfl, by omega, by omega, by omega⟩) ?_
  conv => whnf
  refine ⟨(b, a), ?_⟩
  conv => whnf
  refine And.intro (by simp only [allP, List.nil_append, List.cons_append, true_and]; exact ⟨rfl, rfl, by omega, by omega, by omega⟩) ?_
  conv => whnf
  split <;> rename_i hb
  · exfalso; (try simp [] at hb) <;> omega
  rw [hb]
  clear hb
  conv => whnf
  split <;> rename_i hb
  · exfalso; (try simp [] at hb) <;> omega
  rw [hb]
  clear hb
  conv => whnf
  split <;> rename_i hb
  · exfalso; (try simp [] at hb) <;> omega
  rw [hb]
  clear hb
  conv => whnf
  split <;> rename_i hb
  · exfalso; (try simp [] at hb) <;> omega
  rw [hb]
  clear hb
  conv => whnf
  split <;> rename_i hb
  · exfalso; (try simp [] at hb) <;> omega
  rw [hb]
  clear hb
  conv => whnf
  split <;> rename_i hb
  · exfalso; (try simp [] at hb) <;> omega
  rw [hb]
  clear hb
  conv => whnf
  refine ⟨(b, n), ?_⟩
  conv => whnf
  refine And.intro (by simp only [allP, List.nil_append, List.cons_append, true_and]; rw [hc]; exact ⟨rfl, rfl, hn, by omega⟩) ?_
  conv => whnf
  rw [hs]
  refine ⟨(b, s), ?_⟩
  conv => whnf
  refine And.intro (by simp only [allP, List.nil_append, List.cons_append, true_and]; rw [hc]; exact ⟨rfl, rfl, hsb.1, hsb.2, by omega⟩) ?_
  conv => whnf
  refine ⟨(b, n), ?_⟩
  conv => whnf
  refine And.intro (by simp only [allP, List.nil_append, List.cons_append, true_and]; exact ⟨rfl, rfl, hn, by omega⟩) ?_
  conv => whnf
  refine ⟨(b ++ vE n, b ++ vE n), ?_⟩
  conv => whnf
  refine And.intro (by simp only [allP, List.nil_append, List.cons_append, true_and]; exact ⟨rfl, rfl, trivial⟩) ?_
  conv => whnf
  split <;> rename_i hb
  rotate_left
  · exfalso; (try simp [] at hb) <;> omega
  rw [hb]
  clear hb
  conv => whnf
  rw [hs]
  refine ⟨(b, s), ?_⟩
  conv => whnf
  refine And.intro (by simp only [allP, List.nil_append, List.cons_append, true_and]; exact ⟨rfl, rfl, hsb.1, hsb.2, by omega⟩) ?_
  conv => whnf
  refine ⟨(b ++ vE (zig s), b ++ vE (zig s)), ?_⟩
  conv => whnf
  refine And.intro (by simp only [allP, List.nil_append, List.cons_append, true_and]; exact ⟨rfl, rfl, trivial⟩) ?_
  conv => whnf
  split <;> rename_i hb
  rotate_left
  · exfalso; (try simp [] at hb) <;> omega
  rw [hb]
  clear hb
  conv => whnf
  refine ⟨n, ?_⟩
  conv => whnf
  refine And.intro (by simp only [allP, List.nil_append, List.cons_append, true_and]; exact ⟨rfl, hn⟩) ?_
  conv => whnf
  refine ⟨n, ?_⟩
  conv => whnf
  refine And.intro (by simp only [allP, List.nil_append, List.cons_append, true_and]; exact ⟨rfl, hn⟩) ?_
  conv => whnf
  split <;> rename_i hb
  rotate_left
  · exfalso; (try simp [bl_length, vE_length] at hb) <;> omega
  rw [hb]
  clear hb
  conv => whnf
  refine ⟨b, ?_⟩
  conv => whnf
  refine And.intro (by simp only [allP, List.nil_append, List.cons_append, true_and]; simp [pvle]; omega) ?_
  conv => whnf
  refine And.intro (by simp only [allP, List.nil_append, List.cons_append, true_and]; exact ⟨bl_isFlat _, bl_isFlat _, bl_isFlat _⟩) ?_
  conv => whnf
  refine ⟨[bl (b ++ vE n), bl (b ++ vE (zig s)), bl b], ?_⟩
  conv => whnf
  refine And.intro (by simp only [allP, List.nil_append, List.cons_append, true_and]; exact ⟨by rw [hc2]; rfl, show 0 < 3 from by decide, show 3 ≤ 1000000 from by decide, hall⟩) ?_
  conv => whnf
  refine ⟨(), ?_⟩
  conv => whnf
  refine And.intro (by simp only [allP, List.nil_append, List.cons_append, true_and]; done) ?_
  conv => whnf
  rfl
theorem VarintTells_sound : Sound Try.prog 9 lawVarintTells := does_sound mixed tabOk_T gVT_ok Try.func9 varintTells_does
end Go.Proofs.Ytonbbaimkpjcfaa.Ev
