/- OctetsTells answers true: its walk. No conditions. -/
import Derived.Test.YtonbbaimkpjcfaaEvRef01
import Derived.Test.YtonbbaimkpjcfaaDoOctetsNumbers
namespace Go.Proofs.Ytonbbaimkpjcfaa.Ev
open Go
set_option linter.unusedVariables false
set_option linter.unusedSimpArgs false
set_option maxRecDepth 100000
def gOT : List (FuncId × Ctr) := gAw ++ gRef01
theorem gOT_ok : GamOk Try.prog gOT := GamOk.app gAw_ok gRef01_ok
theorem octetsTells_does : Does gOT tab Try.f6 lawOctetsTells := by
  rintro ⟨b, s, a, v⟩ ⟨h1, h2, h3, h4⟩
  have hb1 : b.length ≤ 140737488351232 := by have := h1.1; simp only at this; omega
  have hs1 : s.size ≤ 140737488351232 := h2
  obtain ⟨ha1, ha2⟩ := wf_i64 (a := a) h3
  obtain ⟨v, rfl, hv⟩ := wf_u64 (a := v) h4
  clear h1 h2 h3 h4
  have hc : cutEls 0 b.length (bl (b ++ [77, 78, 79])) = bl b := by simp [cutEls, bl_take]
  have hlen := bl_length b
  conv => whnf
  refine ⟨b, ?_⟩
  conv => whnf
  refine And.intro (by simp only [allP, List.nil_append, List.cons_append, true_and]; exact ⟨rfl, by show b.length ≤ _; omega⟩) ?_
  conv => whnf
  refine ⟨(b, a), ?_⟩
  conv => whnf
  refine And.intro (by simp only [allP, List.nil_append, List.cons_append, true_and]; rw [hc]; exact ⟨rfl, rfl, by omega, by omega, by omega⟩) ?_
  conv => whnf
  refine ⟨(b, a), ?_⟩
  conv => whnf
  refine And.intro (by simp only [allP, List.nil_append, List.cons_append, true_and]; rw [hc]; exact ⟨rfl, rfl, by omega, by omega, by omega⟩) ?_
  conv => whnf
  refine ⟨(b, a), ?_⟩
  conv => whnf
  refine And.intro (by simp only [allP, List.nil_append, List.cons_append, true_and]; rw [hc]; exact ⟨rfl, rfl, by omega, by omega, by omega⟩) ?_
  conv => whnf
  refine ⟨(b, a), ?_⟩
  conv => whnf
  refine And.intro (by simp only [allP, List.nil_append, List.cons_append, true_and]; rw [hc]; exact ⟨rfl, rfl, by omega, by omega, by omega⟩) ?_
  conv => whnf
  refine ⟨(b, a, 1), ?_⟩
  conv => whnf
  refine And.intro (by simp only [allP, List.nil_append, List.cons_append, true_and]; exact ⟨rfl, rfl, rfl, by omega, by omega, by omega, by omega⟩) ?_
  conv => whnf
  refine ⟨(b, a, 2), ?_⟩
  conv => whnf
  refine And.intro (by simp only [allP, List.nil_append, List.cons_append, true_and]; exact ⟨rfl, rfl, rfl, by omega, by omega, by omega, by omega⟩) ?_
  conv => whnf
  refine ⟨(b, a, 4), ?_⟩
  conv => whnf
  refine And.intro (by simp only [allP, List.nil_append, List.cons_append, true_and]; exact ⟨rfl, rfl, rfl, by omega, by omega, by omega, by omega⟩) ?_
  conv => whnf
  refine ⟨(b, a, 8), ?_⟩
  conv => whnf
  refine And.intro (by simp only [allP, List.nil_append, List.cons_append, true_and]; exact ⟨rfl, rfl, rfl, by omega, by omega, by omega, by omega⟩) ?_
  conv => whnf
  have n1 := numV_lt b a 1
  have n2 := numV_lt b a 2
  have n4 := numV_lt b a 4
  have w1 : IntKind.u64.wrap (numV b a 1).1 = (numV b a 1).1 := wrap_u64 (by omega) (by omega)
  have w2 : IntKind.u64.wrap (numV b a 2).1 = (numV b a 2).1 := wrap_u64 (by omega) (by omega)
  have w4 : IntKind.u64.wrap (numV b a 4).1 = (numV b a 4).1 := wrap_u64 (by omega) (by omega)
  split <;> rename_i hb
  · exfalso; simp [w1] at hb
  rw [hb]
  clear hb
  conv => whnf
  split <;> rename_i hb
  · exfalso; simp [] at hb
  rw [hb]
  clear hb
  conv => whnf
  split <;> rename_i hb
  · exfalso; simp [w2] at hb
  rw [hb]
  clear hb
  conv => whnf
  split <;> rename_i hb
  · exfalso; simp [] at hb
  rw [hb]
  clear hb
  conv => whnf
  split <;> rename_i hb
  · exfalso; simp [w4] at hb
  rw [hb]
  clear hb
  conv => whnf
  split <;> rename_i hb
  · exfalso; simp [] at hb
  rw [hb]
  clear hb
  conv => whnf
  split <;> rename_i hb
  · exfalso; simp [] at hb
  rw [hb]
  clear hb
  conv => whnf
  split <;> rename_i hb
  · exfalso; simp [] at hb
  rw [hb]
  clear hb
  conv => whnf
  have e1 : IntKind.u8.wrap (v : Int) = ((v % 256 : Nat) : Int) := by rw [IntKind.wrap_u8]; rfl
  have e2 : IntKind.u16.wrap (v : Int) = ((v % 65536 : Nat) : Int) := by rw [IntKind.wrap_u16]; rfl
  have e4 : IntKind.u32.wrap (v : Int) = ((v % 4294967296 : Nat) : Int) := by rw [IntKind.wrap_u32]; rfl
  have m1 : (v : Int).tmod 256 = ((v % 256 : Nat) : Int) := tmod_nat v 256
  have m2 : (v : Int).tmod 65536 = ((v % 65536 : Nat) : Int) := tmod_nat v 65536
  have m4 : (v : Int).tmod 4294967296 = ((v % 4294967296 : Nat) : Int) := tmod_nat v 4294967296
  refine ⟨(b, v % 256), ?_⟩
  conv => whnf
  refine And.intro (by simp only [allP, List.nil_append, List.cons_append, true_and]; rw [hc]; exact ⟨rfl, congrArg _ e1.symm, by omega, by omega⟩) ?_
  conv => whnf
  refine And.intro (by simp only [allP, List.nil_append, List.cons_append, true_and]; decide) ?_
  conv => whnf
  refine ⟨(b, v % 256, 1), ?_⟩
  conv => whnf
  refine And.intro (by simp only [allP, List.nil_append, List.cons_append, true_and]; exact ⟨rfl, congrArg _ m1.symm, rfl, by omega, by omega, by omega⟩) ?_
  conv => whnf
  refine ⟨(b ++ beB 1 (v % 256), b ++ beB 1 (v % 256)), ?_⟩
  conv => whnf
  refine And.intro (by simp only [allP, List.nil_append, List.cons_append, true_and]; exact ⟨rfl, rfl, trivial⟩) ?_
  conv => whnf
  split <;> rename_i hb
  · exfalso; simp [] at hb
  rw [hb]
  clear hb
  conv => whnf
  refine ⟨(b, v % 65536), ?_⟩
  conv => whnf
  refine And.intro (by simp only [allP, List.nil_append, List.cons_append, true_and]; rw [hc]; exact ⟨rfl, congrArg _ e2.symm, by omega, by omega⟩) ?_
  conv => whnf
  refine And.intro (by simp only [allP, List.nil_append, List.cons_append, true_and]; decide) ?_
  conv => whnf
  refine ⟨(b, v % 65536, 2), ?_⟩
  conv => whnf
  refine And.intro (by simp only [allP, List.nil_append, List.cons_append, true_and]; exact ⟨rfl, congrArg _ m2.symm, rfl, by omega, by omega, by omega⟩) ?_
  conv => whnf
  refine ⟨(b ++ beB 2 (v % 65536), b ++ beB 2 (v % 65536)), ?_⟩
  conv => whnf
  refine And.intro (by simp only [allP, List.nil_append, List.cons_append, true_and]; exact ⟨rfl, rfl, trivial⟩) ?_
  conv => whnf
  split <;> rename_i hb
  · exfalso; simp [] at hb
  rw [hb]
  clear hb
  conv => whnf
  refine ⟨(b, v % 4294967296), ?_⟩
  conv => whnf
  refine And.intro (by simp only [allP, List.nil_append, List.cons_append, true_and]; rw [hc]; exact ⟨rfl, congrArg _ e4.symm, by omega, by omega⟩) ?_
  conv => whnf
  refine And.intro (by simp only [allP, List.nil_append, List.cons_append, true_and]; decide) ?_
  conv => whnf
  refine ⟨(b, v % 4294967296, 4), ?_⟩
  conv => whnf
  refine And.intro (by simp only [allP, List.nil_append, List.cons_append, true_and]; exact ⟨rfl, congrArg _ m4.symm, rfl, by omega, by omega, by omega⟩) ?_
  conv => whnf
  refine ⟨(b ++ beB 4 (v % 4294967296), b ++ beB 4 (v % 4294967296)), ?_⟩
  conv => whnf
  refine And.intro (by simp only [allP, List.nil_append, List.cons_append, true_and]; exact ⟨rfl, rfl, trivial⟩) ?_
  conv => whnf
  split <;> rename_i hb
  · exfalso; simp [] at hb
  rw [hb]
  clear hb
  conv => whnf
  refine ⟨(b, v), ?_⟩
  conv => whnf
  refine And.intro (by simp only [allP, List.nil_append, List.cons_append, true_and]; rw [hc]; exact ⟨rfl, rfl, by omega, by omega⟩) ?_
  conv => whnf
  refine ⟨(b, v, 8), ?_⟩
  conv => whnf
  refine And.intro (by simp only [allP, List.nil_append, List.cons_append, true_and]; exact ⟨rfl, rfl, rfl, by omega, by omega, by omega⟩) ?_
  conv => whnf
  refine ⟨(b ++ beB 8 (v), b ++ beB 8 (v)), ?_⟩
  conv => whnf
  refine And.intro (by simp only [allP, List.nil_append, List.cons_append, true_and]; exact ⟨rfl, rfl, trivial⟩) ?_
  conv => whnf
  split <;> rename_i hb
  · exfalso; simp [] at hb
  rw [hb]
  clear hb
  conv => whnf
  cases hd : decide (65535 < s.size)
  · refine ⟨(false, b, s), ?_⟩
    conv => whnf
    refine And.intro (by simp only [allP, List.nil_append, List.cons_append, true_and]; rw [hc]; exact ⟨rfl, rfl, hd.symm, by show b.length ≤ _; omega⟩) ?_
    conv => whnf
    refine ⟨(false, b, s), ?_⟩
    conv => whnf
    refine And.intro (by simp only [allP, List.nil_append, List.cons_append, true_and]; exact ⟨rfl, rfl, hd.symm, by show b.length ≤ _; omega⟩) ?_
    conv => whnf
    refine ⟨(b, a), ?_⟩
    conv => whnf
    refine And.intro (by simp only [allP, List.nil_append, List.cons_append, true_and]; rw [hc]; exact ⟨rfl, rfl, by omega, by omega, by omega⟩) ?_
    conv => whnf
    refine ⟨(b, a), ?_⟩
    conv => whnf
    refine And.intro (by simp only [allP, List.nil_append, List.cons_append, true_and]; exact ⟨rfl, rfl, by omega, by omega, by omega⟩) ?_
    conv => whnf
    refine ⟨(b ++ beB 2 s.size ++ s.data.toList, b ++ beB 2 s.size ++ s.data.toList), ?_⟩
    conv => whnf
    refine And.intro (by simp only [allP, List.nil_append, List.cons_append, true_and]; exact ⟨rfl, rfl, trivial⟩) ?_
    conv => whnf
    split <;> rename_i hb
    rotate_left
    · exfalso; simp [] at hb
    rw [hb]
    clear hb
    conv => whnf
    split <;> rename_i hb
    rotate_left
    · exfalso; simp [] at hb
    rw [hb]
    clear hb
    conv => whnf
    split <;> rename_i hb
    rotate_left
    · exfalso; simp [] at hb
    rw [hb]
    clear hb
    conv => whnf
    split <;> rename_i hb
    rotate_left
    · exfalso; simp [] at hb
    rw [hb]
    clear hb
    conv => whnf
    refine ⟨b, ?_⟩
    conv => whnf
    refine And.intro (by simp only [allP, List.nil_append, List.cons_append, true_and]; simp [pvle]; omega) ?_
    conv => whnf
    refine ⟨(), ?_⟩
    conv => whnf
    refine And.intro (by simp only [allP, List.nil_append, List.cons_append, true_and]; done) ?_
    conv => whnf
    rfl
  · refine ⟨(true, b, s), ?_⟩
    conv => whnf
    refine And.intro (by simp only [allP, List.nil_append, List.cons_append, true_and]; rw [hc]; exact ⟨rfl, rfl, hd.symm, by show b.length ≤ _; omega⟩) ?_
    conv => whnf
    refine ⟨(true, b, s), ?_⟩
    conv => whnf
    refine And.intro (by simp only [allP, List.nil_append, List.cons_append, true_and]; exact ⟨rfl, rfl, hd.symm, by show b.length ≤ _; omega⟩) ?_
    conv => whnf
    refine ⟨(b, a), ?_⟩
    conv => whnf
    refine And.intro (by simp only [allP, List.nil_append, List.cons_append, true_and]; rw [hc]; exact ⟨rfl, rfl, by omega, by omega, by omega⟩) ?_
    conv => whnf
    refine ⟨(b, a), ?_⟩
    conv => whnf
    refine And.intro (by simp only [allP, List.nil_append, List.cons_append, true_and]; exact ⟨rfl, rfl, by omega, by omega, by omega⟩) ?_
    conv => whnf
    refine ⟨([], []), ?_⟩
    conv => whnf
    refine And.intro (by simp only [allP, List.nil_append, List.cons_append, true_and]; exact ⟨rfl, rfl, trivial⟩) ?_
    conv => whnf
    split <;> rename_i hb
    rotate_left
    · exfalso; simp [] at hb
    rw [hb]
    clear hb
    conv => whnf
    split <;> rename_i hb
    rotate_left
    · exfalso; simp [] at hb
    rw [hb]
    clear hb
    conv => whnf
    split <;> rename_i hb
    rotate_left
    · exfalso; simp [] at hb
    rw [hb]
    clear hb
    conv => whnf
    split <;> rename_i hb
    rotate_left
    · exfalso; simp [] at hb
    rw [hb]
    clear hb
    conv => whnf
    refine ⟨b, ?_⟩
    conv => whnf
    refine And.intro (by simp only [allP, List.nil_append, List.cons_append, true_and]; simp [pvle]; omega) ?_
    conv => whnf
    refine ⟨(), ?_⟩
    conv => whnf
    refine And.intro (by simp only [allP, List.nil_append, List.cons_append, true_and]; done) ?_
    conv => whnf
    rfl
theorem OctetsTells_sound : Sound Try.prog 6 lawOctetsTells := does_sound mixed tabOk_prog gOT_ok Try.func6 octetsTells_does
end Go.Proofs.Ytonbbaimkpjcfaa.Ev
