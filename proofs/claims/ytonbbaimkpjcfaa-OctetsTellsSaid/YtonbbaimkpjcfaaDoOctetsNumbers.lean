/- OctetsNumbers answers true: its walk. No conditions. -/
import Derived.Test.YtonbbaimkpjcfaaEvOctets
import Derived.Test.YtonbbaimkpjcfaaEvLow
import Derived.Test.YtonbbaimkpjcfaaCtr
namespace Go.Proofs.Ytonbbaimkpjcfaa.Ev
open Go
set_option linter.unusedVariables false
set_option linter.unusedSimpArgs false
set_option maxRecDepth 100000
abbrev cAwake : Ctr := ⟨Unit, 0, fun _ => [], fun _ => [], fun _ => True, fun _ => isB true, fun _ => []⟩
theorem cut_zeros (n : Nat) (e : PV) (he : e = .int .u8 0) : cutEls 0 n (List.replicate n e) = bl (List.replicate n 0) := by
  subst he
  simp [cutEls, bl, bv]
theorem cut_zerosI (n : Int) (e : PV) (he : e = .int .u8 0) : cutEls 0 n.toNat (List.replicate n.toNat e) = bl (List.replicate n.toNat 0) := cut_zeros _ e he
def gOL : List (FuncId × Ctr) := gOct ++ gLow
theorem gOL_ok : GamOk Try.prog gOL := GamOk.app gOct_ok gLow_ok
theorem awake01_does : Does gOL tab Try.f12 cAwake := by
  rintro x -
  conv => whnf
  refine ⟨([128, 0, 0, 1], 0), ?_⟩
  conv => whnf
  refine And.intro (by simp only [allP, List.nil_append, List.cons_append, true_and]; exact ⟨rfl, rfl, by decide⟩) ?_
  conv => whnf
  refine ⟨(false, [], ⟨#[5, 6]⟩), ?_⟩
  conv => whnf
  refine And.intro (by simp only [allP, List.nil_append, List.cons_append, true_and]; exact ⟨rfl, rfl, rfl, by decide⟩) ?_
  conv => whnf
  refine ⟨([0, 2, 5, 6], [0, 2, 5, 6]), ?_⟩
  conv => whnf
  refine And.intro (by simp only [allP, List.nil_append, List.cons_append, true_and]; exact ⟨rfl, rfl, trivial⟩) ?_
  conv => whnf
  refine ⟨([9], 258), ?_⟩
  conv => whnf
  refine And.intro (by simp only [allP, List.nil_append, List.cons_append, true_and]; exact ⟨rfl, rfl, by decide⟩) ?_
  conv => whnf
  refine ⟨([9, 0, 0, 1, 2], [9, 0, 0, 1, 2]), ?_⟩
  conv => whnf
  refine And.intro (by simp only [allP, List.nil_append, List.cons_append, true_and]; exact ⟨rfl, rfl, trivial⟩) ?_
  conv => whnf
  rfl
theorem awake01_sound : Sound Try.prog 12 cAwake := does_sound mixed tabOk_prog gOL_ok Try.func12 awake01_does
def gAw : List (FuncId × Ctr) := (12, cAwake) :: gOL
theorem gAw_ok : GamOk Try.prog gAw := GamOk.cons gOL_ok Try.func12 (by kernel_rfl) (by kernel_rfl) awake01_sound
theorem octetsNumbers_does : Does gAw tab Try.f4 lawOctetsNumbers := by
  rintro x -
  conv => whnf
  refine ⟨([1, 2], 0), ?_⟩
  conv => whnf
  refine And.intro (by simp only [allP, List.nil_append, List.cons_append, true_and]; exact ⟨rfl, rfl, by decide⟩) ?_
  conv => whnf
  refine And.intro (by simp only [allP, List.nil_append, List.cons_append, true_and]; decide) ?_
  conv => whnf
  refine ⟨(List.replicate 7 0, 0), ?_⟩
  conv => whnf
  refine And.intro (by simp only [allP, List.nil_append, List.cons_append, true_and]; exact ⟨rfl, rfl, by decide⟩) ?_
  conv => whnf
  refine ⟨([128, 0, 0, 0, 0, 0, 0, 1], 0), ?_⟩
  conv => whnf
  refine And.intro (by simp only [allP, List.nil_append, List.cons_append, true_and]; exact ⟨rfl, rfl, by decide⟩) ?_
  conv => whnf
  refine ⟨([5], 0), ?_⟩
  conv => whnf
  refine And.intro (by simp only [allP, List.nil_append, List.cons_append, true_and]; exact ⟨rfl, rfl, by decide⟩) ?_
  conv => whnf
  refine ⟨{i : Nat // i ≤ 5}, fun i => ⟨[(76, .rowf 0), (77, isI .i64 5), (78, isI .i64 i.1)], [(0, .row 3 1 true false [.int .i64 1, .int .i64 (-1), .int .i64 2, .int .i64 9223372036854775807, .int .i64 (-9223372036854775808)])], 99⟩, fun i => 5 - i.1, ⟨⟨0, by omega⟩, ?_⟩, ?_⟩
  · conv => whnf
    simp only [allP, pvle, Int.natCast_zero, and_self, and_true, true_and]
    trivial
  · rintro ⟨i, hi⟩
    obtain rfl | rfl | rfl | rfl | rfl | rfl : i = 0 ∨ i = 1 ∨ i = 2 ∨ i = 3 ∨ i = 4 ∨ i = 5 := by omega
    · conv => whnf
      refine And.intro (by simp only [allP, List.nil_append, List.cons_append, true_and]; decide) ?_
      conv => whnf
      refine And.intro (by simp only [allP, List.nil_append, List.cons_append, true_and]; rfl) ?_
      conv => whnf
      refine ⟨([1, 2], 1), ?_⟩
      conv => whnf
      refine And.intro (by simp only [allP, List.nil_append, List.cons_append, true_and]; exact ⟨rfl, rfl, by decide⟩) ?_
      conv => whnf
      refine ⟨([1, 2], 1), ?_⟩
      conv => whnf
      refine And.intro (by simp only [allP, List.nil_append, List.cons_append, true_and]; exact ⟨rfl, rfl, by decide⟩) ?_
      conv => whnf
      refine ⟨([1, 2], 1), ?_⟩
      conv => whnf
      refine And.intro (by simp only [allP, List.nil_append, List.cons_append, true_and]; exact ⟨rfl, rfl, by decide⟩) ?_
      conv => whnf
      refine ⟨⟨1, by omega⟩, by simp only; omega, ?_⟩
      conv => whnf
      simp only [allP, pvle, and_self, true_and, and_true]
      trivial
    · conv => whnf
      refine And.intro (by simp only [allP, List.nil_append, List.cons_append, true_and]; decide) ?_
      conv => whnf
      refine And.intro (by simp only [allP, List.nil_append, List.cons_append, true_and]; rfl) ?_
      conv => whnf
      refine ⟨([1, 2], -1), ?_⟩
      conv => whnf
      refine And.intro (by simp only [allP, List.nil_append, List.cons_append, true_and]; exact ⟨rfl, rfl, by decide⟩) ?_
      conv => whnf
      refine ⟨([1, 2], -1), ?_⟩
      conv => whnf
      refine And.intro (by simp only [allP, List.nil_append, List.cons_append, true_and]; exact ⟨rfl, rfl, by decide⟩) ?_
      conv => whnf
      refine ⟨([1, 2], -1), ?_⟩
      conv => whnf
      refine And.intro (by simp only [allP, List.nil_append, List.cons_append, true_and]; exact ⟨rfl, rfl, by decide⟩) ?_
      conv => whnf
      refine ⟨⟨2, by omega⟩, by simp only; omega, ?_⟩
      conv => whnf
      simp only [allP, pvle, and_self, true_and, and_true]
      trivial
    · conv => whnf
      refine And.intro (by simp only [allP, List.nil_append, List.cons_append, true_and]; decide) ?_
      conv => whnf
      refine And.intro (by simp only [allP, List.nil_append, List.cons_append, true_and]; rfl) ?_
      conv => whnf
      refine ⟨([1, 2], 2), ?_⟩
      conv => whnf
      refine And.intro (by simp only [allP, List.nil_append, List.cons_append, true_and]; exact ⟨rfl, rfl, by decide⟩) ?_
      conv => whnf
      refine ⟨([1, 2], 2), ?_⟩
      conv => whnf
      refine And.intro (by simp only [allP, List.nil_append, List.cons_append, true_and]; exact ⟨rfl, rfl, by decide⟩) ?_
      conv => whnf
      refine ⟨([1, 2], 2), ?_⟩
      conv => whnf
      refine And.intro (by simp only [allP, List.nil_append, List.cons_append, true_and]; exact ⟨rfl, rfl, by decide⟩) ?_
      conv => whnf
      refine ⟨⟨3, by omega⟩, by simp only; omega, ?_⟩
      conv => whnf
      simp only [allP, pvle, and_self, true_and, and_true]
      trivial
    · conv => whnf
      refine And.intro (by simp only [allP, List.nil_append, List.cons_append, true_and]; decide) ?_
      conv => whnf
      refine And.intro (by simp only [allP, List.nil_append, List.cons_append, true_and]; rfl) ?_
      conv => whnf
      refine ⟨([1, 2], 9223372036854775807), ?_⟩
      conv => whnf
      refine And.intro (by simp only [allP, List.nil_append, List.cons_append, true_and]; exact ⟨rfl, rfl, by decide⟩) ?_
      conv => whnf
      refine ⟨([1, 2], 9223372036854775807), ?_⟩
      conv => whnf
      refine And.intro (by simp only [allP, List.nil_append, List.cons_append, true_and]; exact ⟨rfl, rfl, by decide⟩) ?_
      conv => whnf
      refine ⟨([1, 2], 9223372036854775807), ?_⟩
      conv => whnf
      refine And.intro (by simp only [allP, List.nil_append, List.cons_append, true_and]; exact ⟨rfl, rfl, by decide⟩) ?_
      conv => whnf
      refine ⟨⟨4, by omega⟩, by simp only; omega, ?_⟩
      conv => whnf
      simp only [allP, pvle, and_self, true_and, and_true]
      trivial
    · conv => whnf
      refine And.intro (by simp only [allP, List.nil_append, List.cons_append, true_and]; decide) ?_
      conv => whnf
      refine And.intro (by simp only [allP, List.nil_append, List.cons_append, true_and]; rfl) ?_
      conv => whnf
      refine ⟨([1, 2], -9223372036854775808), ?_⟩
      conv => whnf
      refine And.intro (by simp only [allP, List.nil_append, List.cons_append, true_and]; exact ⟨rfl, rfl, by decide⟩) ?_
      conv => whnf
      refine ⟨([1, 2], -9223372036854775808), ?_⟩
      conv => whnf
      refine And.intro (by simp only [allP, List.nil_append, List.cons_append, true_and]; exact ⟨rfl, rfl, by decide⟩) ?_
      conv => whnf
      refine ⟨([1, 2], -9223372036854775808), ?_⟩
      conv => whnf
      refine And.intro (by simp only [allP, List.nil_append, List.cons_append, true_and]; exact ⟨rfl, rfl, by decide⟩) ?_
      conv => whnf
      refine ⟨⟨5, by omega⟩, by simp only; omega, ?_⟩
      conv => whnf
      simp only [allP, pvle, and_self, true_and, and_true]
      trivial
    · conv => whnf
      refine ⟨([0, 2, 5, 6], 0), ?_⟩
      conv => whnf
      refine And.intro (by simp only [allP, List.nil_append, List.cons_append, true_and]; exact ⟨rfl, rfl, by decide⟩) ?_
      conv => whnf
      refine ⟨([0, 2, 5, 6], 1), ?_⟩
      conv => whnf
      refine And.intro (by simp only [allP, List.nil_append, List.cons_append, true_and]; exact ⟨rfl, rfl, by decide⟩) ?_
      conv => whnf
      refine ⟨([0, 3, 5, 6], 0), ?_⟩
      conv => whnf
      refine And.intro (by simp only [allP, List.nil_append, List.cons_append, true_and]; exact ⟨rfl, rfl, by decide⟩) ?_
      conv => whnf
      refine And.intro (by simp only [allP, List.nil_append, List.cons_append, true_and]; decide) ?_
      conv => whnf
      rw [cut_zerosI 65536 _ rfl]
      obtain ⟨Z, hZ, hZl⟩ : ∃ Z : List UInt8, List.replicate (Int.toNat 65536) (0 : UInt8) = Z ∧ Z.length = 65536 := ⟨_, rfl, by rw [List.length_replicate]; rfl⟩
      rw [hZ]
      clear hZ
      refine And.intro (by simp only [allP, List.nil_append, List.cons_append, true_and]; exact bl_isByte Z) ?_
      conv => whnf
      rw [elsStr_bl]
      refine ⟨(true, [], strOf Z), ?_⟩
      conv => whnf
      refine And.intro (by simp only [allP, List.nil_append, List.cons_append, true_and]; exact ⟨rfl, rfl, by rw [strOf_size, hZl]; rfl, by decide⟩) ?_
      conv => whnf
      refine And.intro (by simp only [allP, List.nil_append, List.cons_append, true_and]; decide) ?_
      conv => whnf
      rw [cut_zerosI 65535 _ rfl]
      obtain ⟨Y, hY, hYl⟩ : ∃ Y : List UInt8, List.replicate (Int.toNat 65535) (0 : UInt8) = Y ∧ Y.length = 65535 := ⟨_, rfl, by rw [List.length_replicate]; rfl⟩
      rw [hY]
      clear hY
      refine And.intro (by simp only [allP, List.nil_append, List.cons_append, true_and]; exact bl_isByte Y) ?_
      conv => whnf
      rw [elsStr_bl]
      refine ⟨(false, [], strOf Y), ?_⟩
      conv => whnf
      refine And.intro (by simp only [allP, List.nil_append, List.cons_append, true_and]; exact ⟨rfl, rfl, by rw [strOf_size, hYl]; rfl, by decide⟩) ?_
      conv => whnf
      have hbig : (bl ([] ++ beB 2 (strOf Y).size ++ (strOf Y).data.toList)).length = 65537 := by
        rw [bl_length, List.nil_append, List.length_append, beB_length, show (strOf Y).data.toList = Y from rfl, hYl]
      rw [hbig]
      conv => whnf
      refine ⟨(), ?_⟩
      conv => whnf
      refine And.intro (by simp only [allP, List.nil_append, List.cons_append, true_and]; done) ?_
      conv => whnf
      rfl
theorem OctetsNumbers_sound : Sound Try.prog 4 lawOctetsNumbers := does_sound mixed tabOk_prog gAw_ok Try.func4 octetsNumbers_does
end Go.Proofs.Ytonbbaimkpjcfaa.Ev
