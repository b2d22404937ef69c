/- Rows of bytes: cloned, put one behind the other. No conditions. -/
import Derived.Test.YtjgmlkogppibfaaEvLow
namespace Go.Proofs.Ytjgmlkogppibfaa.Ev
open Go
set_option linter.unusedVariables false
set_option linter.unusedSimpArgs false
set_option maxRecDepth 100000
abbrev cClone : Ctr := ⟨List UInt8, 0, fun l => [.p false (.sl 1 (bl l))], fun _ => [], fun l => l.length ≤ 140737488355328, fun _ => .rowf 0, fun l => [(0, .row 5 1 true false (bl l))]⟩
theorem clone_does : Does [] tab Try.f43 cClone := by
  rintro l (h1 : l.length ≤ 140737488355328)
  conv => whnf
  intro b hb
  cases b
  · conv => whnf
    refine And.intro (by simp only [allP, List.nil_append, List.cons_append, true_and]; rw [bl_length]; simp only [List.length_nil, Nat.zero_add]; omega) ?_
    conv => whnf
    exact ⟨rfl, bl_isFlat l⟩
  · conv => whnf
    exact hb rfl
theorem clone_sound : Sound Try.prog 43 cClone := does_sound mixed tabOk_prog GamOk.nil Try.func43 clone_does
abbrev cGrow : Ctr := ⟨Bool × Nat, 0, fun (b, n) => [.p true .nilsl, isI .i64 n], fun _ => [], fun (b, n) => b = decide (0 < n) ∧ n ≤ 140737488355328, fun (b, n) => match b with | true => .row 0 0 0 | false => .p true .nilsl,
  fun (b, n) => match b with | true => [(0, .row 5 1 true false (List.replicate n (.int .u8 0)))] | false => []⟩
theorem grow_does : Does [] tab Try.f68 cGrow := by
  rintro ⟨b, n⟩ ⟨h1, h2⟩
  have hw : IntKind.i64.wrap ((n : Int) - IntKind.i64.wrap (0 - ((0 : Nat) : Int))) = n := by
    rw [show IntKind.i64.wrap (0 - ((0 : Nat) : Int)) = 0 from rfl, Int.sub_zero, wrap_i64n (by omega)]
  cases b
  · have h0 : n = 0 := by simpa using h1.symm
    conv => whnf
    rw [hw]
    split <;> rename_i hb
    · exfalso; (try simp [h0] at hb) <;> omega
    rw [hb]
    clear hb
    conv => whnf
  · have h0 : 0 < n := by simpa using h1.symm
    conv => whnf
    rw [hw]
    split <;> rename_i hb
    rotate_left
    · exfalso; (try simp [h0] at hb) <;> omega
    rw [hb]
    clear hb
    conv => whnf
    refine And.intro (by simp only [allP, List.nil_append, List.cons_append, true_and]; decide) ?_
    conv => whnf
    refine And.intro (by simp only [allP, List.nil_append, List.cons_append, true_and]; omega) ?_
    conv => whnf
    refine And.intro (by simp only [allP, List.nil_append, List.cons_append, true_and]; simp) ?_
    conv => whnf
    exact ⟨rfl, rfl, rfl⟩
theorem grow_sound : Sound Try.prog 68 cGrow := does_sound mixed tabOk_prog GamOk.nil Try.func68 grow_does
/-- Two lists, one behind the other. -/
abbrev cConcat : Ctr := ⟨List UInt8 × List UInt8, 0, fun (a, b) => [.p false (.sl 1 [.sl 1 (bl a), .sl 1 (bl b)])], fun _ => [], fun (a, b) => a.length + b.length ≤ 140737488355328, fun _ => .rowf 0, fun (a, b) => [(0, .row 5 1 false false (bl (a ++ b)))]⟩
def gB1 : List (FuncId × Ctr) := (68, cGrow) :: []
theorem gB1_ok : GamOk Try.prog gB1 := GamOk.cons GamOk.nil Try.func68 (by kernel_rfl) (by kernel_rfl) grow_sound
theorem concat_does : Does gB1 tab Try.f41 cConcat := by
  rintro ⟨a, b⟩ (h1 : a.length + b.length ≤ 140737488355328)
  have hla := bl_length a
  have hlb := bl_length b
  have hw0 : IntKind.i64.wrap (0 + ((bl a).length : Int)) = ((a.length : Nat) : Int) := by rw [hla, Int.zero_add, wrap_i64n (by omega)]
  have hw1 : IntKind.i64.wrap ((a.length : Int) + ((bl b).length : Int)) = ((a.length + b.length : Nat) : Int) := by rw [hlb, ← Int.natCast_add, wrap_i64n (by omega)]
  conv => whnf
  refine ⟨Option Bool, fun i => match i with
    | none => ⟨[(0, .p false (.sl 1 [.sl 1 (bl a), .sl 1 (bl b)])), (3, isI .i64 0), (9, .p false (.sl 1 [.sl 1 (bl a), .sl 1 (bl b)])), (10, isI .i64 2), (11, isI .i64 0)], [], 99⟩
    | some false => ⟨[(0, .p false (.sl 1 [.sl 1 (bl a), .sl 1 (bl b)])), (3, isI .i64 a.length), (9, .p false (.sl 1 [.sl 1 (bl a), .sl 1 (bl b)])), (10, isI .i64 2), (11, isI .i64 1)], [], 99⟩
    | some true => ⟨[(0, .p false (.sl 1 [.sl 1 (bl a), .sl 1 (bl b)])), (3, isI .i64 (a.length + b.length : Nat)), (9, .p false (.sl 1 [.sl 1 (bl a), .sl 1 (bl b)])), (10, isI .i64 2), (11, isI .i64 2)], [], 99⟩,
    fun i => match i with | none => 2 | some false => 1 | some true => 0, ⟨none, ?_⟩, ?_⟩
  · conv => whnf
    exact ⟨rfl, rfl, rfl, rfl, rfl⟩
  rintro (_ | _ | _)
  · conv => whnf
    refine And.intro (by simp only [allP, List.nil_append, List.cons_append, true_and]; simp) ?_
    conv => whnf
    rw [hw0]
    split <;> rename_i hb
    · exfalso; (try simp [] at hb) <;> omega
    rw [hb]
    clear hb
    conv => whnf
    refine ⟨some false, by decide, ?_⟩
    conv => whnf
    exact ⟨rfl, rfl, rfl, rfl, rfl⟩
  · conv => whnf
    refine And.intro (by simp only [allP, List.nil_append, List.cons_append, true_and]; simp) ?_
    conv => whnf
    rw [hw1]
    split <;> rename_i hb
    · exfalso; (try simp [] at hb) <;> omega
    rw [hb]
    clear hb
    conv => whnf
    refine ⟨some true, by decide, ?_⟩
    conv => whnf
    exact ⟨rfl, rfl, rfl, rfl, rfl⟩
  · conv => whnf
    cases hn : decide (0 < a.length + b.length)
    · refine ⟨(false, a.length + b.length), ?_⟩
      conv => whnf
      refine And.intro (by simp only [allP, List.nil_append, List.cons_append, true_and]; exact ⟨rfl, rfl, hn.symm, by omega⟩) ?_
      conv => whnf
      refine ⟨Option Bool, fun i => match i with
        | none => ⟨[(6, .p true .nilsl), (25, .p false (.sl 1 [.sl 1 (bl a), .sl 1 (bl b)])), (26, isI .i64 2), (27, isI .i64 0)], [], 99⟩
        | some false => ⟨[(6, .rowf 0), (25, .p false (.sl 1 [.sl 1 (bl a), .sl 1 (bl b)])), (26, isI .i64 2), (27, isI .i64 1)], [(0, .row 5 1 false false (bl a))], 99⟩
        | some true => ⟨[(6, .rowf 0), (25, .p false (.sl 1 [.sl 1 (bl a), .sl 1 (bl b)])), (26, isI .i64 2), (27, isI .i64 2)], [(0, .row 5 1 false false (bl (a ++ b)))], 99⟩,
        fun i => match i with | none => 2 | some false => 1 | some true => 0, ⟨none, ?_⟩, ?_⟩
      · conv => whnf
        exact ⟨rfl, rfl, rfl, rfl⟩
      rintro (_ | _ | _)
      · conv => whnf
        refine And.intro (by simp only [allP, List.nil_append, List.cons_append, true_and]; simp) ?_
        conv => whnf
        refine And.intro (by simp only [allP, List.nil_append, List.cons_append, true_and]; rw [hla, List.length_nil]; omega) ?_
        conv => whnf
        refine ⟨some false, by decide, ?_⟩
        conv => whnf
        exact ⟨rfl, rfl, rfl, rfl⟩
      · conv => whnf
        refine And.intro (by simp only [allP, List.nil_append, List.cons_append, true_and]; simp) ?_
        conv => whnf
        refine And.intro (by simp only [allP, List.nil_append, List.cons_append, true_and]; rw [hla, hlb]; omega) ?_
        conv => whnf
        refine ⟨some true, by decide, ?_⟩
        conv => whnf
        simp only [allP, bl_append]
        exact ⟨rfl, rfl, rfl, trivial⟩
      · conv => whnf
    · refine ⟨(true, a.length + b.length), ?_⟩
      conv => whnf
      refine And.intro (by simp only [allP, List.nil_append, List.cons_append, true_and]; exact ⟨rfl, rfl, hn.symm, by omega⟩) ?_
      conv => whnf
      refine ⟨Option Bool, fun i => match i with
        | none => ⟨[(6, .row 0 0 0), (25, .p false (.sl 1 [.sl 1 (bl a), .sl 1 (bl b)])), (26, isI .i64 2), (27, isI .i64 0)], [(0, .row 5 1 true false (List.replicate (a.length + b.length) (.int .u8 0)))], 99⟩
        | some false => ⟨[(6, .rowf 0), (25, .p false (.sl 1 [.sl 1 (bl a), .sl 1 (bl b)])), (26, isI .i64 2), (27, isI .i64 1)], [(0, .row 5 1 false false (bl a))], 99⟩
        | some true => ⟨[(6, .rowf 0), (25, .p false (.sl 1 [.sl 1 (bl a), .sl 1 (bl b)])), (26, isI .i64 2), (27, isI .i64 2)], [(0, .row 5 1 false false (bl (a ++ b)))], 99⟩,
        fun i => match i with | none => 2 | some false => 1 | some true => 0, ⟨none, ?_⟩, ?_⟩
      · conv => whnf
        exact ⟨rfl, rfl, rfl, rfl, rfl, rfl⟩
      rintro (_ | _ | _)
      · conv => whnf
        refine And.intro (by simp only [allP, List.nil_append, List.cons_append, true_and]; simp) ?_
        conv => whnf
        refine And.intro (by simp only [allP, List.nil_append, List.cons_append, true_and]; rw [hla, List.take_zero, List.length_nil]; omega) ?_
        conv => whnf
        refine ⟨some false, by decide, ?_⟩
        conv => whnf
        exact ⟨rfl, rfl, rfl, rfl⟩
      · conv => whnf
        refine And.intro (by simp only [allP, List.nil_append, List.cons_append, true_and]; simp) ?_
        conv => whnf
        refine And.intro (by simp only [allP, List.nil_append, List.cons_append, true_and]; rw [hla, hlb]; omega) ?_
        conv => whnf
        refine ⟨some true, by decide, ?_⟩
        conv => whnf
        simp only [allP, bl_append]
        exact ⟨rfl, rfl, rfl, trivial⟩
      · conv => whnf
theorem concat_sound : Sound Try.prog 41 cConcat := does_sound mixed tabOk_prog gB1_ok Try.func41 concat_does
def gBytes : List (FuncId × Ctr) := (43, cClone) :: (41, cConcat) :: gB1
theorem gBytes_ok : GamOk Try.prog gBytes := GamOk.cons (GamOk.cons gB1_ok Try.func41 (by kernel_rfl) (by kernel_rfl) concat_sound) Try.func43 (by kernel_rfl) (by kernel_rfl) clone_sound
end Go.Proofs.Ytjgmlkogppibfaa.Ev
