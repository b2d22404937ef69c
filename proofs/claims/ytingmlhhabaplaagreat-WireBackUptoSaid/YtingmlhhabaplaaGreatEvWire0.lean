/- Wire: what is put together: numbers, rows of bytes, texts. No conditions. -/
import Derived.Test.YtingmlhhabaplaaGreatEvVarR
import Derived.Test.YtingmlhhabaplaaGreatEvCod
namespace Go.Proofs.YtingmlhhabaplaaGreat.Ev
open Go
set_option linter.unusedVariables false
set_option linter.unusedSimpArgs false
set_option maxRecDepth 100000
set_option maxHeartbeats 4000000
def nuB (n : Int) : List UInt8 := vE (zig n)
def nsB (l : List Int) : List UInt8 := (l.map nuB).flatten
def txB (s : ByteArray) : List UInt8 := vE s.size ++ s.data.toList
def tsB (l : List ByteArray) : List UInt8 := (l.map txB).flatten
def boB : Bool → List UInt8
  | true => [1]
  | false => [0]
/-- A list: its length, its elements. -/
def lsB {α : Type} (f : α → List UInt8) (l : List α) : List UInt8 := vE l.length ++ (l.map f).flatten
theorem nsB_app (a b : List Int) : nsB (a ++ b) = nsB a ++ nsB b := by simp [nsB]
theorem nsB_one (n : Int) : nsB [n] = nuB n := by simp [nsB]
theorem nuB_len {n : Int} (h : i64R n) : (nuB n).length ≤ 10 := by unfold nuB; rw [vE_length]; exact vCnt_le _ (zig_lt h.1 h.2)
/-- A part of a thing put behind. -/
abbrev cO {X : Type} (enc : X → List UInt8) (av : X → AV) (ok : X → Prop) : Ctr := ⟨List UInt8 × X, 2, fun (b, x) => [.ptr 0 0, av x], fun (b, x) => [(0, .box [.rowf 1]), (1, .row 5 1 true false (bl b))],
  fun (b, x) => ok x ∧ b.length + (enc x).length ≤ 1000000000000, fun _ => .tuple [], fun (b, x) => [(0, .box [.rowf 2]), (2, .row 5 1 true false (bl (b ++ enc x)))]⟩
theorem take_s {α : Type} {l : List α} {i : Nat} (h : i < l.length) : l.take (i + 1) = l.take i ++ [l[i]] := by rw [List.take_add_one, List.getElem?_eq_getElem h]; rfl
theorem flat_len {α : Type} (f : α → List UInt8) (l : List α) (i : Nat) : ((l.take i).map f).flatten.length ≤ (l.map f).flatten.length := by
  conv => rhs; rw [← List.take_append_drop i l]
  rw [List.map_append, List.flatten_append, List.length_append]
  omega
theorem flat_step {α : Type} (f : α → List UInt8) {l : List α} {i : Nat} (h : i < l.length) : ((l.take (i + 1)).map f).flatten = ((l.take i).map f).flatten ++ f l[i] := by
  rw [take_s h, List.map_append, List.flatten_append]; simp
theorem flat_one_len {α : Type} (f : α → List UInt8) {l : List α} {i : Nat} (h : i < l.length) : ((l.take i).map f).flatten.length + (f l[i]).length ≤ (l.map f).flatten.length := by
  have := flat_len f l (i + 1)
  rw [flat_step f h, List.length_append] at this
  exact this
abbrev cONum : Ctr := cO nsB (fun l : List Int => .p false (.sl 1 (il .i64 l))) (fun l => l ≠ [] ∧ (∀ n ∈ l, i64R n) ∧ l.length ≤ 100)
theorem onum_does : Does gVar tab Tryz.f136 cONum := by
  rintro ⟨b, l⟩ ⟨⟨h0, h1, h2⟩, h3⟩
  have hil := il_length .i64 l
  conv => whnf
  rw [hil]
  refine ⟨{i : Nat // i ≤ l.length}, fun i => match i.1 with
    | 0 => ⟨[(0, .ptr 0 0), (6, .p false (.sl 1 (il .i64 l))), (7, isI .i64 l.length), (8, isI .i64 0)], [(0, .box [.rowf 1]), (1, .row 5 1 true false (bl b))], 99⟩
    | i + 1 => ⟨[(0, .ptr 0 0), (6, .p false (.sl 1 (il .i64 l))), (7, isI .i64 l.length), (8, isI .i64 (i + 1 : Nat))], [(0, .box [.rowf 2]), (1, .gone), (2, .row 5 1 true false (bl (b ++ nsB (l.take (i + 1)))))], 99⟩, fun i => l.length - i.1, ⟨⟨0, Nat.zero_le _⟩, ?_⟩, ?_⟩
  · conv => whnf
    and_intros <;> rfl
  rintro ⟨_ | i, hi⟩
  · show aw _ _ _ _ _ _ ⟨[(0, .ptr 0 0), (6, .p false (.sl 1 (il .i64 l))), (7, isI .i64 l.length), (8, isI .i64 0)], [(0, .box [.rowf 1]), (1, .row 5 1 true false (bl b))], 99⟩
    conv => whnf
    by_cases hlt : 0 < l.length
    · rw [decide_eq_true (show (0 : Int) < (l.length : Int) by omega)]
      conv => whnf
      refine And.intro (by simp only [allP, List.nil_append, List.cons_append, true_and]; rw [hil]; omega) ?_
      conv => whnf
      rw [show Int.toNat 0 = 0 from rfl, il_getD, List.getD_eq_getElem?_getD, List.getElem?_eq_getElem hlt, Option.getD_some]
      conv => whnf
      have hn := h1 _ (List.getElem_mem hlt)
      have hnl := nuB_len hn
      have hfl := flat_one_len nuB hlt
      have hst : nsB (l.take (0 + 1)) = nsB (l.take 0) ++ nuB l[0] := flat_step nuB hlt
      generalize l[0] = n at hn hnl hfl hst ⊢
      refine ⟨([], n), ?_⟩
      conv => whnf
      refine And.intro (by simp only [allP, List.nil_append, List.cons_append, true_and]; and_intros <;> first | rfl | exact hn.1 | exact hn.2 | exact Nat.zero_le _) ?_
      conv => whnf
      rw [List.nil_append]
      refine And.intro (by simp only [allP, List.nil_append, List.cons_append, true_and]; rw [bl_length, bl_length]; unfold nsB at h3; rw [show (vE (zig n)).length = (nuB n).length from rfl]; omega) ?_
      conv => whnf
      refine dI (k := ?_)
      conv => whnf
      refine ⟨by rfl, ?_⟩
      show aw _ _ _ _ _ _ _
      conv => whnf
      refine ⟨⟨0 + 1, by omega⟩, by simp only; omega, ?_⟩
      conv => whnf
      exact ⟨rfl, rfl, rfl, by rw [hst, ← bl_append]; simp only [List.take_zero]; rfl⟩
    · exact absurd (List.eq_nil_of_length_eq_zero (by omega)) h0
  · show aw _ _ _ _ _ _ ⟨[(0, .ptr 0 0), (6, .p false (.sl 1 (il .i64 l))), (7, isI .i64 l.length), (8, isI .i64 (i + 1 : Nat))], [(0, .box [.rowf 2]), (1, .gone), (2, .row 5 1 true false (bl (b ++ nsB (l.take (i + 1)))))], 99⟩
    conv => whnf
    by_cases hlt : (i + 1) < l.length
    · rw [decide_eq_true (show ((i + 1 : Nat) : Int) < (l.length : Int) by omega)]
      conv => whnf
      refine And.intro (by simp only [allP, List.nil_append, List.cons_append, true_and]; rw [hil]; omega) ?_
      conv => whnf
      rw [Int.toNat_natCast, il_getD, List.getD_eq_getElem?_getD, List.getElem?_eq_getElem hlt, Option.getD_some]
      conv => whnf
      have hn := h1 _ (List.getElem_mem hlt)
      have hnl := nuB_len hn
      have hfl := flat_one_len nuB hlt
      have hst : nsB (l.take ((i + 1) + 1)) = nsB (l.take (i + 1)) ++ nuB l[(i + 1)] := flat_step nuB hlt
      generalize l[(i + 1)] = n at hn hnl hfl hst ⊢
      refine ⟨([], n), ?_⟩
      conv => whnf
      refine And.intro (by simp only [allP, List.nil_append, List.cons_append, true_and]; and_intros <;> first | rfl | exact hn.1 | exact hn.2 | exact Nat.zero_le _) ?_
      conv => whnf
      rw [List.nil_append]
      refine And.intro (by simp only [allP, List.nil_append, List.cons_append, true_and]; rw [bl_length, bl_length, List.length_append]; unfold nsB at h3 ⊢; rw [show (vE (zig n)).length = (nuB n).length from rfl]; omega) ?_
      conv => whnf
      refine dI (k := ?_)
      conv => whnf
      refine ⟨by rfl, ?_⟩
      show aw _ _ _ _ _ _ _
      conv => whnf
      refine ⟨⟨(i + 1) + 1, by omega⟩, by simp only; omega, ?_⟩
      conv => whnf
      exact ⟨rfl, rfl, by rw [wrap_i64 (by omega) (by omega)]; rfl, by rw [hst, ← bl_append, List.append_assoc]; rfl⟩
    · rw [decide_eq_false (show ¬ ((i + 1 : Nat) : Int) < (l.length : Int) by omega)]
      conv => whnf
      rw [List.take_of_length_le (by omega)]
      first | done | (and_intros <;> rfl)
theorem onum_sound : Sound Tryz.prog 136 cONum := does_sound mixed tabOk_prog gVar_ok Tryz.func136 onum_does
def gW1 : List (FuncId × Ctr) := (136, cONum) :: gVar
theorem gW1_ok : GamOk Tryz.prog gW1 := GamOk.cons gVar_ok Tryz.func136 (by kernel_rfl) (by kernel_rfl) onum_sound
theorem oints_does : Does gW1 tab Tryz.f134 cONum := by
  rintro ⟨b, l⟩ ⟨⟨h0, h1, h2⟩, h3⟩
  have hil := il_length .i64 l
  conv => whnf
  rw [hil]
  refine ⟨{i : Nat // i ≤ l.length}, fun i => match i.1 with
    | 0 => ⟨[(0, .ptr 0 0), (6, .p false (.sl 1 (il .i64 l))), (7, isI .i64 l.length), (8, isI .i64 0)], [(0, .box [.rowf 1]), (1, .row 5 1 true false (bl b))], 99⟩
    | i + 1 => ⟨[(0, .ptr 0 0), (6, .p false (.sl 1 (il .i64 l))), (7, isI .i64 l.length), (8, isI .i64 (i + 1 : Nat))], [(0, .box [.rowf 2]), (1, .gone), (2, .row 5 1 true false (bl (b ++ nsB (l.take (i + 1)))))], 99⟩, fun i => l.length - i.1, ⟨⟨0, Nat.zero_le _⟩, ?_⟩, ?_⟩
  · conv => whnf
    and_intros <;> rfl
  rintro ⟨_ | i, hi⟩
  · show aw _ _ _ _ _ _ ⟨[(0, .ptr 0 0), (6, .p false (.sl 1 (il .i64 l))), (7, isI .i64 l.length), (8, isI .i64 0)], [(0, .box [.rowf 1]), (1, .row 5 1 true false (bl b))], 99⟩
    conv => whnf
    by_cases hlt : 0 < l.length
    · rw [decide_eq_true (show (0 : Int) < (l.length : Int) by omega)]
      conv => whnf
      refine And.intro (by simp only [allP, List.nil_append, List.cons_append, true_and]; rw [hil]; omega) ?_
      conv => whnf
      rw [show Int.toNat 0 = 0 from rfl, il_getD, List.getD_eq_getElem?_getD, List.getElem?_eq_getElem hlt, Option.getD_some]
      conv => whnf
      have hn := h1 _ (List.getElem_mem hlt)
      have hnl := nuB_len hn
      have hfl := flat_one_len nuB hlt
      have hst : nsB (l.take (0 + 1)) = nsB (l.take 0) ++ nuB l[0] := flat_step nuB hlt
      generalize l[0] = n at hn hnl hfl hst ⊢
      refine ⟨(b, [n]), ?_⟩
      conv => whnf
      refine And.intro (by simp only [allP, List.nil_append, List.cons_append, true_and]; and_intros <;> first | rfl | exact List.cons_ne_nil _ _ | (intro m hm; rw [List.mem_singleton.1 hm]; exact hn) | (rw [nsB_one]; unfold nsB at h3; omega) | (simp; done)) ?_
      conv => whnf
      refine ⟨⟨0 + 1, by omega⟩, by simp only; omega, ?_⟩
      conv => whnf
      exact ⟨rfl, rfl, rfl, by rw [hst, nsB_one]; simp only [List.take_zero]; rfl⟩
    · exact absurd (List.eq_nil_of_length_eq_zero (by omega)) h0
  · show aw _ _ _ _ _ _ ⟨[(0, .ptr 0 0), (6, .p false (.sl 1 (il .i64 l))), (7, isI .i64 l.length), (8, isI .i64 (i + 1 : Nat))], [(0, .box [.rowf 2]), (1, .gone), (2, .row 5 1 true false (bl (b ++ nsB (l.take (i + 1)))))], 99⟩
    conv => whnf
    by_cases hlt : (i + 1) < l.length
    · rw [decide_eq_true (show ((i + 1 : Nat) : Int) < (l.length : Int) by omega)]
      conv => whnf
      refine And.intro (by simp only [allP, List.nil_append, List.cons_append, true_and]; rw [hil]; omega) ?_
      conv => whnf
      rw [Int.toNat_natCast, il_getD, List.getD_eq_getElem?_getD, List.getElem?_eq_getElem hlt, Option.getD_some]
      conv => whnf
      have hn := h1 _ (List.getElem_mem hlt)
      have hnl := nuB_len hn
      have hfl := flat_one_len nuB hlt
      have hst : nsB (l.take ((i + 1) + 1)) = nsB (l.take (i + 1)) ++ nuB l[(i + 1)] := flat_step nuB hlt
      generalize l[(i + 1)] = n at hn hnl hfl hst ⊢
      refine ⟨((b ++ nsB (l.take (i + 1))), [n]), ?_⟩
      conv => whnf
      refine And.intro (by simp only [allP, List.nil_append, List.cons_append, true_and]; and_intros <;> first | rfl | exact List.cons_ne_nil _ _ | (intro m hm; rw [List.mem_singleton.1 hm]; exact hn) | (rw [nsB_one]; rw [List.length_append]; unfold nsB at h3 ⊢; omega) | (simp; done)) ?_
      conv => whnf
      refine ⟨⟨(i + 1) + 1, by omega⟩, by simp only; omega, ?_⟩
      conv => whnf
      exact ⟨rfl, rfl, by rw [wrap_i64 (by omega) (by omega)]; rfl, by rw [hst, nsB_one, List.append_assoc]; rfl⟩
    · rw [decide_eq_false (show ¬ ((i + 1 : Nat) : Int) < (l.length : Int) by omega)]
      conv => whnf
      rw [List.take_of_length_le (by omega)]
      first | done | (and_intros <;> rfl)
theorem oints_sound : Sound Tryz.prog 134 cONum := does_sound mixed tabOk_prog gW1_ok Tryz.func134 oints_does
abbrev cOSize : Ctr := cO vE (fun n : Nat => isI .i64 n) (fun n => n ≤ 9223372036854775807)
theorem osize_does : Does gVar tab Tryz.f187 cOSize := by
  rintro ⟨b, n⟩ ⟨h1, h2⟩
  have h10 := vCnt_le n (by omega)
  have hvl := vE_length n
  conv => whnf
  rw [wrap_u64n (by omega)]
  refine ⟨([], n), ?_⟩
  conv => whnf
  refine And.intro (by simp only [allP, List.nil_append, List.cons_append, true_and]; and_intros <;> first | rfl | omega | exact Nat.zero_le _) ?_
  conv => whnf
  rw [List.nil_append]
  refine And.intro (by simp only [allP, List.nil_append, List.cons_append, true_and]; rw [bl_length, bl_length]; omega) ?_
  conv => whnf
  refine dI (k := ?_)
  conv => whnf
  refine ⟨by rfl, ?_⟩
  (set_option smartUnfolding false in conv => whnf)
  rw [← bl_append]
  and_intros <;> first | rfl | exact bl_isFlat _
theorem osize_sound : Sound Tryz.prog 187 cOSize := does_sound mixed tabOk_prog gVar_ok Tryz.func187 osize_does
abbrev cOBool : Ctr := cO boB (fun x : Bool => isB x) (fun _ => True)
theorem obool_does : Does [] tab Tryz.f138 cOBool := by
  rintro ⟨b, x⟩ ⟨-, h2⟩
  cases x
  · conv => whnf
    refine And.intro (by simp only [allP, List.nil_append, List.cons_append, true_and]; rw [bl_length]; simp only [List.length_cons, List.length_nil] at *; omega) ?_
    conv => whnf
    refine dI (k := ?_)
    conv => whnf
    rw [bl_append]
    and_intros <;> rfl
  · conv => whnf
    refine And.intro (by simp only [allP, List.nil_append, List.cons_append, true_and]; rw [bl_length]; simp only [List.length_cons, List.length_nil] at *; omega) ?_
    conv => whnf
    refine dI (k := ?_)
    conv => whnf
    rw [bl_append]
    and_intros <;> rfl
theorem obool_sound : Sound Tryz.prog 138 cOBool := does_sound mixed tabOk_prog GamOk.nil Tryz.func138 obool_does
def gW2 : List (FuncId × Ctr) := (134, cONum) :: (187, cOSize) :: (138, cOBool) :: gW1
theorem gW2_ok : GamOk Tryz.prog gW2 := GamOk.cons (GamOk.cons (GamOk.cons gW1_ok Tryz.func138 (by kernel_rfl) (by kernel_rfl) obool_sound) Tryz.func187 (by kernel_rfl) (by kernel_rfl) osize_sound) Tryz.func134 (by kernel_rfl) (by kernel_rfl) oints_sound
abbrev cOBytes : Ctr := cO recB (fun l : List UInt8 => .p false (.sl 1 (bl l))) (fun _ => True)
theorem recB_len (l : List UInt8) : (recB l).length = (vE l.length).length + l.length := by unfold recB; rw [List.length_append]
theorem obytes_does : Does gW2 tab Tryz.f141 cOBytes := by
  rintro ⟨b, l⟩ ⟨-, h2⟩
  have hbl := bl_length l
  rw [recB_len] at h2
  conv => whnf
  rw [hbl]
  refine ⟨(b, l.length), ?_⟩
  conv => whnf
  refine And.intro (by simp only [allP, List.nil_append, List.cons_append, true_and]; and_intros <;> first | rfl | omega) ?_
  conv => whnf
  refine And.intro (by simp only [allP, List.nil_append, List.cons_append, true_and]; rw [bl_length, hbl, List.length_append]; omega) ?_
  conv => whnf
  refine dI (k := ?_)
  conv => whnf
  rw [← bl_append, List.append_assoc]
  and_intros <;> first | rfl | exact bl_isFlat _
theorem obytes_sound : Sound Tryz.prog 141 cOBytes := does_sound mixed tabOk_prog gW2_ok Tryz.func141 obytes_does
def gW3 : List (FuncId × Ctr) := (141, cOBytes) :: gW2
theorem gW3_ok : GamOk Tryz.prog gW3 := GamOk.cons gW2_ok Tryz.func141 (by kernel_rfl) (by kernel_rfl) obytes_sound
/-- Texts, as a row. -/
def tl (l : List ByteArray) : List PV := l.map PV.str
theorem tl_length (l : List ByteArray) : (tl l).length = l.length := by simp [tl]
theorem tl_getD (l : List ByteArray) (i : Nat) (z : PV) (h : i < l.length) : (tl l).getD i z = .str l[i] := map_getD PV.str l i z h
theorem txB_rec (s : ByteArray) : txB s = recB s.data.toList := by
  unfold txB recB
  congr 2
abbrev cOText : Ctr := cO tsB (fun l : List ByteArray => .p false (.sl 1 (tl l))) (fun l => l ≠ [] ∧ l.length ≤ 100)
theorem otext_does : Does gW3 tab Tryz.f137 cOText := by
  rintro ⟨b, l⟩ ⟨⟨h0, h1⟩, h3⟩
  have hil := tl_length l
  conv => whnf
  rw [hil]
  refine ⟨{i : Nat // i ≤ l.length}, fun i => match i.1 with
    | 0 => ⟨[(0, .ptr 0 0), (6, .p false (.sl 1 (tl l))), (7, isI .i64 l.length), (8, isI .i64 0)], [(0, .box [.rowf 1]), (1, .row 5 1 true false (bl b))], 99⟩
    | i + 1 => ⟨[(0, .ptr 0 0), (6, .p false (.sl 1 (tl l))), (7, isI .i64 l.length), (8, isI .i64 (i + 1 : Nat))], [(0, .box [.rowf 2]), (1, .gone), (2, .row 5 1 true false (bl (b ++ tsB (l.take (i + 1)))))], 99⟩, fun i => l.length - i.1, ⟨⟨0, Nat.zero_le _⟩, ?_⟩, ?_⟩
  · conv => whnf
    and_intros <;> rfl
  rintro ⟨_ | i, hi⟩
  · show aw _ _ _ _ _ _ ⟨[(0, .ptr 0 0), (6, .p false (.sl 1 (tl l))), (7, isI .i64 l.length), (8, isI .i64 0)], [(0, .box [.rowf 1]), (1, .row 5 1 true false (bl b))], 99⟩
    conv => whnf
    by_cases hlt : 0 < l.length
    · rw [decide_eq_true (show (0 : Int) < (l.length : Int) by omega)]
      conv => whnf
      refine And.intro (by simp only [allP, List.nil_append, List.cons_append, true_and]; rw [hil]; omega) ?_
      conv => whnf
      rw [show Int.toNat 0 = 0 from rfl, tl_getD _ _ _ hlt]
      conv => whnf
      have hfl := flat_one_len txB hlt
      have hst : tsB (l.take (0 + 1)) = tsB (l.take 0) ++ txB l[0] := flat_step txB hlt
      have hsz : l[0].size ≤ (txB l[0]).length := by unfold txB; rw [List.length_append]; show _ ≤ _ + l[0].data.size; exact Nat.le_add_left _ _
      unfold tsB at h3
      refine And.intro (by simp only [allP, List.nil_append, List.cons_append, true_and]; omega) ?_
      conv => whnf
      rw [strEls_eq]
      refine ⟨(b, l[0].data.toList), ?_⟩
      conv => whnf
      refine And.intro (by simp only [allP, List.nil_append, List.cons_append, true_and]; and_intros <;> first | rfl | exact trivial | (rw [← txB_rec]; omega)) ?_
      conv => whnf
      refine ⟨⟨0 + 1, by omega⟩, by simp only; omega, ?_⟩
      conv => whnf
      exact ⟨rfl, rfl, rfl, by rw [hst, txB_rec]; simp only [List.take_zero]; rfl⟩
    · exact absurd (List.eq_nil_of_length_eq_zero (by omega)) h0
  · show aw _ _ _ _ _ _ ⟨[(0, .ptr 0 0), (6, .p false (.sl 1 (tl l))), (7, isI .i64 l.length), (8, isI .i64 (i + 1 : Nat))], [(0, .box [.rowf 2]), (1, .gone), (2, .row 5 1 true false (bl (b ++ tsB (l.take (i + 1)))))], 99⟩
    conv => whnf
    by_cases hlt : (i + 1) < l.length
    · rw [decide_eq_true (show ((i + 1 : Nat) : Int) < (l.length : Int) by omega)]
      conv => whnf
      refine And.intro (by simp only [allP, List.nil_append, List.cons_append, true_and]; rw [hil]; omega) ?_
      conv => whnf
      rw [Int.toNat_natCast, tl_getD _ _ _ hlt]
      conv => whnf
      have hfl := flat_one_len txB hlt
      have hst : tsB (l.take ((i + 1) + 1)) = tsB (l.take (i + 1)) ++ txB l[(i + 1)] := flat_step txB hlt
      have hsz : l[(i + 1)].size ≤ (txB l[(i + 1)]).length := by unfold txB; rw [List.length_append]; show _ ≤ _ + l[(i + 1)].data.size; exact Nat.le_add_left _ _
      unfold tsB at h3
      refine And.intro (by simp only [allP, List.nil_append, List.cons_append, true_and]; omega) ?_
      conv => whnf
      rw [strEls_eq]
      refine ⟨((b ++ tsB (l.take (i + 1))), l[(i + 1)].data.toList), ?_⟩
      conv => whnf
      refine And.intro (by simp only [allP, List.nil_append, List.cons_append, true_and]; and_intros <;> first | rfl | exact trivial | (rw [← txB_rec]; rw [List.length_append]; unfold tsB; omega)) ?_
      conv => whnf
      refine ⟨⟨(i + 1) + 1, by omega⟩, by simp only; omega, ?_⟩
      conv => whnf
      exact ⟨rfl, rfl, by rw [wrap_i64 (by omega) (by omega)]; rfl, by rw [hst, txB_rec, List.append_assoc]; rfl⟩
    · rw [decide_eq_false (show ¬ ((i + 1 : Nat) : Int) < (l.length : Int) by omega)]
      conv => whnf
      rw [List.take_of_length_le (by omega)]
      first | done | (and_intros <;> rfl)
theorem otext_sound : Sound Tryz.prog 137 cOText := does_sound mixed tabOk_prog gW3_ok Tryz.func137 otext_does
/-- The plain parts. -/
def gW4 : List (FuncId × Ctr) := (137, cOText) :: gW3
theorem gW4_ok : GamOk Tryz.prog gW4 := GamOk.cons gW3_ok Tryz.func137 (by kernel_rfl) (by kernel_rfl) otext_sound
end Go.Proofs.YtingmlhhabaplaaGreat.Ev
