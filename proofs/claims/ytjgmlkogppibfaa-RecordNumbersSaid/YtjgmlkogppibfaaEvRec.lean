/- Batches: may one be, its bytes. No conditions. -/
import Derived.Test.YtjgmlkogppibfaaEvKit
import Derived.Test.YtjgmlkogppibfaaEvVarR
namespace Go.Proofs.Ytjgmlkogppibfaa.Ev
open Go
set_option linter.unusedVariables false
set_option linter.unusedSimpArgs false
set_option maxRecDepth 100000
set_option maxHeartbeats 4000000
abbrev cLong : Ctr := ⟨List UInt8, 0, fun r => [.p false (.sl 1 (bl r))], fun _ => [], fun _ => True, fun r => isB (decide (1024 < r.length)), fun _ => []⟩
theorem long_does : Does [] tab Try.f64 cLong := by
  rintro (r : List UInt8) -
  have hl := bl_length r
  conv => whnf
  rw [hl, show decide (((r.length : Nat) : Int) > 1024) = decide (1024 < r.length) from by rw [decide_eq_decide]; omega]
theorem long_sound : Sound Try.prog 64 cLong := does_sound mixed tabOk_prog GamOk.nil Try.func64 long_does
def gLong : List (FuncId × Ctr) := (64, cLong) :: []
theorem gLong_ok : GamOk Try.prog gLong := GamOk.cons GamOk.nil Try.func64 (by kernel_rfl) (by kernel_rfl) long_sound
def idxV (l : List (List UInt8)) : Int := match l.findIdx? (fun r => decide (1024 < r.length)) with
  | some i => (i : Int)
  | none => -1
theorem idxV_no {l : List (List UInt8)} (h : ∀ r ∈ l, r.length ≤ 1024) : idxV l = -1 := by
  unfold idxV
  rw [List.findIdx?_eq_none_iff.2 (fun r hr => decide_eq_false (by have := h r hr; omega))]
theorem idxV_at {l : List (List UInt8)} {i : Nat} (hi : i < l.length) (h : ∀ r ∈ l.take i, r.length ≤ 1024) (h2 : 1024 < l[i].length) : idxV l = (i : Int) := by
  unfold idxV
  rw [List.findIdx?_eq_some_iff_getElem.2 ⟨hi, decide_eq_true h2, fun j hj => by
    have := h l[j] (List.mem_take_iff_getElem.2 ⟨j, by omega, rfl⟩)
    simp
    omega⟩]
abbrev cIdx : Ctr := ⟨List (List UInt8), 0, fun l => [.p false (.sl 1 (ll l)), .func 64 [] []], fun _ => [], fun l => l.length ≤ 1000000000, fun l => isI .i64 (idxV l), fun _ => []⟩
theorem idx_does : Does gLong tab Try.f73 cIdx := by
  rintro (l : List (List UInt8)) (h1 : l.length ≤ 1000000000)
  have hbl := ll_length l
  conv => whnf
  rw [hbl]
  refine ⟨{i : Nat // i ≤ l.length ∧ ∀ r ∈ l.take i, r.length ≤ 1024}, fun i => ⟨[(0, .p false (.sl 1 (ll l))), (1, .func 64 [] []), (7, isI .i64 l.length), (8, isI .i64 i.1)], [], 99⟩, fun i => l.length - i.1, ⟨⟨0, Nat.zero_le _, by simp⟩, ?_⟩, ?_⟩
  · conv => whnf
    exact ⟨rfl, rfl, rfl⟩
  rintro ⟨i, hi, hr⟩
  show aw _ _ _ _ _ _ ⟨[(0, .p false (.sl 1 (ll l))), (1, .func 64 [] []), (7, isI .i64 l.length), (8, isI .i64 i)], [], 99⟩
  conv => whnf
  by_cases hia : i < l.length
  · rw [decide_eq_true (show (i : Int) < (l.length : Int) by omega)]
    conv => whnf
    refine And.intro (by simp only [allP, List.nil_append, List.cons_append, true_and]; rw [hbl]; omega) ?_
    conv => whnf
    rw [Int.toNat_natCast, ll_getD _ _ _ hia]
    conv => whnf
    refine ⟨l[i], ?_⟩
    conv => whnf
    refine And.intro (by simp only [allP, List.nil_append, List.cons_append, true_and]; exact ⟨rfl, trivial⟩) ?_
    conv => whnf
    by_cases hc : 1024 < l[i].length
    · rw [decide_eq_true hc]
      conv => whnf
      rw [idxV_at hia hr hc]
    · rw [decide_eq_false hc]
      conv => whnf
      refine ⟨⟨i + 1, by omega, fun r hr' => ?_⟩, by simp only; omega, ?_⟩
      · rw [List.take_add_one, List.getElem?_eq_getElem hia] at hr'
        rcases List.mem_append.1 hr' with hr' | hr'
        · exact hr r hr'
        · obtain rfl : r = l[i] := by simpa using hr'
          omega
      conv => whnf
      exact ⟨rfl, rfl, by rw [wrap_i64 (by omega) (by omega)]; rfl⟩
  · rw [decide_eq_false (show ¬ (i : Int) < (l.length : Int) by omega)]
    conv => whnf
    rw [List.take_of_length_le (by omega)] at hr
    rw [idxV_no hr]
theorem idx_sound : Sound Try.prog 73 cIdx := does_sound mixed tabOk_prog gLong_ok Try.func73 idx_does
def gIdx : List (FuncId × Ctr) := (73, cIdx) :: gLong
theorem gIdx_ok : GamOk Try.prog gIdx := GamOk.cons gLong_ok Try.func73 (by kernel_rfl) (by kernel_rfl) idx_sound
abbrev cCont : Ctr := ⟨List (List UInt8), 0, fun l => [.p false (.sl 1 (ll l)), .func 64 [] []], fun _ => [], fun l => l.length ≤ 1000000000, fun l => isB (decide (idxV l ≥ 0)), fun _ => []⟩
theorem cont_does : Does gIdx tab Try.f63 cCont := by
  rintro (l : List (List UInt8)) (h1 : l.length ≤ 1000000000)
  conv => whnf
  refine ⟨l, ?_⟩
  conv => whnf
  refine And.intro (by simp only [allP, List.nil_append, List.cons_append, true_and]; exact ⟨rfl, h1⟩) ?_
  conv => whnf
theorem cont_sound : Sound Try.prog 63 cCont := does_sound mixed tabOk_prog gIdx_ok Try.func63 cont_does
def gCont : List (FuncId × Ctr) := (63, cCont) :: gIdx
theorem gCont_ok : GamOk Try.prog gCont := GamOk.cons gIdx_ok Try.func63 (by kernel_rfl) (by kernel_rfl) cont_sound
theorem idxV_all (l : List (List UInt8)) : (!decide (idxV l ≥ 0)) = l.all fun r => decide (r.length ≤ 1024) := by
  by_cases h : ∀ r ∈ l, r.length ≤ 1024
  · rw [idxV_no h, List.all_eq_true.2 (fun r hr => decide_eq_true (h r hr))]
    rfl
  · have e : l.all (fun r => decide (r.length ≤ 1024)) = false := by
      rw [Bool.eq_false_iff]
      intro e
      exact h (fun r hr => of_decide_eq_true (List.all_eq_true.1 e r hr))
    rw [e]
    unfold idxV
    cases hf : l.findIdx? (fun r => decide (1024 < r.length)) with
    | none =>
      exfalso
      refine h fun r hr => ?_
      have := of_decide_eq_false (List.findIdx?_eq_none_iff.1 hf r hr)
      omega
    | some i =>
      rw [show decide ((i : Int) ≥ 0) = true from decide_eq_true (by omega)]
      rfl
abbrev cRight : Ctr := ⟨BT, 0, fun x => [btA x], fun _ => [], fun x => x.2.2.2.length ≤ 1000000000, fun x => isB (rgt x), fun _ => []⟩
theorem right_does : Does gCont tab Try.f36 cRight := by
  rintro (x : BT) (h1 : x.2.2.2.length ≤ 1000000000)
  have hbl := ll_length x.2.2.2
  have ha := idxV_all x.2.2.2
  conv => whnf
  rw [hbl]
  by_cases h : x.2.2.2.length ≤ 256
  · rw [show decide (((x.2.2.2.length : Nat) : Int) ≤ 256) = true from decide_eq_true (by omega)]
    conv => whnf
    refine ⟨x.2.2.2, ?_⟩
    conv => whnf
    refine And.intro (by simp only [allP, List.nil_append, List.cons_append, true_and]; exact ⟨rfl, h1⟩) ?_
    conv => whnf
    rw [ha]
    have e : rgt x = (x.2.2.2.all fun r => decide (r.length ≤ 1024)) := by unfold rgt; rw [decide_eq_true h]; rfl
    rw [e]
    rfl
  · rw [show decide (((x.2.2.2.length : Nat) : Int) ≤ 256) = false from decide_eq_false (by omega)]
    conv => whnf
    have e : rgt x = false := by unfold rgt; rw [decide_eq_false h]; rfl
    rw [e]
theorem right_sound : Sound Try.prog 36 cRight := does_sound mixed tabOk_prog gCont_ok Try.func36 right_does
theorem rright_does : Does [] tab Try.f37 cRight := by
  rintro (x : BT) (h1 : x.2.2.2.length ≤ 1000000000)
  have hbl := ll_length x.2.2.2
  conv => whnf
  refine ⟨{i : Nat // i ≤ x.2.2.2.length ∧ ∀ r ∈ x.2.2.2.take i, r.length ≤ 1024}, fun i => ⟨[(1, .ptr 0 0), (3, isI .i64 i.1)], [(0, .box [isI .i64 x.1, isI .i64 x.2.1, isI .i64 x.2.2.1, .p false (.sl 1 (ll x.2.2.2))])], 99⟩, fun i => x.2.2.2.length - i.1, ⟨⟨0, Nat.zero_le _, by simp⟩, ?_⟩, ?_⟩
  · conv => whnf
    exact ⟨rfl, rfl, rfl, rfl, rfl⟩
  rintro ⟨i, hi, hr⟩
  show aw _ _ _ _ _ _ ⟨[(1, .ptr 0 0), (3, isI .i64 i)], [(0, .box [isI .i64 x.1, isI .i64 x.2.1, isI .i64 x.2.2.1, .p false (.sl 1 (ll x.2.2.2))])], 99⟩
  conv => whnf
  rw [hbl]
  by_cases hia : i < x.2.2.2.length
  · rw [decide_eq_true (show (i : Int) < (x.2.2.2.length : Int) by omega)]
    conv => whnf
    refine And.intro (by simp only [allP, List.nil_append, List.cons_append, true_and]; rw [hbl]; omega) ?_
    conv => whnf
    rw [Int.toNat_natCast, ll_getD _ _ _ hia]
    conv => whnf
    have hbi := bl_length x.2.2.2[i]
    rw [hbi]
    by_cases hc : 1024 < x.2.2.2[i].length
    · rw [decide_eq_true (show ((x.2.2.2[i].length : Nat) : Int) > 1024 by omega)]
      conv => whnf
      have e : rgt x = false := by
        rw [Bool.eq_false_iff]
        intro e
        have := ((rgt_iff x).1 e).2 _ (List.getElem_mem hia)
        omega
      rw [e]
    · rw [decide_eq_false (show ¬ ((x.2.2.2[i].length : Nat) : Int) > 1024 by omega)]
      conv => whnf
      refine ⟨⟨i + 1, by omega, fun r hr' => ?_⟩, by simp only; omega, ?_⟩
      · rw [List.take_add_one, List.getElem?_eq_getElem hia] at hr'
        rcases List.mem_append.1 hr' with hr' | hr'
        · exact hr r hr'
        · obtain rfl : r = x.2.2.2[i] := by simpa using hr'
          omega
      conv => whnf
      exact ⟨by rw [wrap_i64 (by omega) (by omega)]; rfl, rfl, rfl, rfl, rfl⟩
  · rw [decide_eq_false (show ¬ (i : Int) < (x.2.2.2.length : Int) by omega)]
    conv => whnf
    rw [List.take_of_length_le (by omega)] at hr
    rw [hbl]
    have e : rgt x = decide (((x.2.2.2.length : Nat) : Int) ≤ 256) := by
      unfold rgt
      rw [List.all_eq_true.2 (fun r h => decide_eq_true (hr r h)), Bool.and_true, decide_eq_decide]
      omega
    rw [e]
theorem rright_sound : Sound Try.prog 37 cRight := does_sound mixed tabOk_prog GamOk.nil Try.func37 rright_does
/-! ### Its bytes -/
def intsB (l : List Int) : List UInt8 := (l.map fun n => vE (zig n)).flatten
theorem intsB_app (a b : List Int) : intsB (a ++ b) = intsB a ++ intsB b := by simp [intsB]
theorem intsB_one (n : Int) : intsB [n] = vE (zig n) := by simp [intsB]
theorem intsB_len : ∀ l : List Int, (∀ n ∈ l, i64R n) → (intsB l).length ≤ 10 * l.length
  | [], _ => Nat.le_refl _
  | n :: l, h => by
    have ih := intsB_len l fun m hm => h m (List.mem_cons_of_mem _ hm)
    have hn := h n List.mem_cons_self
    have := vCnt_le (zig n) (zig_lt hn.1 hn.2)
    rw [show n :: l = [n] ++ l from rfl, intsB_app, intsB_one, List.length_append, vE_length, List.length_append]
    simp only [List.length_cons, List.length_nil]
    omega
theorem recsB_len : ∀ l : List (List UInt8), (∀ r ∈ l, r.length ≤ 1024) → (recsB l).length ≤ 1034 * l.length
  | [], _ => Nat.le_refl _
  | r :: l, h => by
    have ih := recsB_len l fun m hm => h m (List.mem_cons_of_mem _ hm)
    have hr := h r List.mem_cons_self
    have := vCnt_le r.length (by omega)
    rw [recsB_cons, recB, List.length_append, List.length_append, vE_length]
    simp only [List.length_cons]
    omega
theorem hdB_eq (p e f : Int) (n : Nat) : hdB p e f n = intsB [p, e, f] ++ vE n := by simp [hdB, intsB]
abbrev cEnc : Ctr := ⟨Nat × Int × BT, 0, fun (g, b, x) => [isI .i64 b, btA x], fun _ => [],
  fun (g, b, x) => (i64R b ∧ i64R x.1 ∧ i64R x.2.1 ∧ i64R x.2.2.1 ∧ x.2.2.2.length ≤ 1000000000) ∧ match g with
    | 0 => rgt x = true ∧ 12 + (inB x).length ≤ 60000
    | 1 => rgt x = false
    | _ => rgt x = true ∧ 60000 < 12 + (inB x).length,
  fun (g, b, x) => match g with
    | 0 => .tuple [.rowf 0, isI .i64 0]
    | 1 => .tuple [.p true .nilsl, isI .i64 2]
    | _ => .tuple [.p true .nilsl, isI .i64 3],
  fun (g, b, x) => match g with
    | 0 => [(0, .row 5 1 true false (bl (enB b x)))]
    | _ => []⟩
def gEnc : List (FuncId × Ctr) := (36, cRight) :: (gVar ++ (gSum ++ gF1))
theorem gEnc_ok : GamOk Try.prog gEnc := GamOk.cons (GamOk.app gVar_ok (GamOk.app gSum_ok gF1_ok)) Try.func36 (by kernel_rfl) (by kernel_rfl) right_sound
theorem enc_does : Does gEnc tab Try.f26 cEnc := by
  rintro ⟨g, b, x⟩ ⟨⟨hb, hp, he, hf, hn⟩, hg⟩
  have hex : (g = 1 ∧ rgt x = false) ∨ (rgt x = true ∧ ((g = 0 ∧ 12 + (inB x).length ≤ 60000) ∨ (∃ k, g = k + 2 ∧ 60000 < 12 + (inB x).length))) := by
    rcases g with _ | _ | g
    · exact Or.inr ⟨hg.1, Or.inl ⟨rfl, hg.2⟩⟩
    · exact Or.inl ⟨rfl, hg⟩
    · exact Or.inr ⟨hg.1, Or.inr ⟨g, rfl, hg.2⟩⟩
  clear hg
  have hbl := ll_length x.2.2.2
  conv => whnf
  refine And.intro (by first | exact Nat.le_of_ble_eq_true rfl | exact ⟨Nat.le_of_ble_eq_true rfl, rfl⟩ | exact rfl | decide | (simp [allP]; done)) ?_
  conv => whnf
  refine ⟨x, ?_⟩
  conv => whnf
  refine And.intro (by simp only [allP, List.nil_append, List.cons_append, true_and]; exact ⟨rfl, rfl, rfl, rfl, hn⟩) ?_
  conv => whnf
  rcases hex with ⟨rfl, hr⟩ | ⟨hr, hex⟩
  · rw [hr]
    conv => whnf
    exact ⟨rfl, rfl⟩
  rw [hr]
  conv => whnf
  obtain ⟨hr1, hr2⟩ := (rgt_iff x).1 hr
  obtain ⟨L, hL⟩ : ∃ L : List Int, L = [x.1, x.2.1, x.2.2.1] := ⟨_, rfl⟩
  have hLl : L.length = 3 := by rw [hL]; rfl
  have hLr : ∀ n ∈ L, i64R n := by rw [hL]; intro n hn'; simp at hn'; rcases hn' with rfl | rfl | rfl <;> assumption
  have hLi : il .i64 L = [.int .i64 x.1, .int .i64 x.2.1, .int .i64 x.2.2.1] := by rw [hL]; rfl
  have hLb : intsB L ++ vE x.2.2.2.length = hdB x.1 x.2.1 x.2.2.1 x.2.2.2.length := by rw [hdB_eq, hL]
  have hil := il_length .i64 L
  refine ⟨{i : Nat // i ≤ 3}, fun i => ⟨[(0, isI .i64 b), (3, .ptr 0 0), (6, .rowf 1), (21, .p false (.sl 1 (il .i64 L))), (22, isI .i64 3), (23, isI .i64 i.1)], [(0, .box [isI .i64 x.1, isI .i64 x.2.1, isI .i64 x.2.2.1, .p false (.sl 1 (ll x.2.2.2))]), (1, .row 5 1 true false (bl (intsB (L.take i.1))))], 99⟩, fun i => 3 - i.1, ⟨⟨0, by omega⟩, ?_⟩, ?_⟩
  · conv => whnf
    exact ⟨rfl, by rw [hLi]; rfl, rfl, rfl, rfl, rfl, rfl, rfl, rfl⟩
  rintro ⟨i, hi⟩
  show aw _ _ _ _ _ _ ⟨[(0, isI .i64 b), (3, .ptr 0 0), (6, .rowf 1), (21, .p false (.sl 1 (il .i64 L))), (22, isI .i64 3), (23, isI .i64 i)], [(0, .box [isI .i64 x.1, isI .i64 x.2.1, isI .i64 x.2.2.1, .p false (.sl 1 (ll x.2.2.2))]), (1, .row 5 1 true false (bl (intsB (L.take i))))], 99⟩
  have hti : (intsB (L.take i)).length ≤ 30 := by
    have := intsB_len (L.take i) fun n hn' => hLr n (List.mem_of_mem_take hn')
    rw [List.length_take] at this
    omega
  conv => whnf
  by_cases hi3 : i < 3
  · rw [decide_eq_true (show (i : Int) < 3 by omega)]
    conv => whnf
    refine And.intro (by simp only [allP, List.nil_append, List.cons_append, true_and]; rw [hil]; omega) ?_
    conv => whnf
    rw [Int.toNat_natCast, il_getD]
    conv => whnf
    have hir := hLr (L.getD i 0) (by rw [List.getD_eq_getElem?_getD, List.getElem?_eq_getElem (by omega)]; exact List.getElem_mem (by omega))
    refine ⟨(intsB (L.take i), L.getD i 0), ?_⟩
    conv => whnf
    refine And.intro (by simp only [allP, List.nil_append, List.cons_append, true_and]; exact ⟨rfl, rfl, hir.1, hir.2, by omega⟩) ?_
    conv => whnf
    have htk : L.take (i + 1) = L.take i ++ [L.getD i 0] := by rw [List.take_add_one, List.getD_eq_getElem?_getD, List.getElem?_eq_getElem (by omega)]; rfl
    refine ⟨⟨i + 1, by omega⟩, by simp only; omega, ?_⟩
    conv => whnf
    exact ⟨rfl, rfl, rfl, by rw [wrap_i64 (by omega) (by omega)]; rfl, rfl, rfl, rfl, rfl, by rw [htk, intsB_app, intsB_one]; rfl⟩
  obtain rfl : i = 3 := by omega
  rw [List.take_of_length_le (by omega)] at hti ⊢
  conv => whnf
  rw [hbl, wrap_u64n (by omega)]
  refine ⟨(intsB L, x.2.2.2.length), ?_⟩
  conv => whnf
  refine And.intro (by simp only [allP, List.nil_append, List.cons_append, true_and]; exact ⟨rfl, rfl, by omega, by omega⟩) ?_
  conv => whnf
  rw [hLb]
  conv => whnf
  rw [hbl]
  have hhl : (hdB x.1 x.2.1 x.2.2.1 x.2.2.2.length).length ≤ 40 := by
    rw [← hLb, List.length_append, vE_length]
    have := vCnt_le x.2.2.2.length (by omega)
    omega
  have hin : inB x = hdB x.1 x.2.1 x.2.2.1 x.2.2.2.length ++ recsB x.2.2.2 := rfl
  generalize hdB x.1 x.2.1 x.2.2.1 x.2.2.2.length = hd at hhl hin ⊢
  refine ⟨{i : Nat // i ≤ x.2.2.2.length}, fun i => ⟨[(0, isI .i64 b), (6, .rowf 1), (38, .p false (.sl 1 (ll x.2.2.2))), (39, isI .i64 x.2.2.2.length), (40, isI .i64 i.1)], [(1, .row 5 1 true false (bl (hd ++ recsB (x.2.2.2.take i.1))))], 99⟩, fun i => x.2.2.2.length - i.1, ⟨⟨0, by omega⟩, ?_⟩, ?_⟩
  · conv => whnf
    exact ⟨rfl, rfl, rfl, rfl, by rw [List.take_zero, recsB_nil, List.append_nil]; rfl⟩
  rintro ⟨i, hi⟩
  show aw _ _ _ _ _ _ ⟨[(0, isI .i64 b), (6, .rowf 1), (38, .p false (.sl 1 (ll x.2.2.2))), (39, isI .i64 x.2.2.2.length), (40, isI .i64 i)], [(1, .row 5 1 true false (bl (hd ++ recsB (x.2.2.2.take i))))], 99⟩
  have hti : (recsB (x.2.2.2.take i)).length ≤ 1034 * 256 := by
    have := recsB_len (x.2.2.2.take i) fun n hn' => hr2 n (List.mem_of_mem_take hn')
    rw [List.length_take] at this
    omega
  conv => whnf
  by_cases hi3 : i < x.2.2.2.length
  · rw [decide_eq_true (show (i : Int) < (x.2.2.2.length : Int) by omega)]
    conv => whnf
    refine And.intro (by simp only [allP, List.nil_append, List.cons_append, true_and]; rw [hbl]; omega) ?_
    conv => whnf
    rw [Int.toNat_natCast, ll_getD _ _ _ hi3]
    conv => whnf
    have hrl := hr2 _ (List.getElem_mem hi3)
    have htk : x.2.2.2.take (i + 1) = x.2.2.2.take i ++ [x.2.2.2[i]] := by rw [List.take_add_one, List.getElem?_eq_getElem hi3]; rfl
    generalize x.2.2.2[i] = r at hrl htk ⊢
    have hrb := bl_length r
    have hvl := vCnt_le r.length (by omega)
    have hvl2 := vE_length r.length
    rw [hrb, wrap_u64n (by omega)]
    refine ⟨([], r.length), ?_⟩
    conv => whnf
    refine And.intro (by simp only [allP, List.nil_append, List.cons_append, true_and]; exact ⟨rfl, rfl, by omega, Nat.zero_le _⟩) ?_
    conv => whnf
    rw [List.nil_append]
    refine And.intro (by simp only [allP, List.nil_append, List.cons_append, true_and]; rw [bl_length, bl_length, List.length_append]; omega) ?_
    conv => whnf
    refine And.intro (by simp only [allP, List.nil_append, List.cons_append, true_and]; rw [List.length_append, bl_length, bl_length, hrb, List.length_append]; omega) ?_
    conv => whnf
    refine ⟨⟨i + 1, by omega⟩, by simp only; omega, ?_⟩
    conv => whnf
    exact ⟨rfl, rfl, rfl, by rw [wrap_i64 (by omega) (by omega)]; rfl, by rw [htk, recsB_app, recsB_one, recB, ← bl_append, ← bl_append]; simp only [allP, List.append_assoc, List.nil_append]; exact ⟨trivial, bl_isFlat _⟩⟩
  obtain rfl : i = x.2.2.2.length := by omega
  rw [decide_eq_false (show ¬ ((x.2.2.2.length : Nat) : Int) < ((x.2.2.2.length : Nat) : Int) by omega)]
  rw [List.take_of_length_le (Nat.le_refl _)] at hti ⊢
  rw [← hin]
  have hinl : (inB x).length ≤ 300000 := by rw [hin, List.length_append]; omega
  have hib := bl_length (inB x)
  conv => whnf
  rw [hib, show IntKind.i64.wrap (12 + (((inB x).length : Nat) : Int)) = ((12 + (inB x).length : Nat) : Int) from by rw [wrap_i64 (by omega) (by omega)]; omega]
  by_cases hlong : 60000 < 12 + (inB x).length
  · rw [decide_eq_true (show ((12 + (inB x).length : Nat) : Int) > 60000 by omega)]
    rcases hex with ⟨rfl, h⟩ | ⟨k, rfl, h⟩
    · omega
    conv => whnf
    exact ⟨rfl, rfl⟩
  rw [decide_eq_false (show ¬ ((12 + (inB x).length : Nat) : Int) > 60000 by omega)]
  rcases hex with ⟨rfl, h⟩ | ⟨k, rfl, h⟩
  case' inr => omega
  conv => whnf
  have hu : IntKind.u64.wrap b = ((u64N b : Nat) : Int) := by rw [IntKind.wrap_u64]; unfold u64N; omega
  rw [hu]
  refine ⟨([], u64N b), ?_⟩
  conv => whnf
  refine And.intro (by simp only [allP, List.nil_append, List.cons_append, true_and]; exact ⟨rfl, rfl, u64N_lt b, by decide⟩) ?_
  conv => whnf
  refine ⟨inB x, ?_⟩
  conv => whnf
  refine And.intro (by simp only [allP, List.nil_append, List.cons_append, true_and]; exact ⟨rfl, by omega⟩) ?_
  conv => whnf
  have hcl := crV_lt 0 (inB x)
  have h8 := beB_length 8 (u64N b)
  refine ⟨([] ++ beB 8 (u64N b), crV 0 (inB x)), ?_⟩
  conv => whnf
  refine And.intro (by simp only [allP, List.nil_append, List.cons_append, true_and]; exact ⟨rfl, rfl, by omega, by show (beB 8 (u64N b)).length + 4 ≤ _; rw [h8]; decide⟩) ?_
  conv => whnf
  refine And.intro (by simp only [allP, List.nil_append, List.cons_append, true_and]; rw [bl_length, bl_length, List.length_append]; simp only [List.nil_append, h8, beB_length]; omega) ?_
  conv => whnf
  exact ⟨rfl, by rw [← bl_append]; simp only [List.nil_append, List.append_assoc]; first | exact rfl | exact ⟨rfl, bl_isFlat _⟩⟩
theorem enc_sound : Sound Try.prog 26 cEnc := does_sound mixed tabOk_prog gEnc_ok Try.func26 enc_does
def gREnc : List (FuncId × Ctr) := (37, cRight) :: (gRef03 ++ (gSum ++ gF1))
theorem gREnc_ok : GamOk Try.prog gREnc := GamOk.cons (GamOk.app gRef03_ok (GamOk.app gSum_ok gF1_ok)) Try.func37 (by kernel_rfl) (by kernel_rfl) rright_sound
theorem renc_does : Does gREnc tab Try.f34 cEnc := by
  rintro ⟨g, b, x⟩ ⟨⟨hb, hp, he, hf, hn⟩, hg⟩
  have hex : (g = 1 ∧ rgt x = false) ∨ (rgt x = true ∧ ((g = 0 ∧ 12 + (inB x).length ≤ 60000) ∨ (∃ k, g = k + 2 ∧ 60000 < 12 + (inB x).length))) := by
    rcases g with _ | _ | g
    · exact Or.inr ⟨hg.1, Or.inl ⟨rfl, hg.2⟩⟩
    · exact Or.inl ⟨rfl, hg⟩
    · exact Or.inr ⟨hg.1, Or.inr ⟨g, rfl, hg.2⟩⟩
  clear hg
  have hbl := ll_length x.2.2.2
  conv => whnf
  refine And.intro (by first | exact Nat.le_of_ble_eq_true rfl | exact ⟨Nat.le_of_ble_eq_true rfl, rfl⟩ | exact rfl | decide | (simp [allP]; done)) ?_
  conv => whnf
  refine ⟨x, ?_⟩
  conv => whnf
  refine And.intro (by simp only [allP, List.nil_append, List.cons_append, true_and]; exact ⟨rfl, rfl, rfl, rfl, hn⟩) ?_
  conv => whnf
  rcases hex with ⟨rfl, hr⟩ | ⟨hr, hex⟩
  · rw [hr]
    conv => whnf
    exact ⟨rfl, rfl⟩
  rw [hr]
  conv => whnf
  obtain ⟨hr1, hr2⟩ := (rgt_iff x).1 hr
  have hv : ∀ n, i64R n → (vE (zig n)).length ≤ 10 := fun n h => by rw [vE_length]; exact vCnt_le _ (zig_lt h.1 h.2)
  have hv1 := hv _ hp
  have hv2 := hv _ he
  have hv3 := hv _ hf
  refine ⟨([], x.1), ?_⟩
  conv => whnf
  refine And.intro (by simp only [allP, List.nil_append, List.cons_append, true_and]; exact ⟨rfl, rfl, hp.1, hp.2, Nat.zero_le _⟩) ?_
  conv => whnf
  refine ⟨([] ++ vE (zig x.1), x.2.1), ?_⟩
  conv => whnf
  refine And.intro (by simp only [allP, List.nil_append, List.cons_append, true_and]; exact ⟨rfl, rfl, he.1, he.2, by show (vE (zig x.1)).length ≤ _; omega⟩) ?_
  conv => whnf
  refine ⟨(([] ++ vE (zig x.1)) ++ vE (zig x.2.1), x.2.2.1), ?_⟩
  conv => whnf
  refine And.intro (by simp only [allP, List.nil_append, List.cons_append, true_and]; exact ⟨rfl, rfl, hf.1, hf.2, by show (vE (zig x.1) ++ vE (zig x.2.1)).length ≤ _; rw [List.length_append]; omega⟩) ?_
  conv => whnf
  rw [hbl, wrap_u64n (by omega)]
  refine ⟨((([] ++ vE (zig x.1)) ++ vE (zig x.2.1)) ++ vE (zig x.2.2.1), x.2.2.2.length), ?_⟩
  conv => whnf
  refine And.intro (by simp only [allP, List.nil_append, List.cons_append, true_and]; exact ⟨rfl, rfl, by omega, by show ((vE (zig x.1) ++ vE (zig x.2.1)) ++ vE (zig x.2.2.1)).length ≤ _; rw [List.length_append, List.length_append]; omega⟩) ?_
  conv => whnf
  have hLb : ((([] ++ vE (zig x.1)) ++ vE (zig x.2.1)) ++ vE (zig x.2.2.1)) ++ vE x.2.2.2.length = hdB x.1 x.2.1 x.2.2.1 x.2.2.2.length := by simp [hdB]
  rw [hLb]
  have hhl : (hdB x.1 x.2.1 x.2.2.1 x.2.2.2.length).length ≤ 40 := by
    have := vCnt_le x.2.2.2.length (by omega)
    unfold hdB
    simp only [List.length_append]
    rw [vE_length x.2.2.2.length]
    omega
  have hin : inB x = hdB x.1 x.2.1 x.2.2.1 x.2.2.2.length ++ recsB x.2.2.2 := rfl
  generalize hdB x.1 x.2.1 x.2.2.1 x.2.2.2.length = hd at hhl hin ⊢
  refine ⟨{i : Nat // i ≤ x.2.2.2.length}, fun i => ⟨[(0, isI .i64 b), (3, .ptr 0 0), (6, .rowf 1), (7, isI .i64 i.1)], [(0, .box [isI .i64 x.1, isI .i64 x.2.1, isI .i64 x.2.2.1, .p false (.sl 1 (ll x.2.2.2))]), (1, .row 5 1 true false (bl (hd ++ recsB (x.2.2.2.take i.1))))], 99⟩, fun i => x.2.2.2.length - i.1, ⟨⟨0, by omega⟩, ?_⟩, ?_⟩
  · conv => whnf
    exact ⟨rfl, rfl, rfl, rfl, rfl, rfl, by rw [List.take_zero, recsB_nil, List.append_nil]; rfl⟩
  rintro ⟨i, hi⟩
  show aw _ _ _ _ _ _ ⟨[(0, isI .i64 b), (3, .ptr 0 0), (6, .rowf 1), (7, isI .i64 i)], [(0, .box [isI .i64 x.1, isI .i64 x.2.1, isI .i64 x.2.2.1, .p false (.sl 1 (ll x.2.2.2))]), (1, .row 5 1 true false (bl (hd ++ recsB (x.2.2.2.take i))))], 99⟩
  have hti : (recsB (x.2.2.2.take i)).length ≤ 1034 * 256 := by
    have := recsB_len (x.2.2.2.take i) fun n hn' => hr2 n (List.mem_of_mem_take hn')
    rw [List.length_take] at this
    omega
  conv => whnf
  rw [hbl]
  by_cases hi3 : i < x.2.2.2.length
  · rw [decide_eq_true (show (i : Int) < (x.2.2.2.length : Int) by omega)]
    conv => whnf
    refine And.intro (by simp only [allP, List.nil_append, List.cons_append, true_and]; rw [hbl]; omega) ?_
    conv => whnf
    rw [Int.toNat_natCast, ll_getD _ _ _ hi3]
    conv => whnf
    have hrl := hr2 _ (List.getElem_mem hi3)
    have htk : x.2.2.2.take (i + 1) = x.2.2.2.take i ++ [x.2.2.2[i]] := by rw [List.take_add_one, List.getElem?_eq_getElem hi3]; rfl
    have hgd := ll_getD x.2.2.2 i PV.nilsl hi3
    generalize x.2.2.2[i] = r at hrl htk hgd ⊢
    have hrb := bl_length r
    have hvl := vCnt_le r.length (by omega)
    have hvl2 := vE_length r.length
    rw [hrb, wrap_u64n (by omega)]
    refine ⟨r.length, ?_⟩
    conv => whnf
    refine And.intro (by simp only [allP, List.nil_append, List.cons_append, true_and]; exact ⟨rfl, by omega⟩) ?_
    conv => whnf
    refine And.intro (by simp only [allP, List.nil_append, List.cons_append, true_and]; rw [bl_length, bl_length, List.length_append]; omega) ?_
    conv => whnf
    refine And.intro (by simp only [allP, List.nil_append, List.cons_append, true_and]; rw [hbl]; omega) ?_
    conv => whnf
    rw [Int.toNat_natCast, hgd]
    conv => whnf
    refine And.intro (by simp only [allP, List.nil_append, List.cons_append, true_and]; rw [List.length_append, bl_length, bl_length, hrb, List.length_append]; omega) ?_
    conv => whnf
    refine ⟨⟨i + 1, by omega⟩, by simp only; omega, ?_⟩
    conv => whnf
    exact ⟨rfl, by rw [wrap_i64 (by omega) (by omega)]; rfl, rfl, rfl, rfl, rfl, by rw [htk, recsB_app, recsB_one, recB, ← bl_append, ← bl_append]; simp only [allP, List.append_assoc]; exact ⟨trivial, bl_isFlat _⟩⟩
  obtain rfl : i = x.2.2.2.length := by omega
  rw [decide_eq_false (show ¬ ((x.2.2.2.length : Nat) : Int) < ((x.2.2.2.length : Nat) : Int) by omega)]
  rw [List.take_of_length_le (Nat.le_refl _)] at hti ⊢
  rw [← hin]
  have hinl : (inB x).length ≤ 300000 := by rw [hin, List.length_append]; omega
  have hib := bl_length (inB x)
  conv => whnf
  rw [hib, show IntKind.i64.wrap (12 + (((inB x).length : Nat) : Int)) = ((12 + (inB x).length : Nat) : Int) from by rw [wrap_i64 (by omega) (by omega)]; omega]
  by_cases hlong : 60000 < 12 + (inB x).length
  · rw [decide_eq_true (show ((12 + (inB x).length : Nat) : Int) > 60000 by omega)]
    rcases hex with ⟨rfl, h⟩ | ⟨k, rfl, h⟩
    · omega
    conv => whnf
    exact ⟨rfl, rfl⟩
  rw [decide_eq_false (show ¬ ((12 + (inB x).length : Nat) : Int) > 60000 by omega)]
  rcases hex with ⟨rfl, h⟩ | ⟨k, rfl, h⟩
  case' inr => omega
  conv => whnf
  have hu : IntKind.u64.wrap b = ((u64N b : Nat) : Int) := by rw [IntKind.wrap_u64]; unfold u64N; omega
  rw [hu]
  refine ⟨([], u64N b, 8), ?_⟩
  conv => whnf
  refine And.intro (by simp only [allP, List.nil_append, List.cons_append, true_and]; exact ⟨rfl, rfl, rfl, by decide, u64N_lt b, by decide⟩) ?_
  conv => whnf
  refine ⟨(0, inB x), ?_⟩
  conv => whnf
  refine And.intro (by simp only [allP, List.nil_append, List.cons_append, true_and]; exact ⟨rfl, rfl, by decide, by omega⟩) ?_
  conv => whnf
  have hcl := crV_lt 0 (inB x)
  have h8 := beB_length 8 (u64N b)
  rw [wrap_u64n (by omega)]
  refine ⟨([] ++ beB 8 (u64N b), crV 0 (inB x), 4), ?_⟩
  conv => whnf
  refine And.intro (by simp only [allP, List.nil_append, List.cons_append, true_and]; exact ⟨rfl, rfl, rfl, by decide, by omega, by show (beB 8 (u64N b)).length + 4 ≤ _; rw [h8]; decide⟩) ?_
  conv => whnf
  refine And.intro (by simp only [allP, List.nil_append, List.cons_append, true_and]; rw [bl_length, bl_length, List.length_append]; simp only [List.nil_append, h8, beB_length]; omega) ?_
  conv => whnf
  exact ⟨rfl, by rw [← bl_append]; simp only [List.nil_append, List.append_assoc]; first | exact rfl | exact ⟨rfl, bl_isFlat _⟩⟩
theorem renc_sound : Sound Try.prog 34 cEnc := does_sound mixed tabOk_prog gREnc_ok Try.func34 renc_does
end Go.Proofs.Ytjgmlkogppibfaa.Ev
