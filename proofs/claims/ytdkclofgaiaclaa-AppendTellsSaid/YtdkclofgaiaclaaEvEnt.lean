/- Entries: copied, compared. No conditions. -/
import Derived.Test.YtdkclofgaiaclaaEvLow
namespace Go.Proofs.Ytdkclofgaiaclaa.Ev
open Go
set_option linter.unusedVariables false
set_option linter.unusedSimpArgs false
set_option maxRecDepth 100000
abbrev Ent : Type := Int × List UInt8
def eE (e : Ent) : PV := .agg [.int .i64 e.1, .sl 1 (bl e.2)]
def eL (l : List Ent) : List PV := l.map eE
theorem eL_length (l : List Ent) : (eL l).length = l.length := by simp [eL]
theorem eL_append (a b : List Ent) : eL (a ++ b) = eL a ++ eL b := by simp [eL]
theorem eL_take (a : List Ent) (n : Nat) : (eL a).take n = eL (a.take n) := by simp [eL, List.map_take]
theorem eL_drop (a : List Ent) (n : Nat) : (eL a).drop n = eL (a.drop n) := by simp [eL, List.map_drop]
theorem eL_getD (l : List Ent) (i : Nat) (z : PV) (h : i < l.length) : (eL l).getD i z = eE l[i] := map_getD eE l i z h
theorem eL_inj {a b : List Ent} (h : eL a = eL b) : a = b := (List.map_inj_right fun x y e => by
  unfold eE at e
  injection e with e
  injection e with e1 e2
  injection e1 with _ e1
  injection e2 with e2 _
  injection e2 with _ e2
  exact Prod.ext e1 (bl_inj e2)).1 h
/-- What is borne of entries: their rows are no longer than they may be. -/
def entsOk (l : List Ent) : Prop := l.length ≤ 2000000000 ∧ ∀ e ∈ l, e.2.length ≤ 140737488355328
theorem entsOk.take {l : List Ent} (h : entsOk l) (n : Nat) : entsOk (l.take n) := ⟨by rw [List.length_take]; have := h.1; omega, fun e he => h.2 e (List.mem_of_mem_take he)⟩
theorem entsOk.drop {l : List Ent} (h : entsOk l) (n : Nat) : entsOk (l.drop n) := ⟨by rw [List.length_drop]; have := h.1; omega, fun e he => h.2 e (List.mem_of_mem_drop he)⟩
abbrev cClone : Ctr := ⟨List UInt8, 0, fun l => [.p false (.sl 1 (bl l))], fun _ => [], fun l => l.length ≤ 140737488355328, fun _ => .rowf 0, fun l => [(0, .row 5 1 true false (bl l))]⟩
theorem clone_does : Does [] tab Try.f27 cClone := by
  rintro l (h1 : l.length ≤ 140737488355328)
  conv => whnf
  intro b hb
  cases b
  · conv => whnf
    refine And.intro (by simp only [allP, List.nil_append, List.cons_append, true_and]; rw [bl_length]; simp only [List.length_nil, Nat.zero_add]; omega) ?_
    conv => whnf
    exact ⟨rfl, bl_isFlat l⟩
  · conv => whnf
    exact hb rfl
theorem clone_sound : Sound Try.prog 27 cClone := does_sound mixed tabOk_prog GamOk.nil Try.func27 clone_does
abbrev cCopied : Ctr := ⟨List Ent, 0, fun l => [.p false (.sl 2 (eL l))], fun _ => [], fun l => entsOk l, fun _ => .rowf 0, fun l => [(0, .row 34 2 true false (eL l))]⟩
def gE1 : List (FuncId × Ctr) := (27, cClone) :: gLow
theorem gE1_ok : GamOk Try.prog gE1 := GamOk.cons gLow_ok Try.func27 (by kernel_rfl) (by kernel_rfl) clone_sound
theorem copied_does : Does gE1 tab Try.f22 cCopied := by
  rintro l (h1 : entsOk l)
  have hlen := eL_length l
  conv => whnf
  refine ⟨{i : Nat // i ≤ l.length}, fun i => ⟨[(3, .rowf 0), (6, .p false (.sl 2 (eL l))), (7, isI .i64 l.length), (8, isI .i64 i.1)], [(0, .row 34 2 true false (eL (l.take i.1)))], 99⟩, fun i => l.length - i.1, ⟨⟨0, by omega⟩, ?_⟩, ?_⟩
  · conv => whnf
    simp only [allP, pvle_refl, Int.natCast_zero, hlen, List.take_zero, and_self, and_true, true_and] <;> (try simp only [pvle, hlen, List.take_zero, and_self, and_true, true_and])
    rfl
  rintro ⟨i, hi⟩
  show aw _ _ _ _ _ _ ⟨[(3, .rowf 0), (6, .p false (.sl 2 (eL l))), (7, isI .i64 l.length), (8, isI .i64 i)], [(0, .row 34 2 true false (eL (l.take i)))], 99⟩
  conv => whnf
  split <;> rename_i hb <;> rw [hb] <;> conv => whnf
  · simp only [decide_eq_true_eq] at hb
    have hlt : i < l.length := by omega
    refine And.intro (by simp only [allP, List.nil_append, List.cons_append, true_and]; rw [hlen]; omega) ?_
    conv => whnf
    rw [Int.toNat_natCast, eL_getD l i _ hlt]
    have he := h1.2 l[i] (List.getElem_mem hlt)
    have htk : l.take (i + 1) = l.take i ++ [l[i]] := by rw [List.take_add_one, List.getElem?_eq_getElem hlt]; rfl
    obtain ⟨⟨t, d⟩, hee⟩ : ∃ e, l[i] = e := ⟨_, rfl⟩
    rw [hee] at he htk ⊢
    clear hee
    conv => whnf
    have hl10 := h1.1
    have hw : IntKind.i64.wrap ((i : Int) + 1) = ((i + 1 : Nat) : Int) := by rw [wrap_i64 (by omega) (by omega)]; rfl
    refine And.intro (by first | exact Nat.le_of_ble_eq_true rfl | exact ⟨Nat.le_of_ble_eq_true rfl, rfl⟩ | exact rfl | decide | (simp [allP]; done)) ?_
    conv => whnf
    refine And.intro (by first | exact Nat.le_of_ble_eq_true rfl | exact ⟨Nat.le_of_ble_eq_true rfl, rfl⟩ | exact rfl | decide | (simp [allP]; done)) ?_
    conv => whnf
    refine ⟨d, ?_⟩
    conv => whnf
    refine And.intro (by simp only [allP, List.nil_append, List.cons_append, true_and]; exact ⟨rfl, he⟩) ?_
    conv => whnf
    refine And.intro (by simp only [allP, List.nil_append, List.cons_append, true_and]; rw [eL_length, List.length_take]; simp only [List.length_cons, List.length_nil]; omega) ?_
    conv => whnf
    refine ⟨by rfl, ?_⟩
    conv => whnf
    refine ⟨⟨i + 1, by omega⟩, by simp only; omega, ?_⟩
    conv => whnf
    simp only [allP, pvle_refl, Int.natCast_zero, hw, htk, eL_append, and_self, and_true, true_and] <;> (try simp only [pvle, hw, htk, eL_append, and_self, and_true, true_and])
    rfl
  · simp only [decide_eq_false_iff_not] at hb
    have : i = l.length := by omega
    subst this
    rw [List.take_length]
theorem copied_sound : Sound Try.prog 22 cCopied := does_sound mixed tabOk_prog gE1_ok Try.func22 copied_does
theorem copyEntries_does : Does gE1 tab Try.f18 cCopied := by
  rintro l (h1 : entsOk l)
  have hlen := eL_length l
  conv => whnf
  refine ⟨{i : Nat // i ≤ l.length}, fun i => ⟨[(0, .p false (.sl 2 (eL l))), (3, .rowf 0), (4, isI .i64 i.1)], [(0, .row 34 2 true false (eL (l.take i.1)))], 99⟩, fun i => l.length - i.1, ⟨⟨0, by omega⟩, ?_⟩, ?_⟩
  · conv => whnf
    simp only [allP, pvle_refl, Int.natCast_zero, hlen, List.take_zero, and_self, and_true, true_and] <;> (try simp only [pvle, hlen, List.take_zero, and_self, and_true, true_and])
    rfl
  rintro ⟨i, hi⟩
  show aw _ _ _ _ _ _ ⟨[(0, .p false (.sl 2 (eL l))), (3, .rowf 0), (4, isI .i64 i)], [(0, .row 34 2 true false (eL (l.take i)))], 99⟩
  conv => whnf
  split <;> rename_i hb <;> rw [hb] <;> conv => whnf
  · simp only [decide_eq_true_eq, hlen] at hb
    have hlt : i < l.length := by omega
    have he := h1.2 l[i] (List.getElem_mem hlt)
    have htk : l.take (i + 1) = l.take i ++ [l[i]] := by rw [List.take_add_one, List.getElem?_eq_getElem hlt]; rfl
    have hl10 := h1.1
    have hw : IntKind.i64.wrap ((i : Int) + 1) = ((i + 1 : Nat) : Int) := by rw [wrap_i64 (by omega) (by omega)]; rfl
    have hg := eL_getD l i (.agg [.int .i64 0, .nilsl]) hlt
    obtain ⟨⟨t, d⟩, hee⟩ : ∃ e, l[i] = e := ⟨_, rfl⟩
    rw [hee] at he htk hg
    clear hee
    refine And.intro (by simp only [allP, List.nil_append, List.cons_append, true_and]; rw [hlen]; omega) ?_
    conv => whnf
    rw [Int.toNat_natCast, hg]
    conv => whnf
    refine And.intro (by simp only [allP, List.nil_append, List.cons_append, true_and]; rw [hlen]; omega) ?_
    conv => whnf
    rw [Int.toNat_natCast, hg]
    conv => whnf
    refine ⟨d, ?_⟩
    conv => whnf
    refine And.intro (by simp only [allP, List.nil_append, List.cons_append, true_and]; exact ⟨rfl, he⟩) ?_
    conv => whnf
    refine And.intro (by simp only [allP, List.nil_append, List.cons_append, true_and]; rw [eL_length, List.length_take]; simp only [List.length_cons, List.length_nil]; omega) ?_
    conv => whnf
    refine ⟨by rfl, ?_⟩
    conv => whnf
    refine ⟨⟨i + 1, by omega⟩, by simp only; omega, ?_⟩
    conv => whnf
    simp only [allP, pvle_refl, Int.natCast_zero, hw, htk, eL_append, and_self, and_true, true_and] <;> (try simp only [pvle, hw, htk, eL_append, and_self, and_true, true_and])
    rfl
  · simp only [decide_eq_false_iff_not, hlen] at hb
    have : i = l.length := by omega
    subst this
    rw [List.take_length]
theorem copyEntries_sound : Sound Try.prog 18 cCopied := does_sound mixed tabOk_prog gE1_ok Try.func18 copyEntries_does
abbrev cSameE : Ctr := ⟨List Ent × List Ent, 0, fun (a, b) => [.p false (.sl 2 (eL a)), .p false (.sl 2 (eL b))], fun _ => [], fun (a, b) => a.length ≤ 2000000000, fun (a, b) => isB (decide (a = b)), fun _ => []⟩
theorem sameEntries_does : Does gE1 tab Try.f14 cSameE := by
  rintro ⟨a, b⟩ (h1 : a.length ≤ 2000000000)
  have hla := eL_length a
  have hlb := eL_length b
  conv => whnf
  by_cases hne : a.length = b.length
  rotate_left
  · split <;> rename_i hb
    rotate_left
    · exfalso; (try simp [hla, hlb] at hb) <;> omega
    rw [hb]
    clear hb
    conv => whnf
    have : decide (a = b) = false := decide_eq_false fun h => hne (congrArg _ h)
    simp only [allP, pvle_refl, Int.natCast_zero, this, and_self, and_true, true_and] <;> (try simp only [pvle, this, and_self, and_true, true_and])
  split <;> rename_i hb
  · exfalso; (try simp [hla, hlb] at hb) <;> omega
  rw [hb]
  clear hb
  conv => whnf
  refine ⟨{i : Nat // i ≤ a.length ∧ a.take i = b.take i}, fun i => ⟨[(0, .p false (.sl 2 (eL a))), (1, .p false (.sl 2 (eL b))), (5, isI .i64 i.1)], [], 99⟩, fun i => a.length - i.1, ⟨⟨0, by simp⟩, ?_⟩, ?_⟩
  · conv => whnf
    simp only [allP, pvle_refl, Int.natCast_zero, and_self, and_true, true_and] <;> (try simp only [pvle, and_self, and_true, true_and])
  rintro ⟨i, hi, heq⟩
  show aw _ _ _ _ _ _ ⟨[(0, .p false (.sl 2 (eL a))), (1, .p false (.sl 2 (eL b))), (5, isI .i64 i)], [], 99⟩
  conv => whnf
  split <;> rename_i hb <;> rw [hb] <;> conv => whnf
  · simp only [decide_eq_true_eq, hla] at hb
    have hlt : i < a.length := by omega
    have hltb : i < b.length := by omega
    have hga := eL_getD a i (.agg [.int .i64 0, .nilsl]) hlt
    have hgb := eL_getD b i (.agg [.int .i64 0, .nilsl]) hltb
    have hw : IntKind.i64.wrap ((i : Int) + 1) = ((i + 1 : Nat) : Int) := by rw [wrap_i64 (by omega) (by omega)]; rfl
    have hta : a.take (i + 1) = a.take i ++ [a[i]] := by rw [List.take_add_one, List.getElem?_eq_getElem hlt]; rfl
    have htb : b.take (i + 1) = b.take i ++ [b[i]] := by rw [List.take_add_one, List.getElem?_eq_getElem hltb]; rfl
    have hno : a[i] ≠ b[i] → decide (a = b) = false := fun h => decide_eq_false fun he => by subst he; exact h rfl
    have hyes : a[i] = b[i] → a.take (i + 1) = b.take (i + 1) := fun h => by rw [hta, htb, heq, h]
    obtain ⟨⟨t, d⟩, hea⟩ : ∃ e, a[i] = e := ⟨_, rfl⟩
    obtain ⟨⟨t2, d2⟩, heb⟩ : ∃ e, b[i] = e := ⟨_, rfl⟩
    rw [hea] at hga
    rw [heb] at hgb
    rw [hea, heb] at hno hyes
    clear hea heb hta htb
    refine And.intro (by simp only [allP, List.nil_append, List.cons_append, true_and]; rw [hla]; omega) ?_
    conv => whnf
    rw [Int.toNat_natCast, hga]
    conv => whnf
    refine And.intro (by simp only [allP, List.nil_append, List.cons_append, true_and]; rw [hlb]; omega) ?_
    conv => whnf
    rw [Int.toNat_natCast, hgb]
    conv => whnf
    cases htt : t != t2
    · conv => whnf
      refine And.intro (by simp only [allP, List.nil_append, List.cons_append, true_and]; rw [hla]; omega) ?_
      conv => whnf
      rw [Int.toNat_natCast, hga]
      conv => whnf
      refine And.intro (by simp only [allP, List.nil_append, List.cons_append, true_and]; rw [hlb]; omega) ?_
      conv => whnf
      rw [Int.toNat_natCast, hgb]
      conv => whnf
      refine ⟨(d, d2), ?_⟩
      conv => whnf
      refine And.intro (by simp only [allP, List.nil_append, List.cons_append, true_and]; exact ⟨rfl, rfl, trivial⟩) ?_
      conv => whnf
      have ht : t = t2 := by simpa using htt
      cases hd : decide (d = d2)
      · refine ⟨by rfl, ?_⟩
        conv => whnf
        simp only [decide_eq_false_iff_not] at hd
        have hf := hno fun h => hd (Prod.mk.inj h).2
        simp only [allP, pvle_refl, Int.natCast_zero, hf, and_self, and_true, true_and] <;> (try simp only [pvle, hf, and_self, and_true, true_and])
      · refine ⟨by rfl, ?_⟩
        conv => whnf
        simp only [decide_eq_true_eq] at hd
        refine ⟨⟨i + 1, by omega, hyes (by rw [ht, hd])⟩, by simp only; omega, ?_⟩
        conv => whnf
        simp only [allP, pvle_refl, Int.natCast_zero, hw, and_self, and_true, true_and] <;> (try simp only [pvle, hw, and_self, and_true, true_and])
    · refine ⟨by rfl, ?_⟩
      conv => whnf
      have ht : t ≠ t2 := by simpa using htt
      have hf := hno fun h => ht (Prod.mk.inj h).1
      simp only [allP, pvle_refl, Int.natCast_zero, hf, and_self, and_true, true_and] <;> (try simp only [pvle, hf, and_self, and_true, true_and])
  · simp only [decide_eq_false_iff_not, hla] at hb
    have : i = a.length := by omega
    subst this
    rw [List.take_length, hne, List.take_length] at heq
    rw [decide_eq_true heq]
theorem sameEntries_sound : Sound Try.prog 14 cSameE := does_sound mixed tabOk_prog gE1_ok Try.func14 sameEntries_does
def gEnt : List (FuncId × Ctr) := (22, cCopied) :: (18, cCopied) :: (14, cSameE) :: gE1
theorem gEnt_ok : GamOk Try.prog gEnt := GamOk.cons (GamOk.cons (GamOk.cons gE1_ok Try.func14 (by kernel_rfl) (by kernel_rfl) sameEntries_sound) Try.func18 (by kernel_rfl) (by kernel_rfl) copyEntries_sound) Try.func22 (by kernel_rfl) (by kernel_rfl) copied_sound
end Go.Proofs.Ytdkclofgaiaclaa.Ev
