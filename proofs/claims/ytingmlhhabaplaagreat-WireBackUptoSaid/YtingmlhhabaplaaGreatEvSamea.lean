/- Two things, the same? rows, texts, places, batches, commands, answers. No conditions. -/
import Derived.Test.YtingmlhhabaplaaGreatEvLow
import Derived.Test.YtingmlhhabaplaaGreatCtr
namespace Go.Proofs.YtingmlhhabaplaaGreat.Ev
open Go
set_option linter.unusedVariables false
set_option linter.unusedSimpArgs false
set_option maxRecDepth 100000
set_option maxHeartbeats 4000000
theorem strL (a b : ByteArray) : a.data.toList = b.data.toList ↔ a = b := ⟨fun h => ByteArray.ext (Array.ext' h), fun h => by rw [h]⟩
theorem strNe {a b : ByteArray} (h : a.data.toList = b.data.toList) : a = b := (strL a b).1 h
theorem ffOf {g : Bool} {p : Prop} (hg : g = true ↔ p) (h : ¬ p) : g = false := Bool.eq_false_iff.2 fun q => h (hg.1 q)
def gSm0 : List (FuncId × Ctr) := gL1
theorem gSm0_ok : GamOk Tryz.prog gSm0 := gL1_ok
abbrev cKSameBytes : Ctr := ⟨Bool × (List UInt8) × (List UInt8), 0, fun (g, a, b) => [.p false (.sl 1 (bl a)), .p false (.sl 1 (bl b))], fun _ => [], fun (g, a, b) => (g = true ↔ a = b) ∧ ((a.length * 1 ≤ 140737488351232 ∧ a.length ≤ 9223372036854775807 ∧ ∀ e1 ∈ a, True)), fun (g, a, b) => isB g, fun _ => []⟩
theorem KSameBytes_does : Does gSm0 tab Tryz.f111 cKSameBytes := by
  rintro ⟨g, a, b⟩ ⟨hg, h1, -, -⟩
  have hla := bl_length a
  have hlb := bl_length b
  conv => whnf
  rw [hla, hlb]
  by_cases hlen : a.length = b.length
  · rw [show ((a.length : Int) != (b.length : Int)) = false from by rw [hlen]; exact bne_self_eq_false _]
    conv => whnf
    refine ⟨{i : Nat // i ≤ a.length ∧ a.take i = b.take i}, fun i => ⟨[(0, .p false (.sl 1 (bl a))), (1, .p false (.sl 1 (bl b))), (5, isI .i64 i.1)], [], 99⟩, fun i => a.length - i.1, ⟨⟨0, by omega, rfl⟩, ?_⟩, ?_⟩
    · conv => whnf
      exact ⟨rfl, rfl, rfl⟩
    rintro ⟨i, hi, ht⟩
    show aw _ _ _ _ _ _ ⟨[(0, .p false (.sl 1 (bl a))), (1, .p false (.sl 1 (bl b))), (5, isI .i64 i)], [], 99⟩
    conv => whnf
    rw [hla]
    by_cases hia : i < a.length
    · have hib : i < b.length := by omega
      rw [decide_eq_true (show (i : Int) < (a.length : Int) by omega)]
      conv => whnf
      refine And.intro (by simp only [allP, List.nil_append, List.cons_append, true_and]; rw [hla]; omega) ?_
      conv => whnf
      rw [Int.toNat_natCast, bl_getD]
      conv => whnf
      refine And.intro (by simp only [allP, List.nil_append, List.cons_append, true_and]; rw [hlb]; omega) ?_
      conv => whnf
      rw [Int.toNat_natCast, bl_getD]
      conv => whnf
      have ta : a.take (i + 1) = a.take i ++ [a.getD i 0] := by rw [List.take_add_one, List.getD_eq_getElem?_getD, List.getElem?_eq_getElem hia]; rfl
      have tb : b.take (i + 1) = b.take i ++ [b.getD i 0] := by rw [List.take_add_one, List.getD_eq_getElem?_getD, List.getElem?_eq_getElem hib]; rfl
      generalize hca : a.getD i 0 = ca at ta ⊢
      generalize hcb : b.getD i 0 = cb at tb ⊢
      by_cases hc : ca = cb
      · subst hc
        rw [show (((ca.toNat : Nat) : Int) != ((ca.toNat : Nat) : Int)) = false from bne_self_eq_false _]
        conv => whnf
        refine ⟨by rfl, ?_⟩
        (set_option smartUnfolding false in conv => whnf)
        refine ⟨⟨i + 1, by omega, by rw [ta, tb, ht]⟩, by simp only; omega, ?_⟩
        conv => whnf
        exact ⟨rfl, rfl, by rw [wrap_i64 (by omega) (by omega)]; rfl⟩
      · rw [show (((ca.toNat : Nat) : Int) != ((cb.toNat : Nat) : Int)) = true from by rw [bne_iff_ne]; intro e; exact hc (UInt8.toNat_inj.1 (Int.ofNat.inj e))]
        conv => whnf
        refine ⟨by rfl, ?_⟩
        (set_option smartUnfolding false in conv => whnf)
        have hab : a ≠ b := fun e => by subst e; exact hc (hca.symm.trans hcb)
        rw [ffOf hg hab]
    · rw [decide_eq_false (show ¬ (i : Int) < (a.length : Int) by omega)]
      conv => whnf
      have hab : a = b := by
        rw [List.take_of_length_le (by omega), List.take_of_length_le (by omega)] at ht
        exact ht
      rw [hg.2 hab]
  · rw [show ((a.length : Int) != (b.length : Int)) = true from by rw [bne_iff_ne]; omega]
    conv => whnf
    rw [ffOf hg fun e => hlen (by rw [e])]
theorem KSameBytes_sound : Sound Tryz.prog 111 cKSameBytes := does_sound mixed tabOk_prog gSm0_ok Tryz.func111 KSameBytes_does
def gSm1 : List (FuncId × Ctr) := (111, cKSameBytes) :: gSm0
theorem gSm1_ok : GamOk Tryz.prog gSm1 := GamOk.cons gSm0_ok Tryz.func111 (by kernel_rfl) (by kernel_rfl) KSameBytes_sound
abbrev cKSameRecords : Ctr := ⟨Bool × (List (List UInt8)) × (List (List UInt8)), 0, fun (g, a, b) => [.p false (.sl 1 (a.map fun x => elOf [.sl 1 (bl x)])), .p false (.sl 1 (b.map fun x => elOf [.sl 1 (bl x)]))], fun _ => [], fun (g, a, b) => (g = true ↔ a = b) ∧ ((a.length * 24 ≤ 140737488351232 ∧ a.length ≤ 9223372036854775807 ∧ ∀ e1 ∈ a, (e1.length * 1 ≤ 140737488351232 ∧ e1.length ≤ 9223372036854775807 ∧ ∀ e2 ∈ e1, True))), fun (g, a, b) => isB g, fun _ => []⟩
theorem KSameRecords_does : Does gSm1 tab Tryz.f53 cKSameRecords := by
  rintro ⟨g, a, b⟩ ⟨hg, h1, h1', h2⟩
  have hla : (a.map fun x => elOf [.sl 1 (bl x)]).length = a.length := List.length_map ..
  have hlb : (b.map fun x => elOf [.sl 1 (bl x)]).length = b.length := List.length_map ..
  conv => whnf
  rw [hla, hlb]
  by_cases hlen : a.length = b.length
  · rw [show ((a.length : Int) != (b.length : Int)) = false from by rw [hlen]; exact bne_self_eq_false _]
    conv => whnf
    refine ⟨{i : Nat // i ≤ a.length ∧ a.take i = b.take i}, fun i => ⟨[(0, .p false (.sl 1 (a.map fun x => elOf [.sl 1 (bl x)]))), (1, .p false (.sl 1 (b.map fun x => elOf [.sl 1 (bl x)]))), (5, isI .i64 i.1)], [], 99⟩, fun i => a.length - i.1, ⟨⟨0, by omega, rfl⟩, ?_⟩, ?_⟩
    · conv => whnf
      exact ⟨rfl, rfl, rfl⟩
    rintro ⟨i, hi, ht⟩
    show aw _ _ _ _ _ _ ⟨[(0, .p false (.sl 1 (a.map fun x => elOf [.sl 1 (bl x)]))), (1, .p false (.sl 1 (b.map fun x => elOf [.sl 1 (bl x)]))), (5, isI .i64 i)], [], 99⟩
    conv => whnf
    rw [hla]
    by_cases hia : i < a.length
    · have hib : i < b.length := by omega
      rw [decide_eq_true (show (i : Int) < (a.length : Int) by omega)]
      conv => whnf
      refine And.intro (by simp only [allP, List.nil_append, List.cons_append, true_and]; rw [hla]; omega) ?_
      conv => whnf
      rw [Int.toNat_natCast, map_getD (fun x => elOf [.sl 1 (bl x)]) a i _ hia]
      conv => whnf
      refine And.intro (by simp only [allP, List.nil_append, List.cons_append, true_and]; rw [hlb]; omega) ?_
      conv => whnf
      rw [Int.toNat_natCast, map_getD (fun x => elOf [.sl 1 (bl x)]) b i _ hib]
      conv => whnf
      have ta : a.take (i + 1) = a.take i ++ [a[i]] := by rw [List.take_add_one, List.getElem?_eq_getElem hia]; rfl
      have tb : b.take (i + 1) = b.take i ++ [b[i]] := by rw [List.take_add_one, List.getElem?_eq_getElem hib]; rfl
      have hok := h2 _ (List.getElem_mem hia)
      have hab0 : a[i] ≠ b[i] → a ≠ b := fun h e => by subst e; exact h rfl
      generalize hxa : a[i] = xa at ta hok hab0 ⊢
      generalize hxb : b[i] = xb at tb hab0 ⊢
      by_cases hc : xa = xb
      · refine ⟨(true, xa, xb), ?_⟩
        conv => whnf
        refine And.intro (by simp only [allP, List.nil_append, List.cons_append, true_and]; repeat' (first | exact iff_of_true rfl hc | exact iff_of_true trivial hc | exact hok | rfl | exact trivial | refine And.intro ?_ ?_)) ?_
        conv => whnf
        refine ⟨by rfl, ?_⟩
        (set_option smartUnfolding false in conv => whnf)
        refine ⟨⟨i + 1, by omega, by rw [ta, tb, ht, hc]⟩, by simp only; omega, ?_⟩
        conv => whnf
        exact ⟨rfl, rfl, by rw [wrap_i64 (by omega) (by omega)]; rfl⟩
      · refine ⟨(false, xa, xb), ?_⟩
        conv => whnf
        refine And.intro (by simp only [allP, List.nil_append, List.cons_append, true_and]; repeat' (first | exact iff_of_false Bool.false_ne_true hc | exact iff_of_false id hc | exact hok | rfl | exact trivial | refine And.intro ?_ ?_)) ?_
        conv => whnf
        refine ⟨by rfl, ?_⟩
        (set_option smartUnfolding false in conv => whnf)
        rw [ffOf hg (hab0 hc)]
    · rw [decide_eq_false (show ¬ (i : Int) < (a.length : Int) by omega)]
      conv => whnf
      have hab : a = b := by
        rw [List.take_of_length_le (by omega), List.take_of_length_le (by omega)] at ht
        exact ht
      rw [hg.2 hab]
  · rw [show ((a.length : Int) != (b.length : Int)) = true from by rw [bne_iff_ne]; omega]
    conv => whnf
    rw [ffOf hg fun e => hlen (by rw [e])]
theorem KSameRecords_sound : Sound Tryz.prog 53 cKSameRecords := does_sound mixed tabOk_prog gSm1_ok Tryz.func53 KSameRecords_does
def gSm2 : List (FuncId × Ctr) := (53, cKSameRecords) :: gSm1
theorem gSm2_ok : GamOk Tryz.prog gSm2 := GamOk.cons gSm1_ok Tryz.func53 (by kernel_rfl) (by kernel_rfl) KSameRecords_sound
abbrev cLSameLists : Ctr := ⟨Bool × (List (List UInt8)) × (List (List UInt8)), 0, fun (g, a, b) => [.p false (.sl 1 (a.map fun x => elOf [.sl 1 (bl x)])), .p false (.sl 1 (b.map fun x => elOf [.sl 1 (bl x)]))], fun _ => [], fun (g, a, b) => (g = true ↔ a = b) ∧ ((a.length * 24 ≤ 140737488351232 ∧ a.length ≤ 9223372036854775807 ∧ ∀ e1 ∈ a, (e1.length * 1 ≤ 140737488351232 ∧ e1.length ≤ 9223372036854775807 ∧ ∀ e2 ∈ e1, True))), fun (g, a, b) => isB g, fun _ => []⟩
theorem LSameLists_does : Does gSm2 tab Tryz.f72 cLSameLists := by
  rintro ⟨g, a, b⟩ ⟨hg, h1, h1', h2⟩
  have hla : (a.map fun x => elOf [.sl 1 (bl x)]).length = a.length := List.length_map ..
  have hlb : (b.map fun x => elOf [.sl 1 (bl x)]).length = b.length := List.length_map ..
  conv => whnf
  rw [hla, hlb]
  by_cases hlen : a.length = b.length
  · rw [show ((a.length : Int) != (b.length : Int)) = false from by rw [hlen]; exact bne_self_eq_false _]
    conv => whnf
    refine ⟨{i : Nat // i ≤ a.length ∧ a.take i = b.take i}, fun i => ⟨[(0, .p false (.sl 1 (a.map fun x => elOf [.sl 1 (bl x)]))), (1, .p false (.sl 1 (b.map fun x => elOf [.sl 1 (bl x)]))), (5, isI .i64 i.1)], [], 99⟩, fun i => a.length - i.1, ⟨⟨0, by omega, rfl⟩, ?_⟩, ?_⟩
    · conv => whnf
      exact ⟨rfl, rfl, rfl⟩
    rintro ⟨i, hi, ht⟩
    show aw _ _ _ _ _ _ ⟨[(0, .p false (.sl 1 (a.map fun x => elOf [.sl 1 (bl x)]))), (1, .p false (.sl 1 (b.map fun x => elOf [.sl 1 (bl x)]))), (5, isI .i64 i)], [], 99⟩
    conv => whnf
    rw [hla]
    by_cases hia : i < a.length
    · have hib : i < b.length := by omega
      rw [decide_eq_true (show (i : Int) < (a.length : Int) by omega)]
      conv => whnf
      refine And.intro (by simp only [allP, List.nil_append, List.cons_append, true_and]; rw [hla]; omega) ?_
      conv => whnf
      rw [Int.toNat_natCast, map_getD (fun x => elOf [.sl 1 (bl x)]) a i _ hia]
      conv => whnf
      refine And.intro (by simp only [allP, List.nil_append, List.cons_append, true_and]; rw [hlb]; omega) ?_
      conv => whnf
      rw [Int.toNat_natCast, map_getD (fun x => elOf [.sl 1 (bl x)]) b i _ hib]
      conv => whnf
      have ta : a.take (i + 1) = a.take i ++ [a[i]] := by rw [List.take_add_one, List.getElem?_eq_getElem hia]; rfl
      have tb : b.take (i + 1) = b.take i ++ [b[i]] := by rw [List.take_add_one, List.getElem?_eq_getElem hib]; rfl
      have hok := h2 _ (List.getElem_mem hia)
      have hab0 : a[i] ≠ b[i] → a ≠ b := fun h e => by subst e; exact h rfl
      generalize hxa : a[i] = xa at ta hok hab0 ⊢
      generalize hxb : b[i] = xb at tb hab0 ⊢
      by_cases hc : xa = xb
      · refine ⟨(xa, xb), ?_⟩
        conv => whnf
        refine And.intro (by simp only [allP, List.nil_append, List.cons_append, true_and]; repeat' (first | exact hok | rfl | exact trivial | refine And.intro ?_ ?_)) ?_
        conv => whnf
        rw [decide_eq_true hc]
        conv => whnf
        refine ⟨by rfl, ?_⟩
        (set_option smartUnfolding false in conv => whnf)
        refine ⟨⟨i + 1, by omega, by rw [ta, tb, ht, hc]⟩, by simp only; omega, ?_⟩
        conv => whnf
        exact ⟨rfl, rfl, by rw [wrap_i64 (by omega) (by omega)]; rfl⟩
      · refine ⟨(xa, xb), ?_⟩
        conv => whnf
        refine And.intro (by simp only [allP, List.nil_append, List.cons_append, true_and]; repeat' (first | exact hok | rfl | exact trivial | refine And.intro ?_ ?_)) ?_
        conv => whnf
        rw [decide_eq_false hc]
        conv => whnf
        refine ⟨by rfl, ?_⟩
        (set_option smartUnfolding false in conv => whnf)
        rw [ffOf hg (hab0 hc)]
    · rw [decide_eq_false (show ¬ (i : Int) < (a.length : Int) by omega)]
      conv => whnf
      have hab : a = b := by
        rw [List.take_of_length_le (by omega), List.take_of_length_le (by omega)] at ht
        exact ht
      rw [hg.2 hab]
  · rw [show ((a.length : Int) != (b.length : Int)) = true from by rw [bne_iff_ne]; omega]
    conv => whnf
    rw [ffOf hg fun e => hlen (by rw [e])]
theorem LSameLists_sound : Sound Tryz.prog 72 cLSameLists := does_sound mixed tabOk_prog gSm2_ok Tryz.func72 LSameLists_does
def gSm3 : List (FuncId × Ctr) := (72, cLSameLists) :: gSm2
theorem gSm3_ok : GamOk Tryz.prog gSm3 := GamOk.cons gSm2_ok Tryz.func72 (by kernel_rfl) (by kernel_rfl) LSameLists_sound
abbrev cKSameTexts : Ctr := ⟨Bool × (List ByteArray) × (List ByteArray), 0, fun (g, a, b) => [.p false (.sl 1 (a.map fun x => elOf [.str x])), .p false (.sl 1 (b.map fun x => elOf [.str x]))], fun _ => [], fun (g, a, b) => (g = true ↔ a = b) ∧ ((a.length * 16 ≤ 140737488351232 ∧ a.length ≤ 9223372036854775807 ∧ ∀ e1 ∈ a, e1.size ≤ 140737488351232)), fun (g, a, b) => isB g, fun _ => []⟩
theorem KSameTexts_does : Does gSm3 tab Tryz.f210 cKSameTexts := by
  rintro ⟨g, a, b⟩ ⟨hg, h1, h1', h2⟩
  have hla : (a.map fun x => elOf [.str x]).length = a.length := List.length_map ..
  have hlb : (b.map fun x => elOf [.str x]).length = b.length := List.length_map ..
  conv => whnf
  rw [hla, hlb]
  by_cases hlen : a.length = b.length
  · rw [show ((a.length : Int) != (b.length : Int)) = false from by rw [hlen]; exact bne_self_eq_false _]
    conv => whnf
    refine ⟨{i : Nat // i ≤ a.length ∧ a.take i = b.take i}, fun i => ⟨[(0, .p false (.sl 1 (a.map fun x => elOf [.str x]))), (1, .p false (.sl 1 (b.map fun x => elOf [.str x]))), (5, isI .i64 i.1)], [], 99⟩, fun i => a.length - i.1, ⟨⟨0, by omega, rfl⟩, ?_⟩, ?_⟩
    · conv => whnf
      exact ⟨rfl, rfl, rfl⟩
    rintro ⟨i, hi, ht⟩
    show aw _ _ _ _ _ _ ⟨[(0, .p false (.sl 1 (a.map fun x => elOf [.str x]))), (1, .p false (.sl 1 (b.map fun x => elOf [.str x]))), (5, isI .i64 i)], [], 99⟩
    conv => whnf
    rw [hla]
    by_cases hia : i < a.length
    · have hib : i < b.length := by omega
      rw [decide_eq_true (show (i : Int) < (a.length : Int) by omega)]
      conv => whnf
      refine And.intro (by simp only [allP, List.nil_append, List.cons_append, true_and]; rw [hla]; omega) ?_
      conv => whnf
      rw [Int.toNat_natCast, map_getD (fun x => elOf [.str x]) a i _ hia]
      conv => whnf
      refine And.intro (by simp only [allP, List.nil_append, List.cons_append, true_and]; rw [hlb]; omega) ?_
      conv => whnf
      rw [Int.toNat_natCast, map_getD (fun x => elOf [.str x]) b i _ hib]
      conv => whnf
      have ta : a.take (i + 1) = a.take i ++ [a[i]] := by rw [List.take_add_one, List.getElem?_eq_getElem hia]; rfl
      have tb : b.take (i + 1) = b.take i ++ [b[i]] := by rw [List.take_add_one, List.getElem?_eq_getElem hib]; rfl
      have hok := h2 _ (List.getElem_mem hia)
      have hab0 : a[i] ≠ b[i] → a ≠ b := fun h e => by subst e; exact h rfl
      generalize hxa : a[i] = xa at ta hok hab0 ⊢
      generalize hxb : b[i] = xb at tb hab0 ⊢
      by_cases hc : xa = xb
      · rw [show (xa.data.toList == xb.data.toList) = true from (by rw [hc]; simp)]
        conv => whnf
        refine ⟨by rfl, ?_⟩
        (set_option smartUnfolding false in conv => whnf)
        refine ⟨⟨i + 1, by omega, by rw [ta, tb, ht, hc]⟩, by simp only; omega, ?_⟩
        conv => whnf
        exact ⟨rfl, rfl, by rw [wrap_i64 (by omega) (by omega)]; rfl⟩
      · rw [show (xa.data.toList == xb.data.toList) = false from (by rw [beq_eq_false_iff_ne]; intro e; exact hc (strNe e))]
        conv => whnf
        refine ⟨by rfl, ?_⟩
        (set_option smartUnfolding false in conv => whnf)
        rw [ffOf hg (hab0 hc)]
    · rw [decide_eq_false (show ¬ (i : Int) < (a.length : Int) by omega)]
      conv => whnf
      have hab : a = b := by
        rw [List.take_of_length_le (by omega), List.take_of_length_le (by omega)] at ht
        exact ht
      rw [hg.2 hab]
  · rw [show ((a.length : Int) != (b.length : Int)) = true from by rw [bne_iff_ne]; omega]
    conv => whnf
    rw [ffOf hg fun e => hlen (by rw [e])]
theorem KSameTexts_sound : Sound Tryz.prog 210 cKSameTexts := does_sound mixed tabOk_prog gSm3_ok Tryz.func210 KSameTexts_does
def gSm4 : List (FuncId × Ctr) := (210, cKSameTexts) :: gSm3
theorem gSm4_ok : GamOk Tryz.prog gSm4 := GamOk.cons gSm3_ok Tryz.func210 (by kernel_rfl) (by kernel_rfl) KSameTexts_sound
abbrev cLSameTexts : Ctr := ⟨Bool × (List ByteArray) × (List ByteArray), 0, fun (g, a, b) => [.p false (.sl 1 (a.map fun x => elOf [.str x])), .p false (.sl 1 (b.map fun x => elOf [.str x]))], fun _ => [], fun (g, a, b) => (g = true ↔ a = b) ∧ ((a.length * 16 ≤ 140737488351232 ∧ a.length ≤ 9223372036854775807 ∧ ∀ e1 ∈ a, e1.size ≤ 140737488351232)), fun (g, a, b) => isB g, fun _ => []⟩
theorem LSameTexts_does : Does gSm4 tab Tryz.f66 cLSameTexts := by
  rintro ⟨g, a, b⟩ ⟨hg, h1, h1', h2⟩
  have hla : (a.map fun x => elOf [.str x]).length = a.length := List.length_map ..
  have hlb : (b.map fun x => elOf [.str x]).length = b.length := List.length_map ..
  conv => whnf
  rw [hla, hlb]
  by_cases hlen : a.length = b.length
  · rw [show ((a.length : Int) != (b.length : Int)) = false from by rw [hlen]; exact bne_self_eq_false _]
    conv => whnf
    refine ⟨{i : Nat // i ≤ a.length ∧ a.take i = b.take i}, fun i => ⟨[(0, .p false (.sl 1 (a.map fun x => elOf [.str x]))), (1, .p false (.sl 1 (b.map fun x => elOf [.str x]))), (5, isI .i64 i.1)], [], 99⟩, fun i => a.length - i.1, ⟨⟨0, by omega, rfl⟩, ?_⟩, ?_⟩
    · conv => whnf
      exact ⟨rfl, rfl, rfl⟩
    rintro ⟨i, hi, ht⟩
    show aw _ _ _ _ _ _ ⟨[(0, .p false (.sl 1 (a.map fun x => elOf [.str x]))), (1, .p false (.sl 1 (b.map fun x => elOf [.str x]))), (5, isI .i64 i)], [], 99⟩
    conv => whnf
    rw [hla]
    by_cases hia : i < a.length
    · have hib : i < b.length := by omega
      rw [decide_eq_true (show (i : Int) < (a.length : Int) by omega)]
      conv => whnf
      refine And.intro (by simp only [allP, List.nil_append, List.cons_append, true_and]; rw [hla]; omega) ?_
      conv => whnf
      rw [Int.toNat_natCast, map_getD (fun x => elOf [.str x]) a i _ hia]
      conv => whnf
      refine And.intro (by simp only [allP, List.nil_append, List.cons_append, true_and]; rw [hlb]; omega) ?_
      conv => whnf
      rw [Int.toNat_natCast, map_getD (fun x => elOf [.str x]) b i _ hib]
      conv => whnf
      have ta : a.take (i + 1) = a.take i ++ [a[i]] := by rw [List.take_add_one, List.getElem?_eq_getElem hia]; rfl
      have tb : b.take (i + 1) = b.take i ++ [b[i]] := by rw [List.take_add_one, List.getElem?_eq_getElem hib]; rfl
      have hok := h2 _ (List.getElem_mem hia)
      have hab0 : a[i] ≠ b[i] → a ≠ b := fun h e => by subst e; exact h rfl
      generalize hxa : a[i] = xa at ta hok hab0 ⊢
      generalize hxb : b[i] = xb at tb hab0 ⊢
      by_cases hc : xa = xb
      · rw [show (xa.data.toList == xb.data.toList) = true from (by rw [hc]; simp)]
        conv => whnf
        refine ⟨by rfl, ?_⟩
        (set_option smartUnfolding false in conv => whnf)
        refine ⟨⟨i + 1, by omega, by rw [ta, tb, ht, hc]⟩, by simp only; omega, ?_⟩
        conv => whnf
        exact ⟨rfl, rfl, by rw [wrap_i64 (by omega) (by omega)]; rfl⟩
      · rw [show (xa.data.toList == xb.data.toList) = false from (by rw [beq_eq_false_iff_ne]; intro e; exact hc (strNe e))]
        conv => whnf
        refine ⟨by rfl, ?_⟩
        (set_option smartUnfolding false in conv => whnf)
        rw [ffOf hg (hab0 hc)]
    · rw [decide_eq_false (show ¬ (i : Int) < (a.length : Int) by omega)]
      conv => whnf
      have hab : a = b := by
        rw [List.take_of_length_le (by omega), List.take_of_length_le (by omega)] at ht
        exact ht
      rw [hg.2 hab]
  · rw [show ((a.length : Int) != (b.length : Int)) = true from by rw [bne_iff_ne]; omega]
    conv => whnf
    rw [ffOf hg fun e => hlen (by rw [e])]
theorem LSameTexts_sound : Sound Tryz.prog 66 cLSameTexts := does_sound mixed tabOk_prog gSm4_ok Tryz.func66 LSameTexts_does
def gSm5 : List (FuncId × Ctr) := (66, cLSameTexts) :: gSm4
theorem gSm5_ok : GamOk Tryz.prog gSm5 := GamOk.cons gSm4_ok Tryz.func66 (by kernel_rfl) (by kernel_rfl) LSameTexts_sound
theorem eqS55 (x y : S55) (h : ((x.1.data.toList == y.1.data.toList) && ((x.2 == y.2) && true)) = true) : x = y := by
  obtain ⟨a1, a2⟩ := x
  obtain ⟨a3, a4⟩ := y
  simp only [Bool.and_eq_true, beq_iff_eq, and_true, strL] at h
  simp only [Prod.mk.injEq]
  exact h
abbrev cKSamePlaces : Ctr := ⟨Bool × (List S55) × (List S55), 0, fun (g, a, b) => [.p false (.sl 2 (a.map fun x => elOf (pv55 x))), .p false (.sl 2 (b.map fun x => elOf (pv55 x)))], fun _ => [], fun (g, a, b) => (g = true ↔ a = b) ∧ ((a.length * 24 ≤ 140737488351232 ∧ a.length ≤ 9223372036854775807 ∧ ∀ e1 ∈ a, ok55 e1)), fun (g, a, b) => isB g, fun _ => []⟩
theorem KSamePlaces_does : Does gSm5 tab Tryz.f124 cKSamePlaces := by
  rintro ⟨g, a, b⟩ ⟨hg, h1, h1', h2⟩
  have hla : (a.map fun x => elOf (pv55 x)).length = a.length := List.length_map ..
  have hlb : (b.map fun x => elOf (pv55 x)).length = b.length := List.length_map ..
  conv => whnf
  rw [hla, hlb]
  by_cases hlen : a.length = b.length
  · rw [show ((a.length : Int) != (b.length : Int)) = false from by rw [hlen]; exact bne_self_eq_false _]
    conv => whnf
    refine ⟨{i : Nat // i ≤ a.length ∧ a.take i = b.take i}, fun i => ⟨[(0, .p false (.sl 2 (a.map fun x => elOf (pv55 x)))), (1, .p false (.sl 2 (b.map fun x => elOf (pv55 x)))), (5, isI .i64 i.1)], [], 99⟩, fun i => a.length - i.1, ⟨⟨0, by omega, rfl⟩, ?_⟩, ?_⟩
    · conv => whnf
      exact ⟨rfl, rfl, rfl⟩
    rintro ⟨i, hi, ht⟩
    show aw _ _ _ _ _ _ ⟨[(0, .p false (.sl 2 (a.map fun x => elOf (pv55 x)))), (1, .p false (.sl 2 (b.map fun x => elOf (pv55 x)))), (5, isI .i64 i)], [], 99⟩
    conv => whnf
    rw [hla]
    by_cases hia : i < a.length
    · have hib : i < b.length := by omega
      rw [decide_eq_true (show (i : Int) < (a.length : Int) by omega)]
      conv => whnf
      refine And.intro (by simp only [allP, List.nil_append, List.cons_append, true_and]; rw [hla]; omega) ?_
      conv => whnf
      rw [Int.toNat_natCast, map_getD (fun x => elOf (pv55 x)) a i _ hia]
      conv => whnf
      refine dI (k := ?_)
      conv => whnf
      refine And.intro (by simp only [allP, List.nil_append, List.cons_append, true_and]; rw [hlb]; omega) ?_
      conv => whnf
      rw [Int.toNat_natCast, map_getD (fun x => elOf (pv55 x)) b i _ hib]
      conv => whnf
      refine dI (k := ?_)
      conv => whnf
      have ta : a.take (i + 1) = a.take i ++ [a[i]] := by rw [List.take_add_one, List.getElem?_eq_getElem hia]; rfl
      have tb : b.take (i + 1) = b.take i ++ [b[i]] := by rw [List.take_add_one, List.getElem?_eq_getElem hib]; rfl
      have hok := h2 _ (List.getElem_mem hia)
      have hab0 : a[i] ≠ b[i] → a ≠ b := fun h e => by subst e; exact h rfl
      generalize hxa : a[i] = xa at ta hok hab0 ⊢
      generalize hxb : b[i] = xb at tb hab0 ⊢
      by_cases hc : xa = xb
      · rw [show ((xa.1.data.toList == xb.1.data.toList) && ((xa.2 == xb.2) && true)) = true from (by rw [hc]; simp)]
        conv => whnf
        refine ⟨by rfl, ?_⟩
        (set_option smartUnfolding false in conv => whnf)
        refine ⟨⟨i + 1, by omega, by rw [ta, tb, ht, hc]⟩, by simp only; omega, ?_⟩
        conv => whnf
        exact ⟨rfl, rfl, by rw [wrap_i64 (by omega) (by omega)]; rfl⟩
      · rw [show ((xa.1.data.toList == xb.1.data.toList) && ((xa.2 == xb.2) && true)) = false from (Bool.eq_false_iff.2 fun q => hc (eqS55 _ _ q))]
        conv => whnf
        refine ⟨by rfl, ?_⟩
        (set_option smartUnfolding false in conv => whnf)
        rw [ffOf hg (hab0 hc)]
    · rw [decide_eq_false (show ¬ (i : Int) < (a.length : Int) by omega)]
      conv => whnf
      have hab : a = b := by
        rw [List.take_of_length_le (by omega), List.take_of_length_le (by omega)] at ht
        exact ht
      rw [hg.2 hab]
  · rw [show ((a.length : Int) != (b.length : Int)) = true from by rw [bne_iff_ne]; omega]
    conv => whnf
    rw [ffOf hg fun e => hlen (by rw [e])]
theorem KSamePlaces_sound : Sound Tryz.prog 124 cKSamePlaces := does_sound mixed tabOk_prog gSm5_ok Tryz.func124 KSamePlaces_does
def gSm6 : List (FuncId × Ctr) := (124, cKSamePlaces) :: gSm5
theorem gSm6_ok : GamOk Tryz.prog gSm6 := GamOk.cons gSm5_ok Tryz.func124 (by kernel_rfl) (by kernel_rfl) KSamePlaces_sound
abbrev cKSameBatch : Ctr := ⟨Bool × S46 × S46, 0, fun (g, a, b) => [.agg ((pv46 a).map avOf), .agg ((pv46 b).map avOf)], fun _ => [], fun (g, a, b) => (g = true ↔ a = b) ∧ (ok46 a), fun (g, a, b) => isB g, fun _ => []⟩
theorem KSameBatch_does : Does gSm6 tab Tryz.f62 cKSameBatch := by
  rintro ⟨g, a, b⟩ ⟨hg, hk⟩
  obtain ⟨k0, k1, k2, k3⟩ := hk
  conv => whnf
  by_cases e0 : a.1 = b.1
  rotate_left
  · rw [show (a.1 == b.1) = false from (by rw [beq_eq_false_iff_ne]; exact e0)]
    conv => whnf
    rw [ffOf hg fun e => e0 (by rw [e])]
    first | done | rfl | (and_intros <;> rfl)
  rw [show (a.1 == b.1) = true from (by rw [e0]; simp)]
  conv => whnf
  by_cases e1 : a.2.1 = b.2.1
  rotate_left
  · rw [show (a.2.1 == b.2.1) = false from (by rw [beq_eq_false_iff_ne]; exact e1)]
    conv => whnf
    rw [ffOf hg fun e => e1 (by rw [e])]
    first | done | rfl | (and_intros <;> rfl)
  rw [show (a.2.1 == b.2.1) = true from (by rw [e1]; simp)]
  conv => whnf
  by_cases e2 : a.2.2.1 = b.2.2.1
  rotate_left
  · rw [show (a.2.2.1 == b.2.2.1) = false from (by rw [beq_eq_false_iff_ne]; exact e2)]
    conv => whnf
    rw [ffOf hg fun e => e2 (by rw [e])]
    first | done | rfl | (and_intros <;> rfl)
  rw [show (a.2.2.1 == b.2.2.1) = true from (by rw [e2]; simp)]
  conv => whnf
  by_cases e3 : a.2.2.2 = b.2.2.2
  rotate_left
  · refine ⟨(false, a.2.2.2, b.2.2.2), ?_⟩
    conv => whnf
    refine And.intro (by simp only [allP, List.nil_append, List.cons_append, true_and]; repeat' (first | exact iff_of_false Bool.false_ne_true e3 | exact iff_of_false id e3 | exact k3 | rfl | exact trivial | refine And.intro ?_ ?_)) ?_
    conv => whnf
    rw [ffOf hg fun e => e3 (by rw [e])]
    first | done | rfl | (and_intros <;> rfl)
  refine ⟨(true, a.2.2.2, b.2.2.2), ?_⟩
  conv => whnf
  refine And.intro (by simp only [allP, List.nil_append, List.cons_append, true_and]; repeat' (first | exact iff_of_true rfl e3 | exact iff_of_true trivial e3 | exact k3 | rfl | exact trivial | refine And.intro ?_ ?_)) ?_
  conv => whnf
  have hab : a = b := by
    obtain ⟨a0, a1, a2, a3⟩ := a
    obtain ⟨b0, b1, b2, b3⟩ := b
    simp only at e0 e1 e2 e3
    subst e0 e1 e2 e3
    rfl
  rw [hg.2 hab]
  first | done | rfl | (and_intros <;> rfl)
theorem KSameBatch_sound : Sound Tryz.prog 62 cKSameBatch := does_sound mixed tabOk_prog gSm6_ok Tryz.func62 KSameBatch_does
def gSm7 : List (FuncId × Ctr) := (62, cKSameBatch) :: gSm6
theorem gSm7_ok : GamOk Tryz.prog gSm7 := GamOk.cons gSm6_ok Tryz.func62 (by kernel_rfl) (by kernel_rfl) KSameBatch_sound
abbrev cLSamePartCommand : Ctr := ⟨Bool × S48 × S48, 0, fun (g, a, b) => [.agg ((pv48 a).map avOf), .agg ((pv48 b).map avOf)], fun _ => [], fun (g, a, b) => (g = true ↔ a = b) ∧ (ok48 a), fun (g, a, b) => isB g, fun _ => []⟩
theorem LSamePartCommand_does : Does gSm7 tab Tryz.f18 cLSamePartCommand := by
  rintro ⟨g, a, b⟩ ⟨hg, hk⟩
  obtain ⟨k0, k1, k2⟩ := hk
  conv => whnf
  by_cases e0 : a.1 = b.1
  rotate_left
  · rw [show ((a.1.toNat : Int) == (b.1.toNat : Int)) = false from (by rw [beq_eq_false_iff_ne]; intro e; exact e0 (UInt8.toNat_inj.1 (by omega)))]
    conv => whnf
    rw [ffOf hg fun e => e0 (by rw [e])]
    first | done | rfl | (and_intros <;> rfl)
  rw [show ((a.1.toNat : Int) == (b.1.toNat : Int)) = true from (by rw [e0]; simp)]
  conv => whnf
  by_cases e2 : a.2.2 = b.2.2
  rotate_left
  · rw [show (a.2.2 == b.2.2) = false from (by rw [beq_eq_false_iff_ne]; exact e2)]
    conv => whnf
    rw [ffOf hg fun e => e2 (by rw [e])]
    first | done | rfl | (and_intros <;> rfl)
  rw [show (a.2.2 == b.2.2) = true from (by rw [e2]; simp)]
  conv => whnf
  refine dI (k := ?_)
  conv => whnf
  refine dI (k := ?_)
  conv => whnf
  by_cases e1 : a.2.1 = b.2.1
  rotate_left
  · refine ⟨(false, a.2.1, b.2.1), ?_⟩
    conv => whnf
    refine And.intro (by simp only [allP, List.nil_append, List.cons_append, true_and]; repeat' (first | exact iff_of_false Bool.false_ne_true e1 | exact iff_of_false id e1 | exact k1 | rfl | exact trivial | refine And.intro ?_ ?_)) ?_
    conv => whnf
    rw [ffOf hg fun e => e1 (by rw [e])]
    first | done | rfl | (and_intros <;> rfl)
  refine ⟨(true, a.2.1, b.2.1), ?_⟩
  conv => whnf
  refine And.intro (by simp only [allP, List.nil_append, List.cons_append, true_and]; repeat' (first | exact iff_of_true rfl e1 | exact iff_of_true trivial e1 | exact k1 | rfl | exact trivial | refine And.intro ?_ ?_)) ?_
  conv => whnf
  have hab : a = b := by
    obtain ⟨a0, a1, a2⟩ := a
    obtain ⟨b0, b1, b2⟩ := b
    simp only at e0 e1 e2
    subst e0 e1 e2
    rfl
  rw [hg.2 hab]
  first | done | rfl | (and_intros <;> rfl)
theorem LSamePartCommand_sound : Sound Tryz.prog 18 cLSamePartCommand := does_sound mixed tabOk_prog gSm7_ok Tryz.func18 LSamePartCommand_does
def gSm8 : List (FuncId × Ctr) := (18, cLSamePartCommand) :: gSm7
theorem gSm8_ok : GamOk Tryz.prog gSm8 := GamOk.cons gSm7_ok Tryz.func18 (by kernel_rfl) (by kernel_rfl) LSamePartCommand_sound
abbrev cLSameMetaCommand : Ctr := ⟨Bool × S57 × S57, 0, fun (g, a, b) => [.agg ((pv57 a).map avOf), .agg ((pv57 b).map avOf)], fun _ => [], fun (g, a, b) => (g = true ↔ a = b) ∧ (ok57 a), fun (g, a, b) => isB g, fun _ => []⟩
theorem LSameMetaCommand_does : Does gSm8 tab Tryz.f21 cLSameMetaCommand := by
  rintro ⟨g, a, b⟩ ⟨hg, hk⟩
  obtain ⟨k0, k1, k2, k3, k4, k5, k6, k7, k8, k9⟩ := hk
  conv => whnf
  by_cases e0 : a.1 = b.1
  rotate_left
  · rw [show ((a.1.toNat : Int) == (b.1.toNat : Int)) = false from (by rw [beq_eq_false_iff_ne]; intro e; exact e0 (UInt8.toNat_inj.1 (by omega)))]
    conv => whnf
    rw [ffOf hg fun e => e0 (by rw [e])]
    first | done | rfl | (and_intros <;> rfl)
  rw [show ((a.1.toNat : Int) == (b.1.toNat : Int)) = true from (by rw [e0]; simp)]
  conv => whnf
  by_cases e1 : a.2.1 = b.2.1
  rotate_left
  · rw [show (a.2.1.data.toList == b.2.1.data.toList) = false from (by rw [beq_eq_false_iff_ne]; intro e; exact e1 (strNe e))]
    conv => whnf
    rw [ffOf hg fun e => e1 (by rw [e])]
    first | done | rfl | (and_intros <;> rfl)
  rw [show (a.2.1.data.toList == b.2.1.data.toList) = true from (by rw [e1]; simp)]
  conv => whnf
  by_cases e2 : a.2.2.1 = b.2.2.1
  rotate_left
  · rw [show (a.2.2.1.data.toList == b.2.2.1.data.toList) = false from (by rw [beq_eq_false_iff_ne]; intro e; exact e2 (strNe e))]
    conv => whnf
    rw [ffOf hg fun e => e2 (by rw [e])]
    first | done | rfl | (and_intros <;> rfl)
  rw [show (a.2.2.1.data.toList == b.2.2.1.data.toList) = true from (by rw [e2]; simp)]
  conv => whnf
  by_cases e3 : a.2.2.2.1 = b.2.2.2.1
  rotate_left
  · rw [show (a.2.2.2.1 == b.2.2.2.1) = false from (by rw [beq_eq_false_iff_ne]; exact e3)]
    conv => whnf
    rw [ffOf hg fun e => e3 (by rw [e])]
    first | done | rfl | (and_intros <;> rfl)
  rw [show (a.2.2.2.1 == b.2.2.2.1) = true from (by rw [e3]; simp)]
  conv => whnf
  by_cases e4 : a.2.2.2.2.1 = b.2.2.2.2.1
  rotate_left
  · refine ⟨(false, a.2.2.2.2.1, b.2.2.2.2.1), ?_⟩
    conv => whnf
    refine And.intro (by simp only [allP, List.nil_append, List.cons_append, true_and]; repeat' (first | exact iff_of_false Bool.false_ne_true e4 | exact iff_of_false id e4 | exact k4 | rfl | exact trivial | refine And.intro ?_ ?_)) ?_
    conv => whnf
    rw [ffOf hg fun e => e4 (by rw [e])]
    first | done | rfl | (and_intros <;> rfl)
  refine ⟨(true, a.2.2.2.2.1, b.2.2.2.2.1), ?_⟩
  conv => whnf
  refine And.intro (by simp only [allP, List.nil_append, List.cons_append, true_and]; repeat' (first | exact iff_of_true rfl e4 | exact iff_of_true trivial e4 | exact k4 | rfl | exact trivial | refine And.intro ?_ ?_)) ?_
  conv => whnf
  refine dI (k := ?_)
  conv => whnf
  refine dI (k := ?_)
  conv => whnf
  by_cases e5 : a.2.2.2.2.2.1 = b.2.2.2.2.2.1
  rotate_left
  · rw [show ((a.2.2.2.2.2.1.1.data.toList == b.2.2.2.2.2.1.1.data.toList) && ((a.2.2.2.2.2.1.2 == b.2.2.2.2.2.1.2) && true)) = false from (Bool.eq_false_iff.2 fun q => e5 (eqS55 _ _ q))]
    conv => whnf
    rw [ffOf hg fun e => e5 (by rw [e])]
    first | done | rfl | (and_intros <;> rfl)
  rw [show ((a.2.2.2.2.2.1.1.data.toList == b.2.2.2.2.2.1.1.data.toList) && ((a.2.2.2.2.2.1.2 == b.2.2.2.2.2.1.2) && true)) = true from (by rw [e5]; simp)]
  conv => whnf
  by_cases e6 : a.2.2.2.2.2.2.1 = b.2.2.2.2.2.2.1
  rotate_left
  · rw [show (a.2.2.2.2.2.2.1 == b.2.2.2.2.2.2.1) = false from (by rw [beq_eq_false_iff_ne]; exact e6)]
    conv => whnf
    rw [ffOf hg fun e => e6 (by rw [e])]
    first | done | rfl | (and_intros <;> rfl)
  rw [show (a.2.2.2.2.2.2.1 == b.2.2.2.2.2.2.1) = true from (by rw [e6]; simp)]
  conv => whnf
  by_cases e7 : a.2.2.2.2.2.2.2.1 = b.2.2.2.2.2.2.2.1
  rotate_left
  · rw [show (a.2.2.2.2.2.2.2.1 == b.2.2.2.2.2.2.2.1) = false from (by rw [beq_eq_false_iff_ne]; exact e7)]
    conv => whnf
    rw [ffOf hg fun e => e7 (by rw [e])]
    first | done | rfl | (and_intros <;> rfl)
  rw [show (a.2.2.2.2.2.2.2.1 == b.2.2.2.2.2.2.2.1) = true from (by rw [e7]; simp)]
  conv => whnf
  by_cases e8 : a.2.2.2.2.2.2.2.2.1 = b.2.2.2.2.2.2.2.2.1
  rotate_left
  · rw [show (a.2.2.2.2.2.2.2.2.1 == b.2.2.2.2.2.2.2.2.1) = false from (by rw [beq_eq_false_iff_ne]; exact e8)]
    conv => whnf
    rw [ffOf hg fun e => e8 (by rw [e])]
    first | done | rfl | (and_intros <;> rfl)
  rw [show (a.2.2.2.2.2.2.2.2.1 == b.2.2.2.2.2.2.2.2.1) = true from (by rw [e8]; simp)]
  conv => whnf
  by_cases e9 : a.2.2.2.2.2.2.2.2.2 = b.2.2.2.2.2.2.2.2.2
  rotate_left
  · rw [show (a.2.2.2.2.2.2.2.2.2 == b.2.2.2.2.2.2.2.2.2) = false from (by rw [beq_eq_false_iff_ne]; exact e9)]
    conv => whnf
    rw [ffOf hg fun e => e9 (by rw [e])]
    first | done | rfl | (and_intros <;> rfl)
  rw [show (a.2.2.2.2.2.2.2.2.2 == b.2.2.2.2.2.2.2.2.2) = true from (by rw [e9]; simp)]
  conv => whnf
  have hab : a = b := by
    obtain ⟨a0, a1, a2, a3, a4, a5, a6, a7, a8, a9⟩ := a
    obtain ⟨b0, b1, b2, b3, b4, b5, b6, b7, b8, b9⟩ := b
    simp only at e0 e1 e2 e3 e4 e5 e6 e7 e8 e9
    subst e0 e1 e2 e3 e4 e5 e6 e7 e8 e9
    rfl
  rw [hg.2 hab]
  first | done | rfl | (and_intros <;> rfl)
theorem LSameMetaCommand_sound : Sound Tryz.prog 21 cLSameMetaCommand := does_sound mixed tabOk_prog gSm8_ok Tryz.func21 LSameMetaCommand_does
def gSm9 : List (FuncId × Ctr) := (21, cLSameMetaCommand) :: gSm8
theorem gSm9_ok : GamOk Tryz.prog gSm9 := GamOk.cons gSm8_ok Tryz.func21 (by kernel_rfl) (by kernel_rfl) LSameMetaCommand_sound
abbrev cKSameMetaAnswer : Ctr := ⟨Bool × S70 × S70, 0, fun (g, a, b) => [.agg ((pv70 a).map avOf), .agg ((pv70 b).map avOf)], fun _ => [], fun (g, a, b) => (g = true ↔ a = b) ∧ (ok70 a), fun (g, a, b) => isB g, fun _ => []⟩
theorem KSameMetaAnswer_does : Does gSm9 tab Tryz.f73 cKSameMetaAnswer := by
  rintro ⟨g, a, b⟩ ⟨hg, hk⟩
  obtain ⟨k0, k1, k2, k3, k4, k5⟩ := hk
  conv => whnf
  by_cases e0 : a.1 = b.1
  rotate_left
  · rw [show (a.1 == b.1) = false from (by rw [beq_eq_false_iff_ne]; exact e0)]
    conv => whnf
    rw [ffOf hg fun e => e0 (by rw [e])]
    first | done | rfl | (and_intros <;> rfl)
  rw [show (a.1 == b.1) = true from (by rw [e0]; simp)]
  conv => whnf
  by_cases e1 : a.2.1 = b.2.1
  rotate_left
  · rw [show (a.2.1 == b.2.1) = false from (by rw [beq_eq_false_iff_ne]; exact e1)]
    conv => whnf
    rw [ffOf hg fun e => e1 (by rw [e])]
    first | done | rfl | (and_intros <;> rfl)
  rw [show (a.2.1 == b.2.1) = true from (by rw [e1]; simp)]
  conv => whnf
  by_cases e2 : a.2.2.1 = b.2.2.1
  rotate_left
  · rw [show (a.2.2.1 == b.2.2.1) = false from (by rw [beq_eq_false_iff_ne]; exact e2)]
    conv => whnf
    rw [ffOf hg fun e => e2 (by rw [e])]
    first | done | rfl | (and_intros <;> rfl)
  rw [show (a.2.2.1 == b.2.2.1) = true from (by rw [e2]; simp)]
  conv => whnf
  by_cases e3 : a.2.2.2.1 = b.2.2.2.1
  rotate_left
  · rw [show (a.2.2.2.1 == b.2.2.2.1) = false from (by rw [beq_eq_false_iff_ne]; exact e3)]
    conv => whnf
    rw [ffOf hg fun e => e3 (by rw [e])]
    first | done | rfl | (and_intros <;> rfl)
  rw [show (a.2.2.2.1 == b.2.2.2.1) = true from (by rw [e3]; simp)]
  conv => whnf
  by_cases e4 : a.2.2.2.2.1 = b.2.2.2.2.1
  rotate_left
  · rw [show ((a.2.2.2.2.1.toNat : Int) == (b.2.2.2.2.1.toNat : Int)) = false from (by rw [beq_eq_false_iff_ne]; intro e; exact e4 (UInt8.toNat_inj.1 (by omega)))]
    conv => whnf
    rw [ffOf hg fun e => e4 (by rw [e])]
    first | done | rfl | (and_intros <;> rfl)
  rw [show ((a.2.2.2.2.1.toNat : Int) == (b.2.2.2.2.1.toNat : Int)) = true from (by rw [e4]; simp)]
  conv => whnf
  by_cases e5 : a.2.2.2.2.2 = b.2.2.2.2.2
  rotate_left
  · refine ⟨(false, a.2.2.2.2.2, b.2.2.2.2.2), ?_⟩
    conv => whnf
    refine And.intro (by simp only [allP, List.nil_append, List.cons_append, true_and]; repeat' (first | exact iff_of_false Bool.false_ne_true e5 | exact iff_of_false id e5 | exact k5 | rfl | exact trivial | refine And.intro ?_ ?_)) ?_
    conv => whnf
    rw [ffOf hg fun e => e5 (by rw [e])]
    first | done | rfl | (and_intros <;> rfl)
  refine ⟨(true, a.2.2.2.2.2, b.2.2.2.2.2), ?_⟩
  conv => whnf
  refine And.intro (by simp only [allP, List.nil_append, List.cons_append, true_and]; repeat' (first | exact iff_of_true rfl e5 | exact iff_of_true trivial e5 | exact k5 | rfl | exact trivial | refine And.intro ?_ ?_)) ?_
  conv => whnf
  have hab : a = b := by
    obtain ⟨a0, a1, a2, a3, a4, a5⟩ := a
    obtain ⟨b0, b1, b2, b3, b4, b5⟩ := b
    simp only at e0 e1 e2 e3 e4 e5
    subst e0 e1 e2 e3 e4 e5
    rfl
  rw [hg.2 hab]
  first | done | rfl | (and_intros <;> rfl)
theorem KSameMetaAnswer_sound : Sound Tryz.prog 73 cKSameMetaAnswer := does_sound mixed tabOk_prog gSm9_ok Tryz.func73 KSameMetaAnswer_does
def gSm10 : List (FuncId × Ctr) := (73, cKSameMetaAnswer) :: gSm9
theorem gSm10_ok : GamOk Tryz.prog gSm10 := GamOk.cons gSm9_ok Tryz.func73 (by kernel_rfl) (by kernel_rfl) KSameMetaAnswer_sound
end Go.Proofs.YtingmlhhabaplaaGreat.Ev
