/- Wire: what the document reads: numbers, sizes, rows, texts. No conditions. -/
import Derived.Test.YtingmlhhabaplaaGreatEvWire8a
import Derived.Test.YtingmlhhabaplaaGreatEvWire3
import Derived.Test.YtingmlhhabaplaaGreatEvLow
namespace Go.Proofs.YtingmlhhabaplaaGreat.Ev
open Go
set_option linter.unusedVariables false
set_option linter.unusedSimpArgs false
set_option maxRecDepth 100000
set_option maxHeartbeats 4000000
theorem dNu_rg (s : In) : i64R (dNu s).1 := by
  rcases dNu_form s with h | ⟨v, hv, hc, h, hz⟩ <;> rw [h]
  · exact i64R0
  · exact unzig_bd (by omega) (by omega)
theorem dNu_w (s : In) : IntKind.i64.wrap (dNu s).1 = (dNu s).1 := wrap_i64 (dNu_rg s).1 (dNu_rg s).2
theorem dBy_val (s : In) : IntKind.u8.wrap (dNu s).1 = ((dBy s).1.toNat : Nat) := by
  have hw : IntKind.u8.wrap (dNu s).1 = (dNu s).1 % 256 := rfl
  rw [hw]
  unfold dBy
  simp only [UInt8.toNat_ofNat']; omega
abbrev cTNum : Ctr := cI6 dNu (fun n => isI .i64 n)
theorem tnum_does : Does gRef03 tab Tryz.f43 cTNum := by
  rintro ⟨l, b⟩ (h : l.length ≤ 1000000)
  conv => whnf
  refine ⟨(l, 0), ?_⟩
  conv => whnf
  refine And.intro (by simp only [allP, List.nil_append, List.cons_append, true_and]; and_intros <;> first | rfl | omega) ?_
  conv => whnf
  rcases vGet_form l 0 with hf | ⟨v, hv, h1, h2, hf, h3⟩
  · have hg : dNu (l, b) = (0, l, true) := by unfold dNu; simp only; rw [hf]
    rw [hf]
    conv => whnf
    refine dI (k := ?_)
    conv => whnf
    rw [hg]
    and_intros <;> first | rfl | exact trivial | simp [pvle]
  · have hg : dNu (l, b) = (unzig v, l.drop (vCnt v), b) := by unfold dNu; simp only; rw [hf]; simp only; rw [show (0 + (vCnt v : Int)).toNat = vCnt v by omega]
    rw [hf]
    conv => whnf
    refine And.intro (by simp only [allP, List.nil_append, List.cons_append, true_and]; rw [bl_length]; omega) ?_
    conv => whnf
    rw [Int.toNat_natCast, bl_length, List.take_of_length_le (by rw [bl_length]; exact Nat.le_refl _), bl_drop, show (0 + (vCnt v : Int)).toNat = vCnt v by omega]
    refine dI (k := ?_)
    conv => whnf
    rw [hg]
    and_intros <;> first | rfl | exact trivial | simp [pvle]
theorem tnum_sound : Sound Tryz.prog 43 cTNum := does_sound mixed tabOk_prog gRef03_ok Tryz.func43 tnum_does
abbrev cTSize : Ctr := cI6 dSz (fun n => isI .i64 n)
theorem tsize_does : Does gRef03 tab Tryz.f45 cTSize := by
  rintro ⟨l, b⟩ (h : l.length ≤ 1000000)
  conv => whnf
  refine ⟨(l, 0), ?_⟩
  conv => whnf
  refine And.intro (by simp only [allP, List.nil_append, List.cons_append, true_and]; and_intros <;> first | rfl | omega) ?_
  conv => whnf
  rcases vGet_form l 0 with hf | ⟨v, hv, h1, h2, hf, h3⟩
  · have hg : dSz (l, b) = (0, l, true) := by unfold dSz; simp only; rw [hf]
    rw [hf]
    conv => whnf
    refine dI (k := ?_)
    conv => whnf
    rw [hg]
    and_intros <;> first | rfl | exact trivial | simp [pvle]
  · have hw : IntKind.u64.wrap ((bl l).length : Int) = (l.length : Int) := by rw [bl_length, wrap_u64 (by omega) (by omega)]
    rw [hf]
    conv => whnf
    split <;> rename_i hb <;> rw [hb] <;> conv => whnf
    · have hb' : decide ((v : Int) > IntKind.u64.wrap ((bl l).length : Int)) = true := hb
      rw [hw] at hb'
      have hb2 := of_decide_eq_true hb'
      have hg : dSz (l, b) = (0, l, true) := by unfold dSz; simp only; rw [hf]; simp only; rw [if_neg (by omega)]
      refine dI (k := ?_)
      conv => whnf
      rw [hg]
      and_intros <;> first | rfl | exact trivial | simp [pvle]
    · have hb' : decide ((v : Int) > IntKind.u64.wrap ((bl l).length : Int)) = false := hb
      rw [hw] at hb'
      have hb2 := of_decide_eq_false hb'
      have hg : dSz (l, b) = (v, l.drop (vCnt v), b) := by unfold dSz; simp only; rw [hf]; simp only; rw [if_pos (by omega), Int.toNat_natCast, show (0 + (vCnt v : Int)).toNat = vCnt v by omega]
      refine And.intro (by simp only [allP, List.nil_append, List.cons_append, true_and]; rw [bl_length]; omega) ?_
      conv => whnf
      rw [Int.toNat_natCast, bl_length, List.take_of_length_le (by rw [bl_length]; exact Nat.le_refl _), bl_drop, show (0 + (vCnt v : Int)).toNat = vCnt v by omega]
      refine dI (k := ?_)
      conv => whnf
      rw [hg]
      show pvle (.int .i64 (v : Int)) (.int .i64 (IntKind.i64.wrap (v : Int))) ∧ _
      rw [wrap_i64n (by omega)]
      and_intros <;> first | rfl | exact trivial | simp [pvle]
theorem tsize_sound : Sound Tryz.prog 45 cTSize := does_sound mixed tabOk_prog gRef03_ok Tryz.func45 tsize_does
abbrev cTBool : Ctr := cI6 dBo (fun n => isB n)
theorem tbool_does : Does [] tab Tryz.f70 cTBool := by
  rintro ⟨_ | ⟨x, r⟩, b⟩ (h : _ ≤ 1000000)
  · conv => whnf
    refine dI (k := ?_)
    conv => whnf
    and_intros <;> first | rfl | exact trivial | simp [pvle, bl, dBo]
  · have tk : ((bl (x :: r)).take ((bl (x :: r)).length : Int).toNat).drop (Int.toNat 1) = bl r := by
      rw [Int.toNat_natCast, List.take_length]
      rfl
    have hx : ((x.toNat : Int) != 0) = !(x == 0) := by
      by_cases h0 : x = 0
      · subst h0; rfl
      · have h1 : x.toNat ≠ 0 := fun e => h0 (UInt8.toNat_inj.1 e)
        have h2 : (x == 0) = false := by rw [beq_eq_false_iff_ne]; exact h0
        rw [h2, bne_iff_ne.2 (by omega)]; rfl
    have hg : dBo (x :: r, b) = (!(x == 0), r, b) := rfl
    conv => whnf
    refine And.intro (by simp only [allP, List.nil_append, List.cons_append, true_and]; rw [bl_length]; simp only [List.length_cons]; omega) ?_
    conv => whnf
    refine And.intro (by simp only [allP, List.nil_append, List.cons_append, true_and]; rw [bl_length]; simp only [List.length_cons]; omega) ?_
    conv => whnf
    rw [tk]
    refine dI (k := ?_)
    conv => whnf
    rw [hg]
    and_intros <;> first | rfl | exact trivial | (simp [pvle]; done) | (show pvle (.bool (!(x == 0))) (.bool ((x.toNat : Int) != 0)); rw [hx]; rfl)
theorem tbool_sound : Sound Tryz.prog 70 cTBool := does_sound mixed tabOk_prog GamOk.nil Tryz.func70 tbool_does
def gTd : List (FuncId × Ctr) := (45, cTSize) :: (36, cCopy) :: []
theorem gTd_ok : GamOk Tryz.prog gTd := GamOk.cons (GamOk.cons GamOk.nil Tryz.func36 (by kernel_rfl) (by kernel_rfl) (does_sound mixed tabOk_prog gL1_ok Tryz.func36 copy_does)) Tryz.func45 (by kernel_rfl) (by kernel_rfl) tsize_sound
abbrev cTData : Ctr := cI6 dRc (fun x : List UInt8 => .p true (.sl 1 (bl x)))
theorem tdata_does : Does gTd tab Tryz.f75 cTData := by
  rintro ⟨l, b⟩ (h : l.length ≤ 1000000)
  have hle := dSz_le (l, b)
  have hln' : (dSz (l, b)).2.1.length ≤ 1000000 := Nat.le_trans (dSz_len (l, b)) h
  have hR : dRc (l, b) = if (dSz (l, b)).1 ≤ (dSz (l, b)).2.1.length then ((dSz (l, b)).2.1.take (dSz (l, b)).1, (dSz (l, b)).2.1.drop (dSz (l, b)).1, (dSz (l, b)).2.2) else ([], (dSz (l, b)).2.1, true) := rfl
  conv => whnf
  refine ⟨(l, b), ?_⟩
  conv => whnf
  refine And.intro (by simp only [allP, List.nil_append, List.cons_append, true_and]; and_intros <;> first | exact h | rfl) ?_
  conv => whnf
  generalize dSz (l, b) = q at hle hln' hR ⊢
  simp only at hle
  rw [bl_length]
  by_cases hq : q.1 ≤ q.2.1.length
  · rw [if_pos hq] at hR
    rw [decide_eq_false (show ¬ ((q.1 : Int) > (q.2.1.length : Int)) by omega)]
    conv => whnf
    refine And.intro (by simp only [allP, List.nil_append, List.cons_append, true_and]; rw [bl_length]; omega) ?_
    conv => whnf
    rw [Int.toNat_natCast, show Int.toNat 0 = 0 from rfl, List.drop_zero, bl_take]
    refine ⟨q.2.1.take q.1, ?_⟩
    conv => whnf
    refine And.intro (by simp only [allP, List.nil_append, List.cons_append, true_and]; and_intros <;> first | rfl | (rw [List.length_take]; omega)) ?_
    conv => whnf
    refine And.intro (by simp only [allP, List.nil_append, List.cons_append, true_and]; rw [bl_length]; omega) ?_
    conv => whnf
    rw [Int.toNat_natCast, Int.toNat_natCast, List.take_length, bl_drop]
    refine dI (k := ?_)
    conv => whnf
    rw [hR]
    and_intros <;> first | rfl | exact trivial | (simp [pvle]; done) | exact bl_isFlat _
  · rw [if_neg hq] at hR
    rw [decide_eq_true (show ((q.1 : Int) > (q.2.1.length : Int)) by omega)]
    conv => whnf
    refine dI (k := ?_)
    conv => whnf
    rw [hR]
    and_intros <;> first | rfl | exact trivial | (simp [pvle, bl]; done)
theorem tdata_sound : Sound Tryz.prog 75 cTData := does_sound mixed tabOk_prog gTd_ok Tryz.func75 tdata_does
def gTe : List (FuncId × Ctr) := (75, cTData) :: []
theorem gTe_ok : GamOk Tryz.prog gTe := GamOk.cons GamOk.nil Tryz.func75 (by kernel_rfl) (by kernel_rfl) tdata_sound
abbrev cTText : Ctr := cI6 dTx (fun s => .p true (.str s))
theorem ttext_does : Does gTe tab Tryz.f49 cTText := by
  rintro ⟨l, b⟩ (h : l.length ≤ 1000000)
  conv => whnf
  refine ⟨(l, b), ?_⟩
  conv => whnf
  refine And.intro (by simp only [allP, List.nil_append, List.cons_append, true_and]; and_intros <;> first | exact h | rfl) ?_
  conv => whnf
  refine And.intro (by simp only [allP, List.nil_append, List.cons_append, true_and]; exact bl_isByte _) ?_
  conv => whnf
  rw [elsStr_bl]
  and_intros <;> first | rfl | exact trivial | simp [pvle]
theorem ttext_sound : Sound Tryz.prog 49 cTText := does_sound mixed tabOk_prog gTe_ok Tryz.func49 ttext_does
def gD0 : List (FuncId × Ctr) := (43, cTNum) :: (45, cTSize) :: (70, cTBool) :: (75, cTData) :: (49, cTText) :: []
theorem gD0_ok : GamOk Tryz.prog gD0 := (GamOk.cons (GamOk.cons (GamOk.cons (GamOk.cons (GamOk.cons GamOk.nil Tryz.func49 (by kernel_rfl) (by kernel_rfl) ttext_sound) Tryz.func75 (by kernel_rfl) (by kernel_rfl) tdata_sound) Tryz.func70 (by kernel_rfl) (by kernel_rfl) tbool_sound) Tryz.func45 (by kernel_rfl) (by kernel_rfl) tsize_sound) Tryz.func43 (by kernel_rfl) (by kernel_rfl) tnum_sound)
end Go.Proofs.YtingmlhhabaplaaGreat.Ev
