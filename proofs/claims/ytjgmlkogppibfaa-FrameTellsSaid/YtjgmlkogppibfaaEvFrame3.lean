/- Frames: readers that are none; what is put is read: plain laws. No conditions. -/
import Derived.Test.YtjgmlkogppibfaaEvAwake04
namespace Go.Proofs.Ytjgmlkogppibfaa.Ev
open Go
set_option linter.unusedVariables false
set_option linter.unusedSimpArgs false
set_option maxRecDepth 100000
set_option maxHeartbeats 4000000
/-- One or the other contract. -/
abbrev Ctr.or (c d : Ctr) : Ctr := ⟨c.Ix ⊕ d.Ix, c.k, fun x => match x with | .inl x => c.args x | .inr x => d.args x, fun x => match x with | .inl x => c.heap x | .inr x => d.heap x,
  fun x => match x with | .inl x => c.pre x | .inr x => d.pre x, fun x => match x with | .inl x => c.res x | .inr x => d.res x, fun x => match x with | .inl x => c.heap' x | .inr x => d.heap' x⟩
theorem Sound.or {P : Program} {f : FuncId} {c d : Ctr} (hk : d.k = c.k) (h1 : Sound P f c) (h2 : Sound P f d) : Sound P f (c.or d) := by
  intro x
  cases x with
  | inl x => exact h1 x
  | inr x => exact hk ▸ h2 x
abbrev cFeedNil : Ctr := ⟨List UInt8, 1, fun b => [.p true .nilptr, .p false (.sl 1 (bl b))], fun _ => [], fun _ => True, fun _ => .tuple [.p true .nilsl, isI .i64 1], fun _ => []⟩
theorem feedNil_does : Does [] tab Try.f13 cFeedNil := by
  rintro b -
  conv => whnf
  exact ⟨rfl, rfl⟩
abbrev cFeedRaw : Ctr := ⟨List UInt8, 1, fun b => [.ptr 0 0, .p false (.sl 1 (bl b))], fun _ => [(0, .box [isB false, isB false, .p true .nilsl])], fun _ => True, fun _ => .tuple [.p true .nilsl, isI .i64 1], fun _ => [(0, .box [isB false, isB false, .p true .nilsl])]⟩
theorem feedRaw_does : Does [] tab Try.f13 cFeedRaw := by
  rintro b -
  conv => whnf
  exact ⟨rfl, rfl, rfl, rfl, rfl⟩
abbrev cLeftNil : Ctr := ⟨Unit, 1, fun _ => [.p true .nilptr], fun _ => [], fun _ => True, fun _ => isI .i64 0, fun _ => []⟩
theorem leftNil_does : Does [] tab Try.f15 cLeftNil := by
  rintro b -
  conv => whnf
theorem feedA_sound : Sound Try.prog 13 (cFeed.or (cFeedNil.or cFeedRaw)) := Sound.or rfl feed_sound (Sound.or rfl (does_sound mixed tabOk_prog GamOk.nil Try.func13 feedNil_does) (does_sound mixed tabOk_prog GamOk.nil Try.func13 feedRaw_does))
theorem leftA_sound : Sound Try.prog 15 (cFLeft.or cLeftNil) := Sound.or rfl fleft_sound (does_sound mixed tabOk_prog GamOk.nil Try.func15 leftNil_does)
def gF4 : List (FuncId × Ctr) := (13, (cFeed.or (cFeedNil.or cFeedRaw))) :: (15, (cFLeft.or cLeftNil)) :: gF3
theorem gF4_ok : GamOk Try.prog gF4 := GamOk.cons (GamOk.cons gF3_ok Try.func15 (by kernel_rfl) (by kernel_rfl) leftA_sound) Try.func13 (by kernel_rfl) (by kernel_rfl) feedA_sound
/-! ### Plain laws -/
theorem numN_app (l r : List UInt8) : ∀ n, n ≤ l.length → numN (l ++ r) 0 n = numN l 0 n
  | 0, _ => rfl
  | n + 1, h => by
    rw [numN, numN, numN_app l r n (by omega), List.getD_eq_getElem?_getD, List.getD_eq_getElem?_getD, List.getElem?_append_left (by omega)]
theorem numN_beB4 (v : Nat) (h : v < 4294967296) : numN (beB 4 v) 0 4 = v := by
  simp only [numN, beB, List.getD_cons_succ, List.getD_cons_zero, UInt8.toNat_ofNat', Nat.zero_add]
  omega
theorem unf_put {k : Nat} {f r : List UInt8} (hf : f.length ≤ 65536) (hk : (frB f ++ r).length ≤ k) : unf k (frB f ++ r) = match unf (k - 1) r with | none => none | some (fs, q) => some (f :: fs, q) := by
  have h4 := beB_length 4 f.length
  have hl : (frB f ++ r).length = 4 + f.length + r.length := by unfold frB; simp [h4]; omega
  obtain ⟨m, rfl⟩ : ∃ m, k = m + 1 := ⟨k - 1, by omega⟩
  have hn : numN (frB f ++ r) 0 4 = f.length := by
    unfold frB
    rw [List.append_assoc, numN_app _ _ 4 (by omega), numN_beB4 _ (by omega)]
  rw [unf_more (by omega) (by omega) (by omega), hn, Nat.add_sub_cancel]
  have hd : (frB f ++ r).drop (4 + f.length) = r := by
    unfold frB
    rw [List.drop_append_of_le_length (by simp [h4]), List.drop_of_length_le (by simp [h4]), List.nil_append]
  have ht : ((frB f ++ r).drop 4).take f.length = f := by
    unfold frB
    rw [List.append_assoc, List.drop_append_of_le_length (by omega), List.drop_of_length_le (by omega), List.nil_append, List.take_append_of_le_length (Nat.le_refl _), List.take_length]
  rw [hd, ht]
  cases unf m r <;> rfl
/-- More than enough steps are as good as enough. -/
theorem unf_fuel : ∀ (k m : Nat) (a : List UInt8), a.length ≤ k → a.length ≤ m → unf k a = unf m a
  | 0, m, a, h, h2 => by rw [unf_short h2 (Or.inl (by omega))]; rfl
  | k + 1, m, a, h, h2 => by
    by_cases h4 : a.length < 4
    · rw [unf_short h (Or.inl h4), unf_short h2 (Or.inl h4)]
    · by_cases h5 : 65536 < numN a 0 4
      · rw [unf_bad h (by omega) h5, unf_bad h2 (by omega) h5]
      · by_cases h6 : a.length < 4 + numN a 0 4
        · rw [unf_short h (Or.inr ⟨by omega, h6⟩), unf_short h2 (Or.inr ⟨by omega, h6⟩)]
        · obtain ⟨q, rfl⟩ : ∃ q, m = q + 1 := ⟨m - 1, by omega⟩
          rw [unf_more (by omega) (by omega) (by omega), unf_more (by omega) (by omega) (by omega), unf_fuel k q _ (by rw [List.length_drop]; omega) (by rw [List.length_drop]; omega)]
end Go.Proofs.Ytjgmlkogppibfaa.Ev
