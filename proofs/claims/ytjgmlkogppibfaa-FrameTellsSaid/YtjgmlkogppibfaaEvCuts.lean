/- Frames out of pieces: plain laws. No conditions. -/
import Derived.Test.YtjgmlkogppibfaaEvFrame3
namespace Go.Proofs.Ytjgmlkogppibfaa.Ev
open Go
set_option linter.unusedVariables false
set_option linter.unusedSimpArgs false
/-- Bytes as frames, with steps enough. -/
def unfA (a : List UInt8) : Option (List (List UInt8) × List UInt8) := unf a.length a
theorem unfA_of {k : Nat} {a : List UInt8} (h : a.length ≤ k) : unf k a = unfA a := unf_fuel _ _ _ h (Nat.le_refl _)
theorem unfA_short {a : List UInt8} (h : a.length < 4 ∨ (numN a 0 4 ≤ 65536 ∧ a.length < 4 + numN a 0 4)) : unfA a = some ([], a) := unf_short (Nat.le_refl _) h
theorem unfA_bad {a : List UInt8} (h : 4 ≤ a.length) (h2 : 65536 < numN a 0 4) : unfA a = none := unf_bad (Nat.le_refl _) h h2
theorem unfA_more {a : List UInt8} (h : 4 ≤ a.length) (h1 : numN a 0 4 ≤ 65536) (h2 : 4 + numN a 0 4 ≤ a.length) :
    unfA a = ahead [(a.drop 4).take (numN a 0 4)] (unfA (a.drop (4 + numN a 0 4))) := by
  obtain ⟨m, hm⟩ : ∃ m, a.length = m + 1 := ⟨a.length - 1, by omega⟩
  rw [unfA, hm, unf_more h h1 h2, unfA_of (by rw [List.length_drop]; omega)]
  cases unfA (a.drop (4 + numN a 0 4)) <;> rfl
theorem ahead_ahead' (gs hs : List (List UInt8)) (o : Option (List (List UInt8) × List UInt8)) : ahead gs (ahead hs o) = ahead (gs ++ hs) o := by
  rcases o with _ | ⟨fs, r⟩
  · rfl
  · show some _ = some _
    rw [List.append_assoc]
theorem ahead_nil (o : Option (List (List UInt8) × List UInt8)) : ahead [] o = o := by cases o <;> rfl
/-- Others behind: what was told is told, the rest goes on. -/
theorem unfA_app (b : List UInt8) : ∀ (n : Nat) (a : List UInt8), a.length ≤ n → unfA (a ++ b) = match unfA a with | none => none | some (fs, r) => ahead fs (unfA (r ++ b))
  | n, a, hn => by
    by_cases h4 : a.length < 4
    · rw [unfA_short (Or.inl h4)]
      exact (ahead_nil _).symm
    · have hnu : numN (a ++ b) 0 4 = numN a 0 4 := numN_app a b 4 (by omega)
      by_cases h5 : 65536 < numN a 0 4
      · rw [unfA_bad (a := a) (by omega) h5, unfA_bad (a := a ++ b) (by rw [List.length_append]; omega) (by rw [hnu]; exact h5)]
      · by_cases h6 : a.length < 4 + numN a 0 4
        · rw [unfA_short (a := a) (Or.inr ⟨by omega, h6⟩)]
          exact (ahead_nil _).symm
        · match n, hn with
          | 0, hn => omega
          | n + 1, hn =>
            have ih := unfA_app b n (a.drop (4 + numN a 0 4)) (by rw [List.length_drop]; omega)
            rw [unfA_more (a := a) (by omega) (by omega) (by omega), unfA_more (a := a ++ b) (by rw [List.length_append]; omega) (by rw [hnu]; omega) (by rw [hnu, List.length_append]; omega), hnu]
            rw [List.drop_append_of_le_length (by omega), List.drop_append_of_le_length (by omega), List.take_append_of_le_length (by rw [List.length_drop]; omega), ih]
            rcases unfA (a.drop (4 + numN a 0 4)) with _ | ⟨fs, r⟩
            · rfl
            · show ahead _ (ahead fs _) = ahead (_ :: fs) _
              rw [ahead_ahead']
              rfl
/-- All that is put, and fewer than four bytes behind. -/
theorem unfA_puts (s : List UInt8) (hs : s.length ≤ 3) : ∀ fs : List (List UInt8), (∀ f ∈ fs, f.length ≤ 65536) → unfA ((fs.map frB).flatten ++ s) = some (fs, s)
  | [], _ => unfA_short (Or.inl (by simp only [List.map_nil, List.flatten_nil, List.nil_append]; omega))
  | f :: fs, h => by
    have ih := unfA_puts s hs fs fun g hg => h g (List.mem_cons_of_mem _ hg)
    have hf := h f List.mem_cons_self
    have hfl : (frB f).length = 4 + f.length := by unfold frB; rw [List.length_append, beB_length]
    rw [List.map_cons, List.flatten_cons, List.append_assoc, unfA, unf_put hf (Nat.le_refl _), unfA_of (by simp only [List.length_append, hfl]; omega), ih]
end Go.Proofs.Ytjgmlkogppibfaa.Ev
