/- RecordBack answers true: its walk. No conditions. -/
import Derived.Test.YtjgmlkogppibfaaEvAwake05
import Derived.Test.YtjgmlkogppibfaaCtr
namespace Go.Proofs.Ytjgmlkogppibfaa.Ev
open Go
set_option linter.unusedVariables false
set_option linter.unusedSimpArgs false
set_option maxRecDepth 100000
set_option maxHeartbeats 4000000
theorem i64R_wf {a : Int} (h : (Lit.int .i64 a).wf = true) : i64R a := wf_i64 h
theorem byte_wrap' (x : Int) : PV.int .u8 (IntKind.u8.wrap x) = bv (UInt8.ofNat (IntKind.u8.wrap x).toNat) := by
  have h : 0 ≤ IntKind.u8.wrap x ∧ IntKind.u8.wrap x < 256 := by rw [IntKind.wrap_u8]; omega
  unfold bv
  congr 1
  simp
  omega
theorem bad_cut {b : Int} {x : BT} (h : okE b x) {n : Nat} (hn : n < (enB b x).length) : badE ((enB b x).take n) := by
  intro m y ho he
  have h1 : enB m y ++ (enB b x).drop n = enB b x ++ [] := by rw [he, List.take_append_drop, List.append_nil]
  have h2 := congrArg List.length (enB_sd ho h h1).2.2
  rw [List.length_drop, List.length_nil] at h2
  omega
theorem bad_more {b : Int} {x : BT} (h : okE b x) (c : UInt8) : badE (enB b x ++ [c]) := by
  intro m y ho he
  have h1 : enB m y ++ [] = enB b x ++ [c] := by rw [he, List.append_nil]
  cases (enB_sd ho h h1).2.2
theorem RecordBack_does : Does gRA tab Try.f9 lawRecordBack := by
  rintro ⟨base, x, bs, cut⟩ ⟨hb, hx, hbs, hcut⟩
  replace hcut := i64R_wf hcut
  simp only at hcut
  obtain ⟨hx1, hx2, hx3, hx4, hx5, hx6⟩ := hx
  have hbl := ll_length x.2.2.2
  have hsl := bl_length bs
  have hll : (List.map (fun x => elOf [PV.sl 1 (bl x)]) (base, x, bs, cut).2.1.2.2.2).length = x.2.2.2.length := List.length_map ..
  conv => whnf
  rw [hll]
  by_cases h300 : 300 < x.2.2.2.length
  · rw [decide_eq_true (show ((x.2.2.2.length : Nat) : Int) > 300 by omega)]
    conv => whnf
    refine ⟨(), ?_⟩
    conv => whnf
    refine And.intro (by simp only [allP, List.nil_append, List.cons_append, true_and]; skip) ?_
    (set_option smartUnfolding false in conv => whnf)
  rw [decide_eq_false (show ¬ ((x.2.2.2.length : Nat) : Int) > 300 by omega)]
  conv => whnf
  rw [hsl]
  by_cases h70 : 70000 < bs.length
  · rw [decide_eq_true (show ((bs.length : Nat) : Int) > 70000 by omega)]
    conv => whnf
    refine ⟨(), ?_⟩
    conv => whnf
    refine And.intro (by simp only [allP, List.nil_append, List.cons_append, true_and]; skip) ?_
    (set_option smartUnfolding false in conv => whnf)
  rw [decide_eq_false (show ¬ ((bs.length : Nat) : Int) > 70000 by omega)]
  conv => whnf
  have hpre : i64R base ∧ i64R x.1 ∧ i64R x.2.1 ∧ i64R x.2.2.1 ∧ x.2.2.2.length ≤ 1000000000 := ⟨i64R_wf hb, i64R_wf hx1, i64R_wf hx2, i64R_wf hx3, by omega⟩
  refine And.intro (by first | exact Nat.le_of_ble_eq_true rfl | exact ⟨Nat.le_of_ble_eq_true rfl, rfl⟩ | exact rfl | decide | (simp [allP]; done)) ?_
  (set_option smartUnfolding false in conv => whnf)
  have hg : (rgt x = false) ∨ (rgt x = true ∧ 12 + (inB x).length ≤ 60000) ∨ (rgt x = true ∧ 60000 < 12 + (inB x).length) := by
    cases rgt x
    · exact Or.inl rfl
    · rcases Nat.lt_or_ge 60000 (12 + (inB x).length) with h | h
      · exact Or.inr (Or.inr ⟨rfl, h⟩)
      · exact Or.inr (Or.inl ⟨rfl, h⟩)
  have hdec : (∃ m y, okE m y ∧ enB m y = bs) ∨ badE bs := by
    by_cases h : ∃ m y, okE m y ∧ enB m y = bs
    · exact Or.inl h
    · exact Or.inr fun m y ho he => h ⟨m, y, ho, he⟩
  rcases hg with hr | ⟨hr, hl⟩ | ⟨hr, hl⟩
  · refine ⟨(1, base, x), ?_⟩
    conv => whnf
    refine And.intro (by simp only [allP, List.nil_append, List.cons_append, true_and]; exact ⟨rfl, rfl, rfl, rfl, rfl, hpre, hr⟩) ?_
    (set_option smartUnfolding false in conv => whnf)
    rcases hdec with ⟨m, y, ho⟩ | ho
    · obtain ⟨hy0, hy⟩ := (rgt_iff y).1 ho.1.2.2.2.2.1
      refine ⟨(bs, some (m, y)), ?_⟩
      conv => whnf
      refine And.intro (by simp only [allP, List.nil_append, List.cons_append, true_and]; exact ⟨rfl, by omega, ho⟩) ?_
      (set_option smartUnfolding false in conv => whnf)
      refine And.intro (by first | exact Nat.le_of_ble_eq_true rfl | exact ⟨Nat.le_of_ble_eq_true rfl, rfl⟩ | exact rfl | decide | (simp [allP]; done)) ?_
      (set_option smartUnfolding false in conv => whnf)
      refine And.intro (by first | exact Nat.le_of_ble_eq_true rfl | exact ⟨Nat.le_of_ble_eq_true rfl, rfl⟩ | exact rfl | decide | (simp [allP]; done)) ?_
      (set_option smartUnfolding false in conv => whnf)
      refine ⟨(0, m, y), ?_⟩
      conv => whnf
      refine And.intro (by simp only [allP, List.nil_append, List.cons_append, true_and]; exact ⟨rfl, rfl, rfl, rfl, rfl, ⟨ho.1.1, ho.1.2.1, ho.1.2.2.1, ho.1.2.2.2.1, by omega⟩, ho.1.2.2.2.2.1, ho.1.2.2.2.2.2⟩) ?_
      (set_option smartUnfolding false in conv => whnf)
      refine And.intro (by first | exact Nat.le_of_ble_eq_true rfl | exact ⟨Nat.le_of_ble_eq_true rfl, rfl⟩ | exact rfl | decide | (simp [allP]; done)) ?_
      (set_option smartUnfolding false in conv => whnf)
      refine ⟨y, ?_⟩
      conv => whnf
      refine And.intro (by simp only [allP, List.nil_append, List.cons_append, true_and]; exact ⟨rfl, rfl, rfl, rfl, by omega⟩) ?_
      (set_option smartUnfolding false in conv => whnf)
      rw [ho.1.2.2.2.2.1]
      (set_option smartUnfolding false in conv => whnf)
      refine ⟨(enB m y, bs), ?_⟩
      conv => whnf
      refine And.intro (by simp only [allP, List.nil_append, List.cons_append, true_and]; exact ⟨rfl, rfl, trivial⟩) ?_
      (set_option smartUnfolding false in conv => whnf)
      rw [decide_eq_true ho.2]
      (set_option smartUnfolding false in conv => whnf)
      refine ⟨(), ?_⟩
      conv => whnf
      refine And.intro (by simp only [allP, List.nil_append, List.cons_append, true_and]; skip) ?_
      (set_option smartUnfolding false in conv => whnf)
      rfl
    · refine ⟨(bs, none), ?_⟩
      conv => whnf
      refine And.intro (by simp only [allP, List.nil_append, List.cons_append, true_and]; exact ⟨rfl, by omega, ho⟩) ?_
      (set_option smartUnfolding false in conv => whnf)
      refine And.intro (by first | exact Nat.le_of_ble_eq_true rfl | exact ⟨Nat.le_of_ble_eq_true rfl, rfl⟩ | exact rfl | decide | (simp [allP]; done)) ?_
      (set_option smartUnfolding false in conv => whnf)
      refine ⟨(), ?_⟩
      conv => whnf
      refine And.intro (by simp only [allP, List.nil_append, List.cons_append, true_and]; skip) ?_
      (set_option smartUnfolding false in conv => whnf)
      rfl
  · have hok : okE base x := ⟨hpre.1, hpre.2.1, hpre.2.2.1, hpre.2.2.2.1, hr, hl⟩
    have hel := bl_length (enB base x)
    have hen := enB_length base x
    refine ⟨(0, base, x), ?_⟩
    conv => whnf
    refine And.intro (by simp only [allP, List.nil_append, List.cons_append, true_and]; exact ⟨rfl, rfl, rfl, rfl, rfl, hpre, hr, by omega⟩) ?_
    (set_option smartUnfolding false in conv => whnf)
    refine ⟨(enB base x, some (base, x)), ?_⟩
    conv => whnf
    refine And.intro (by simp only [allP, List.nil_append, List.cons_append, true_and]; exact ⟨rfl, by omega, hok, trivial⟩) ?_
    (set_option smartUnfolding false in conv => whnf)
    refine And.intro (by first | exact Nat.le_of_ble_eq_true rfl | exact ⟨Nat.le_of_ble_eq_true rfl, rfl⟩ | exact rfl | decide | (simp [allP]; done)) ?_
    (set_option smartUnfolding false in conv => whnf)
    rw [hel]
    refine ⟨(cut, (((enB base x).length : Nat) : Int)), ?_⟩
    conv => whnf
    refine And.intro (by simp only [allP, List.nil_append, List.cons_append, true_and]; exact ⟨rfl, rfl, hcut.1, hcut.2, by omega, by omega⟩) ?_
    (set_option smartUnfolding false in conv => whnf)
    obtain ⟨hp1, hp2⟩ := pickV_bd (x := cut) (n := (((enB base x).length : Nat) : Int)) (by omega)
    generalize pickV cut (((enB base x).length : Nat) : Int) = pv at hp1 hp2 ⊢
    obtain ⟨n, rfl⟩ : ∃ n : Nat, pv = (n : Int) := ⟨pv.toNat, by omega⟩
    refine And.intro (by simp only [allP, List.nil_append, List.cons_append, true_and]; rw [hel]; omega) ?_
    (set_option smartUnfolding false in conv => whnf)
    refine ⟨((enB base x).take n, none), ?_⟩
    conv => whnf
    refine And.intro (by simp only [allP, List.nil_append, List.cons_append, true_and]; rw [show cutEls (Int.toNat 0) (((n : Nat) : Int).toNat - Int.toNat 0) (bl (enB base x)) = bl ((enB base x).take n) from by rw [cut_bl]; rfl]; exact ⟨rfl, by rw [List.length_take]; omega, bad_cut hok (by omega)⟩) ?_
    (set_option smartUnfolding false in conv => whnf)
    refine And.intro (by first | exact Nat.le_of_ble_eq_true rfl | exact ⟨Nat.le_of_ble_eq_true rfl, rfl⟩ | exact rfl | decide | (simp [allP]; done)) ?_
    (set_option smartUnfolding false in conv => whnf)
    refine ⟨enB base x, ?_⟩
    conv => whnf
    refine And.intro (by simp only [allP, List.nil_append, List.cons_append, true_and]; exact ⟨rfl, by omega⟩) ?_
    (set_option smartUnfolding false in conv => whnf)
    rw [byte_wrap' cut]
    generalize UInt8.ofNat (IntKind.u8.wrap cut).toNat = c
    refine And.intro (by simp only [allP, List.nil_append, List.cons_append, true_and]; rw [hel]; simp only [List.length_cons, List.length_nil]; omega) ?_
    (set_option smartUnfolding false in conv => whnf)
    refine ⟨(enB base x ++ [c], none), ?_⟩
    conv => whnf
    refine And.intro (by simp only [allP, List.nil_append, List.cons_append, true_and]; exact ⟨congrArg (PV.sl 1) (bl_append _ _), by rw [List.length_append, List.length_singleton]; omega, bad_more hok c⟩) ?_
    (set_option smartUnfolding false in conv => whnf)
    refine And.intro (by first | exact Nat.le_of_ble_eq_true rfl | exact ⟨Nat.le_of_ble_eq_true rfl, rfl⟩ | exact rfl | decide | (simp [allP]; done)) ?_
    (set_option smartUnfolding false in conv => whnf)
    rw [show (base != (base, x, bs, cut).1) = false from bne_self_eq_false base]
    (set_option smartUnfolding false in conv => whnf)
    refine And.intro (by first | exact Nat.le_of_ble_eq_true rfl | exact ⟨Nat.le_of_ble_eq_true rfl, rfl⟩ | exact rfl | decide | (simp [allP]; done)) ?_
    (set_option smartUnfolding false in conv => whnf)
    refine And.intro (by first | exact Nat.le_of_ble_eq_true rfl | exact ⟨Nat.le_of_ble_eq_true rfl, rfl⟩ | exact rfl | decide | (simp [allP]; done)) ?_
    (set_option smartUnfolding false in conv => whnf)
    refine ⟨(x, x), ?_⟩
    conv => whnf
    refine And.intro (by simp only [allP, List.nil_append, List.cons_append, true_and]; exact ⟨rfl, rfl, rfl, rfl, rfl, rfl, rfl, rfl, by omega, fun r hr' => by have := (hx6 r hr').1; omega⟩) ?_
    (set_option smartUnfolding false in conv => whnf)
    rw [decide_eq_true rfl]
    (set_option smartUnfolding false in conv => whnf)
    rw [hel, decide_eq_false (show ¬ (((enB base x).length : Nat) : Int) > 60000 by omega)]
    (set_option smartUnfolding false in conv => whnf)
    rcases hdec with ⟨m, y, ho⟩ | ho
    · obtain ⟨hy0, hy⟩ := (rgt_iff y).1 ho.1.2.2.2.2.1
      refine ⟨(bs, some (m, y)), ?_⟩
      conv => whnf
      refine And.intro (by simp only [allP, List.nil_append, List.cons_append, true_and]; exact ⟨rfl, by omega, ho⟩) ?_
      (set_option smartUnfolding false in conv => whnf)
      refine And.intro (by first | exact Nat.le_of_ble_eq_true rfl | exact ⟨Nat.le_of_ble_eq_true rfl, rfl⟩ | exact rfl | decide | (simp [allP]; done)) ?_
      (set_option smartUnfolding false in conv => whnf)
      refine And.intro (by first | exact Nat.le_of_ble_eq_true rfl | exact ⟨Nat.le_of_ble_eq_true rfl, rfl⟩ | exact rfl | decide | (simp [allP]; done)) ?_
      (set_option smartUnfolding false in conv => whnf)
      refine ⟨(0, m, y), ?_⟩
      conv => whnf
      refine And.intro (by simp only [allP, List.nil_append, List.cons_append, true_and]; exact ⟨rfl, rfl, rfl, rfl, rfl, ⟨ho.1.1, ho.1.2.1, ho.1.2.2.1, ho.1.2.2.2.1, by omega⟩, ho.1.2.2.2.2.1, ho.1.2.2.2.2.2⟩) ?_
      (set_option smartUnfolding false in conv => whnf)
      refine And.intro (by first | exact Nat.le_of_ble_eq_true rfl | exact ⟨Nat.le_of_ble_eq_true rfl, rfl⟩ | exact rfl | decide | (simp [allP]; done)) ?_
      (set_option smartUnfolding false in conv => whnf)
      refine ⟨y, ?_⟩
      conv => whnf
      refine And.intro (by simp only [allP, List.nil_append, List.cons_append, true_and]; exact ⟨rfl, rfl, rfl, rfl, by omega⟩) ?_
      (set_option smartUnfolding false in conv => whnf)
      rw [ho.1.2.2.2.2.1]
      (set_option smartUnfolding false in conv => whnf)
      refine ⟨(enB m y, bs), ?_⟩
      conv => whnf
      refine And.intro (by simp only [allP, List.nil_append, List.cons_append, true_and]; exact ⟨rfl, rfl, trivial⟩) ?_
      (set_option smartUnfolding false in conv => whnf)
      rw [decide_eq_true ho.2]
      (set_option smartUnfolding false in conv => whnf)
      refine ⟨(), ?_⟩
      conv => whnf
      refine And.intro (by simp only [allP, List.nil_append, List.cons_append, true_and]; skip) ?_
      (set_option smartUnfolding false in conv => whnf)
      rfl
    · refine ⟨(bs, none), ?_⟩
      conv => whnf
      refine And.intro (by simp only [allP, List.nil_append, List.cons_append, true_and]; exact ⟨rfl, by omega, ho⟩) ?_
      (set_option smartUnfolding false in conv => whnf)
      refine And.intro (by first | exact Nat.le_of_ble_eq_true rfl | exact ⟨Nat.le_of_ble_eq_true rfl, rfl⟩ | exact rfl | decide | (simp [allP]; done)) ?_
      (set_option smartUnfolding false in conv => whnf)
      refine ⟨(), ?_⟩
      conv => whnf
      refine And.intro (by simp only [allP, List.nil_append, List.cons_append, true_and]; skip) ?_
      (set_option smartUnfolding false in conv => whnf)
      rfl
  · refine ⟨(2, base, x), ?_⟩
    conv => whnf
    refine And.intro (by simp only [allP, List.nil_append, List.cons_append, true_and]; exact ⟨rfl, rfl, rfl, rfl, rfl, hpre, hr, by omega⟩) ?_
    (set_option smartUnfolding false in conv => whnf)
    rcases hdec with ⟨m, y, ho⟩ | ho
    · obtain ⟨hy0, hy⟩ := (rgt_iff y).1 ho.1.2.2.2.2.1
      refine ⟨(bs, some (m, y)), ?_⟩
      conv => whnf
      refine And.intro (by simp only [allP, List.nil_append, List.cons_append, true_and]; exact ⟨rfl, by omega, ho⟩) ?_
      (set_option smartUnfolding false in conv => whnf)
      refine And.intro (by first | exact Nat.le_of_ble_eq_true rfl | exact ⟨Nat.le_of_ble_eq_true rfl, rfl⟩ | exact rfl | decide | (simp [allP]; done)) ?_
      (set_option smartUnfolding false in conv => whnf)
      refine And.intro (by first | exact Nat.le_of_ble_eq_true rfl | exact ⟨Nat.le_of_ble_eq_true rfl, rfl⟩ | exact rfl | decide | (simp [allP]; done)) ?_
      (set_option smartUnfolding false in conv => whnf)
      refine ⟨(0, m, y), ?_⟩
      conv => whnf
      refine And.intro (by simp only [allP, List.nil_append, List.cons_append, true_and]; exact ⟨rfl, rfl, rfl, rfl, rfl, ⟨ho.1.1, ho.1.2.1, ho.1.2.2.1, ho.1.2.2.2.1, by omega⟩, ho.1.2.2.2.2.1, ho.1.2.2.2.2.2⟩) ?_
      (set_option smartUnfolding false in conv => whnf)
      refine And.intro (by first | exact Nat.le_of_ble_eq_true rfl | exact ⟨Nat.le_of_ble_eq_true rfl, rfl⟩ | exact rfl | decide | (simp [allP]; done)) ?_
      (set_option smartUnfolding false in conv => whnf)
      refine ⟨y, ?_⟩
      conv => whnf
      refine And.intro (by simp only [allP, List.nil_append, List.cons_append, true_and]; exact ⟨rfl, rfl, rfl, rfl, by omega⟩) ?_
      (set_option smartUnfolding false in conv => whnf)
      rw [ho.1.2.2.2.2.1]
      (set_option smartUnfolding false in conv => whnf)
      refine ⟨(enB m y, bs), ?_⟩
      conv => whnf
      refine And.intro (by simp only [allP, List.nil_append, List.cons_append, true_and]; exact ⟨rfl, rfl, trivial⟩) ?_
      (set_option smartUnfolding false in conv => whnf)
      rw [decide_eq_true ho.2]
      (set_option smartUnfolding false in conv => whnf)
      refine ⟨(), ?_⟩
      conv => whnf
      refine And.intro (by simp only [allP, List.nil_append, List.cons_append, true_and]; skip) ?_
      (set_option smartUnfolding false in conv => whnf)
      rfl
    · refine ⟨(bs, none), ?_⟩
      conv => whnf
      refine And.intro (by simp only [allP, List.nil_append, List.cons_append, true_and]; exact ⟨rfl, by omega, ho⟩) ?_
      (set_option smartUnfolding false in conv => whnf)
      refine And.intro (by first | exact Nat.le_of_ble_eq_true rfl | exact ⟨Nat.le_of_ble_eq_true rfl, rfl⟩ | exact rfl | decide | (simp [allP]; done)) ?_
      (set_option smartUnfolding false in conv => whnf)
      refine ⟨(), ?_⟩
      conv => whnf
      refine And.intro (by simp only [allP, List.nil_append, List.cons_append, true_and]; skip) ?_
      (set_option smartUnfolding false in conv => whnf)
      rfl
theorem RecordBack_sound : Sound Try.prog 9 lawRecordBack := does_sound mixed tabOk_prog gRA_ok Try.func9 RecordBack_does
end Go.Proofs.Ytjgmlkogppibfaa.Ev
