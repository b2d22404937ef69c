/- Wire: the law WireNumbers. No conditions. -/
import Derived.Test.YtingmlhhabaplaaEvAwake06
import Derived.Test.YtingmlhhabaplaaEvWire2b
namespace Go.Proofs.Ytingmlhhabaplaa.Ev
open Go
set_option linter.unusedVariables false
set_option linter.unusedSimpArgs false
set_option maxRecDepth 100000
set_option maxHeartbeats 4000000
theorem gGet_none {X : Type} {get : In → X × In} {enc : X → List UInt8} {ok : X → Prop} (a : RL get enc ok) (kd : UInt8) (most : Nat) (hm : most ≤ 1000000) (z : X) (l : List UInt8) (h : (gGet get kd most z l).2 = 60) : gGet get kd most z l = (z, 60) := by
  rcases gGet_form a kd most hm z l with hg | ⟨x, _, _, _, hg⟩
  · exact hg
  · rw [hg] at h; simp at h
theorem nb0 : gGet gt27 1 60000 z27 [1] = (z27, 60) := gGet_none rt27 1 60000 (by decide) _ _ (by decide +kernel)
theorem nb1 : gGet gt27 1 60000 z27 [] = (z27, 60) := gGet_none rt27 1 60000 (by decide) _ _ (by decide +kernel)
theorem nb2 : gGet gt27 1 60000 z27 [1, 4, 0, 0, 0, 0, 10, 0] = (z27, 60) := gGet_none rt27 1 60000 (by decide) _ _ (by decide +kernel)
theorem nb3 : gGet gt27 1 60000 z27 [2, 4, 0, 0, 0, 0, 10] = (z27, 60) := gGet_none rt27 1 60000 (by decide) _ _ (by decide +kernel)
theorem nb4 : gGet gt27 1 60000 z27 [1, 4, 0, 0, 0, 0, 138, 0] = (z27, 60) := gGet_none rt27 1 60000 (by decide) _ _ (by decide +kernel)
theorem nb5 : gGet gt27 1 60000 z27 [1, 4, 0, 0, 0, 1, 10] = (z27, 60) := gGet_none rt27 1 60000 (by decide) _ _ (by decide +kernel)
theorem nb6 : gGet gt27 1 60000 z27 [1, 5, 0, 0, 0, 0, 10] = (z27, 60) := gGet_none rt27 1 60000 (by decide) _ _ (by decide +kernel)
theorem nb7 : gGet gt27 1 60000 z27 [1, 128, 4, 0, 0, 0, 0, 0] = (z27, 60) := gGet_none rt27 1 60000 (by decide) _ _ (by decide +kernel)
theorem nbM : gGet gt33 2 60000 z33 [1, 4, 0, 0, 0, 0, 10] = (z33, 60) := gGet_none rt33 2 60000 (by decide) _ _ (by decide +kernel)
theorem nbR1 : gGet gt57 7 65545 z57 [7, 2, 97] = (z57, 60) := gGet_none rt57 7 65545 (by decide) _ _ (by decide +kernel)
theorem nbR2 : gGet gt57 7 65545 z57 [7, 0, 0, 0, 0, 0, 0, 0, 0, 0, 2, 0, 0] = (z57, 60) := gGet_none rt57 7 65545 (by decide) _ _ (by decide +kernel)
theorem repZ (n : Nat) : cutEls 0 n (List.replicate n (PV.int .u8 0)) = bl (List.replicate n 0) := by simp [cutEls, bl, bv]
theorem repP (n : Nat) : pvle (.sl 1 (bl (List.replicate n 0))) (.sl 1 (cutEls 0 n (List.replicate n (PV.int .u8 0)))) := by rw [repZ]; exact rfl
def lgX (m n : Nat) : S57 := (⟨#[]⟩, 0, 0, 0, 0, 0, 0, 0, 0, false, [(1, List.replicate m 0)], List.replicate n 0)
theorem lgX_en (m n : Nat) : (en57 (lgX m n)).length = 12 + (vCnt m + m) + (vCnt n + n) := by
  show (txB ⟨#[]⟩ ++ (nuB 0 ++ (nuB 0 ++ (nuB 0 ++ (nuB 0 ++ (nuB 0 ++ (nuB 0 ++ (nuB 0 ++ (nuB 0 ++ (boB false ++ (lsB en70 [(1, List.replicate m 0)] ++ recB (List.replicate n 0)))))))))))).length = _
  have h1 : (nuB 1).length = 1 := by rw [nuB, vE_length]; exact vCnt_small (by decide)
  have h2 : (lsB en70 [(1, List.replicate m 0)]).length = 2 + (vCnt m + m) := by
    show (vE 1 ++ ((nuB 1 ++ recB (List.replicate m 0)) ++ [])).length = _
    unfold recB
    rw [List.append_nil, List.length_append, List.length_append, List.length_append, h1, vE_length, vE_length, List.length_replicate, vCnt_small (show 1 < 128 by decide)]
    omega
  have h3 : (recB (List.replicate n (0 : UInt8))).length = vCnt n + n := by unfold recB; rw [List.length_append, vE_length, List.length_replicate]
  rw [txB0, nuB0]
  simp only [List.length_append, List.length_cons, List.length_nil, h2, h3, boB]
  omega
theorem lgX_ok (m n : Nat) (hm : m ≤ 100000) (hn : n ≤ 100000) : ok57 (lgX m n) := by
  have hl : ∀ k, k ≤ 100000 → (List.replicate k (0 : UInt8)).length * 1 ≤ 140737488351232 ∧ (List.replicate k (0 : UInt8)).length ≤ 9223372036854775807 ∧ ∀ e ∈ List.replicate k (0 : UInt8), True := fun k hk => by
    rw [List.length_replicate]; exact ⟨by omega, by omega, fun _ _ => trivial⟩
  refine ⟨Nat.le_of_ble_eq_true rfl, trivial, (show (Lit.int .i64 0).wf = true by decide), (show (Lit.int .i64 0).wf = true by decide), (show (Lit.int .i64 0).wf = true by decide), (show (Lit.int .i64 0).wf = true by decide), (show (Lit.int .i64 0).wf = true by decide), (show (Lit.int .i64 0).wf = true by decide), (show (Lit.int .i64 0).wf = true by decide), trivial, ⟨Nat.le_of_ble_eq_true rfl, Nat.le_of_ble_eq_true rfl, fun e he => ?_⟩, hl n hn⟩
  have he' : e ∈ [((1 : Int), List.replicate m (0 : UInt8))] := he
  obtain rfl : e = (1, List.replicate m 0) := by simpa using he'
  exact ⟨(show (Lit.int .i64 1).wf = true by decide), hl m hm⟩
def ptX (ns : List Nat) : S76 := (0, 0, ns.map fun n => List.replicate n 0, [])
theorem ptX_en (ns : List Nat) : (en76 (ptX ns)).length = 3 + vCnt ns.length + (ns.map fun n => vCnt n + n).sum := by
  show (nuB 0 ++ (nuB 0 ++ (lsB recB (ns.map fun n => List.replicate n 0) ++ lsB _ []))).length = _
  have h : ∀ ns : List Nat, ((ns.map fun n => List.replicate n (0 : UInt8)).map recB).flatten.length = (ns.map fun n => vCnt n + n).sum := by
    intro ns
    induction ns with
    | nil => rfl
    | cons n r ih =>
      rw [List.map_cons, List.map_cons, List.flatten_cons, List.length_append, ih, List.map_cons, List.sum_cons]
      unfold recB
      rw [List.length_append, vE_length, List.length_replicate]
  rw [nuB0, lsB0]
  unfold lsB
  simp only [List.length_append, List.length_cons, List.length_nil, h, vE_length, List.length_map]
  omega
theorem ptX_ok (ns : List Nat) (hl : ns.length ≤ 10) (h : ∀ n ∈ ns, n ≤ 100000) : ok76 (ptX ns) := by
  refine ⟨(show (Lit.int .i64 0).wf = true by decide), (show (Lit.int .i64 0).wf = true by decide), ⟨?_, ?_, fun e he => ?_⟩, Nat.le_of_ble_eq_true rfl, Nat.le_of_ble_eq_true rfl, fun _ h => (List.not_mem_nil h).elim⟩
  · show (ns.map _).length * 24 ≤ _; rw [List.length_map]; omega
  · show (ns.map _).length ≤ _; rw [List.length_map]; omega
  · obtain ⟨n, hn, rfl⟩ := List.mem_map.1 he
    have := h n hn
    rw [List.length_replicate]
    exact ⟨by omega, by omega, fun _ _ => trivial⟩
theorem vc2 : vCnt 2 = 1 := vCnt_small (by decide)
theorem vc1 : vCnt 1 = 1 := vCnt_small (by decide)
theorem vc990 : vCnt 990 = 2 := by rw [vCnt_big (by decide), vCnt_small (by decide)]
theorem vc991 : vCnt 991 = 2 := by rw [vCnt_big (by decide), vCnt_small (by decide)]
theorem vc5000 : vCnt 5000 = 2 := by rw [vCnt_big (by decide), vCnt_small (by decide)]
theorem vc5600 : vCnt 5600 = 2 := by rw [vCnt_big (by decide), vCnt_small (by decide)]
theorem vc59000 : vCnt 59000 = 3 := by rw [vCnt_big (by decide), vCnt_big (by decide), vCnt_small (by decide)]
theorem vc60000 : vCnt 60000 = 3 := by rw [vCnt_big (by decide), vCnt_big (by decide), vCnt_small (by decide)]
theorem pvEnt (m n : Nat) : pvle (.sl 2 ((lgX m n).2.2.2.2.2.2.2.2.2.2.1.map fun x => elOf (pv70 x))) (.sl 2 [.agg [.int .i64 1, .sl 1 (cutEls 0 m (List.replicate m (PV.int .u8 0)))]]) := by rw [repZ]; exact rfl
theorem pvRec2 (m n : Nat) : pvle (.sl 1 ((ptX [m, n]).2.2.1.map fun x => elOf [.sl 1 (bl x)])) (.sl 1 [.sl 1 (cutEls 0 m (List.replicate m (PV.int .u8 0))), .sl 1 (cutEls 0 n (List.replicate n (PV.int .u8 0)))]) := by rw [repZ, repZ]; exact rfl
theorem pvRec1 (m : Nat) : pvle (.sl 1 ((ptX [m]).2.2.1.map fun x => elOf [.sl 1 (bl x)])) (.sl 1 [.sl 1 (cutEls 0 m (List.replicate m (PV.int .u8 0)))]) := by rw [repZ]; exact rfl
def gNum : List (FuncId × Ctr) := gAwake ++ gThings
theorem gNum_ok : GamOk Try.prog gNum := GamOk.app gAwake_ok gThings_ok
theorem WireNumbers_does : Does gNum tab Try.f5 lawWireNumbers := by
  rintro u -
  obtain ⟨x, hx⟩ : ∃ x, x = lgX 5000 60000 := ⟨_, rfl⟩
  have hxo : ok57 x := by rw [hx]; exact lgX_ok _ _ (by decide) (by decide)
  have hxl : (en57 x).length = 65017 := by rw [hx, lgX_en, vc5000, vc60000]
  have hxg := gGet_put rt57 7 65545 z57 x hxo (by rw [hxl]; decide)
  obtain ⟨y, hy⟩ : ∃ x, x = lgX 5600 60000 := ⟨_, rfl⟩
  have hyo : ok57 y := by rw [hy]; exact lgX_ok _ _ (by decide) (by decide)
  have hyl : (en57 y).length = 65617 := by rw [hy, lgX_en, vc5600, vc60000]
  obtain ⟨p, hp⟩ : ∃ x, x = ptX [59000, 990] := ⟨_, rfl⟩
  have hpo : ok76 p := by rw [hp]; exact ptX_ok _ (by decide) (by intro n hn; simp only [List.mem_cons, List.not_mem_nil, or_false] at hn; omega)
  have hpl : (en76 p).length = 59999 := by rw [hp, ptX_en]; simp only [List.length_cons, List.length_nil, List.map_cons, List.map_nil, List.sum_cons, List.sum_nil]; rw [vc2, vc59000, vc990]; omega
  obtain ⟨q, hq⟩ : ∃ x, x = ptX [59000, 991] := ⟨_, rfl⟩
  have hqo : ok76 q := by rw [hq]; exact ptX_ok _ (by decide) (by intro n hn; simp only [List.mem_cons, List.not_mem_nil, or_false] at hn; omega)
  have hql : (en76 q).length = 60000 := by rw [hq, ptX_en]; simp only [List.length_cons, List.length_nil, List.map_cons, List.map_nil, List.sum_cons, List.sum_nil]; rw [vc2, vc59000, vc991]; omega
  obtain ⟨r, hr⟩ : ∃ x, x = ptX [60000] := ⟨_, rfl⟩
  have hro : ok76 r := by rw [hr]; exact ptX_ok _ (by decide) (by intro n hn; simp only [List.mem_cons, List.not_mem_nil, or_false] at hn; omega)
  have hrl : (en76 r).length = 60007 := by rw [hr, ptX_en]; simp only [List.length_cons, List.length_nil, List.map_cons, List.map_nil, List.sum_cons, List.sum_nil]; rw [vc1, vc60000]; omega
  conv => whnf
  refine ⟨{i : Nat // i ≤ 8}, fun i => ⟨[(32, .p true (.sl 1 [.sl 1 [.int .u8 1], .nilsl, .sl 1 [.int .u8 1, .int .u8 4, .int .u8 0, .int .u8 0, .int .u8 0, .int .u8 0, .int .u8 10, .int .u8 0], .sl 1 [.int .u8 2, .int .u8 4, .int .u8 0, .int .u8 0, .int .u8 0, .int .u8 0, .int .u8 10], .sl 1 [.int .u8 1, .int .u8 4, .int .u8 0, .int .u8 0, .int .u8 0, .int .u8 0, .int .u8 138, .int .u8 0], .sl 1 [.int .u8 1, .int .u8 4, .int .u8 0, .int .u8 0, .int .u8 0, .int .u8 1, .int .u8 10], .sl 1 [.int .u8 1, .int .u8 5, .int .u8 0, .int .u8 0, .int .u8 0, .int .u8 0, .int .u8 10], .sl 1 [.int .u8 1, .int .u8 128, .int .u8 4, .int .u8 0, .int .u8 0, .int .u8 0, .int .u8 0, .int .u8 0]])), (33, isI .i64 8), (34, isI .i64 (i.1 : Nat))], [], 99⟩, fun i => 8 - i.1, ⟨⟨0, Nat.zero_le _⟩, ?_⟩, ?_⟩
  · conv => whnf
    and_intros <;> rfl
  rintro ⟨i, hi⟩
  show aw _ _ _ _ _ _ ⟨[(32, .p true (.sl 1 [.sl 1 [.int .u8 1], .nilsl, .sl 1 [.int .u8 1, .int .u8 4, .int .u8 0, .int .u8 0, .int .u8 0, .int .u8 0, .int .u8 10, .int .u8 0], .sl 1 [.int .u8 2, .int .u8 4, .int .u8 0, .int .u8 0, .int .u8 0, .int .u8 0, .int .u8 10], .sl 1 [.int .u8 1, .int .u8 4, .int .u8 0, .int .u8 0, .int .u8 0, .int .u8 0, .int .u8 138, .int .u8 0], .sl 1 [.int .u8 1, .int .u8 4, .int .u8 0, .int .u8 0, .int .u8 0, .int .u8 1, .int .u8 10], .sl 1 [.int .u8 1, .int .u8 5, .int .u8 0, .int .u8 0, .int .u8 0, .int .u8 0, .int .u8 10], .sl 1 [.int .u8 1, .int .u8 128, .int .u8 4, .int .u8 0, .int .u8 0, .int .u8 0, .int .u8 0, .int .u8 0]])), (33, isI .i64 8), (34, isI .i64 (i : Nat))], [], 99⟩
  by_cases h0 : i = 0
  · subst h0
    conv => whnf
    refine And.intro (by simp only [allP, List.nil_append, List.cons_append, true_and]; decide) ?_
    conv => whnf
    refine ⟨[1], ?_⟩
    conv => whnf
    refine And.intro (by simp only [allP, List.nil_append, List.cons_append, true_and]; and_intros <;> first | exact trivial | rfl | (simp [pvle, bl]; done)) ?_
    conv => whnf
    rw [nb0]
    refine And.intro (by first | exact Nat.le_of_ble_eq_true rfl | exact ⟨Nat.le_of_ble_eq_true rfl, rfl⟩ | exact rfl | decide | (simp [allP]; done)) ?_
    conv => whnf
    refine ⟨⟨1, by decide⟩, (show 8 - 1 < 8 - 0 by decide), ?_⟩
    conv => whnf
    and_intros <;> rfl
  by_cases h1 : i = 1
  · subst h1
    conv => whnf
    refine And.intro (by simp only [allP, List.nil_append, List.cons_append, true_and]; decide) ?_
    conv => whnf
    refine ⟨[], ?_⟩
    conv => whnf
    refine And.intro (by simp only [allP, List.nil_append, List.cons_append, true_and]; and_intros <;> first | exact trivial | rfl | (simp [pvle, bl]; done)) ?_
    conv => whnf
    rw [nb1]
    refine And.intro (by first | exact Nat.le_of_ble_eq_true rfl | exact ⟨Nat.le_of_ble_eq_true rfl, rfl⟩ | exact rfl | decide | (simp [allP]; done)) ?_
    conv => whnf
    refine ⟨⟨2, by decide⟩, (show 8 - 2 < 8 - 1 by decide), ?_⟩
    conv => whnf
    and_intros <;> rfl
  by_cases h2 : i = 2
  · subst h2
    conv => whnf
    refine And.intro (by simp only [allP, List.nil_append, List.cons_append, true_and]; decide) ?_
    conv => whnf
    refine ⟨[1, 4, 0, 0, 0, 0, 10, 0], ?_⟩
    conv => whnf
    refine And.intro (by simp only [allP, List.nil_append, List.cons_append, true_and]; and_intros <;> first | exact trivial | rfl | (simp [pvle, bl]; done)) ?_
    conv => whnf
    rw [nb2]
    refine And.intro (by first | exact Nat.le_of_ble_eq_true rfl | exact ⟨Nat.le_of_ble_eq_true rfl, rfl⟩ | exact rfl | decide | (simp [allP]; done)) ?_
    conv => whnf
    refine ⟨⟨3, by decide⟩, (show 8 - 3 < 8 - 2 by decide), ?_⟩
    conv => whnf
    and_intros <;> rfl
  by_cases h3 : i = 3
  · subst h3
    conv => whnf
    refine And.intro (by simp only [allP, List.nil_append, List.cons_append, true_and]; decide) ?_
    conv => whnf
    refine ⟨[2, 4, 0, 0, 0, 0, 10], ?_⟩
    conv => whnf
    refine And.intro (by simp only [allP, List.nil_append, List.cons_append, true_and]; and_intros <;> first | exact trivial | rfl | (simp [pvle, bl]; done)) ?_
    conv => whnf
    rw [nb3]
    refine And.intro (by first | exact Nat.le_of_ble_eq_true rfl | exact ⟨Nat.le_of_ble_eq_true rfl, rfl⟩ | exact rfl | decide | (simp [allP]; done)) ?_
    conv => whnf
    refine ⟨⟨4, by decide⟩, (show 8 - 4 < 8 - 3 by decide), ?_⟩
    conv => whnf
    and_intros <;> rfl
  by_cases h4 : i = 4
  · subst h4
    conv => whnf
    refine And.intro (by simp only [allP, List.nil_append, List.cons_append, true_and]; decide) ?_
    conv => whnf
    refine ⟨[1, 4, 0, 0, 0, 0, 138, 0], ?_⟩
    conv => whnf
    refine And.intro (by simp only [allP, List.nil_append, List.cons_append, true_and]; and_intros <;> first | exact trivial | rfl | (simp [pvle, bl]; done)) ?_
    conv => whnf
    rw [nb4]
    refine And.intro (by first | exact Nat.le_of_ble_eq_true rfl | exact ⟨Nat.le_of_ble_eq_true rfl, rfl⟩ | exact rfl | decide | (simp [allP]; done)) ?_
    conv => whnf
    refine ⟨⟨5, by decide⟩, (show 8 - 5 < 8 - 4 by decide), ?_⟩
    conv => whnf
    and_intros <;> rfl
  by_cases h5 : i = 5
  · subst h5
    conv => whnf
    refine And.intro (by simp only [allP, List.nil_append, List.cons_append, true_and]; decide) ?_
    conv => whnf
    refine ⟨[1, 4, 0, 0, 0, 1, 10], ?_⟩
    conv => whnf
    refine And.intro (by simp only [allP, List.nil_append, List.cons_append, true_and]; and_intros <;> first | exact trivial | rfl | (simp [pvle, bl]; done)) ?_
    conv => whnf
    rw [nb5]
    refine And.intro (by first | exact Nat.le_of_ble_eq_true rfl | exact ⟨Nat.le_of_ble_eq_true rfl, rfl⟩ | exact rfl | decide | (simp [allP]; done)) ?_
    conv => whnf
    refine ⟨⟨6, by decide⟩, (show 8 - 6 < 8 - 5 by decide), ?_⟩
    conv => whnf
    and_intros <;> rfl
  by_cases h6 : i = 6
  · subst h6
    conv => whnf
    refine And.intro (by simp only [allP, List.nil_append, List.cons_append, true_and]; decide) ?_
    conv => whnf
    refine ⟨[1, 5, 0, 0, 0, 0, 10], ?_⟩
    conv => whnf
    refine And.intro (by simp only [allP, List.nil_append, List.cons_append, true_and]; and_intros <;> first | exact trivial | rfl | (simp [pvle, bl]; done)) ?_
    conv => whnf
    rw [nb6]
    refine And.intro (by first | exact Nat.le_of_ble_eq_true rfl | exact ⟨Nat.le_of_ble_eq_true rfl, rfl⟩ | exact rfl | decide | (simp [allP]; done)) ?_
    conv => whnf
    refine ⟨⟨7, by decide⟩, (show 8 - 7 < 8 - 6 by decide), ?_⟩
    conv => whnf
    and_intros <;> rfl
  by_cases h7 : i = 7
  · subst h7
    conv => whnf
    refine And.intro (by simp only [allP, List.nil_append, List.cons_append, true_and]; decide) ?_
    conv => whnf
    refine ⟨[1, 128, 4, 0, 0, 0, 0, 0], ?_⟩
    conv => whnf
    refine And.intro (by simp only [allP, List.nil_append, List.cons_append, true_and]; and_intros <;> first | exact trivial | rfl | (simp [pvle, bl]; done)) ?_
    conv => whnf
    rw [nb7]
    refine And.intro (by first | exact Nat.le_of_ble_eq_true rfl | exact ⟨Nat.le_of_ble_eq_true rfl, rfl⟩ | exact rfl | decide | (simp [allP]; done)) ?_
    conv => whnf
    refine ⟨⟨8, by decide⟩, (show 8 - 8 < 8 - 7 by decide), ?_⟩
    conv => whnf
    and_intros <;> rfl
  have h8 : i = 8 := by omega
  subst h8
  conv => whnf
  refine ⟨[1, 4, 0, 0, 0, 0, 10], ?_⟩
  conv => whnf
  refine And.intro (by simp only [allP, List.nil_append, List.cons_append, true_and]; and_intros <;> first | exact trivial | rfl) ?_
  (set_option smartUnfolding false in conv => whnf)
  rw [nbM]
  refine And.intro (by first | exact Nat.le_of_ble_eq_true rfl | exact ⟨Nat.le_of_ble_eq_true rfl, rfl⟩ | exact rfl | decide | (simp [allP]; done)) ?_
  (set_option smartUnfolding false in conv => whnf)
  refine And.intro ⟨⟨by decide, by decide⟩, by decide, by decide⟩ ?_
  (set_option smartUnfolding false in conv => whnf)
  refine And.intro ⟨⟨by decide, by decide⟩, by decide, by decide⟩ ?_
  (set_option smartUnfolding false in conv => whnf)
  refine And.intro (by first | exact Nat.le_of_ble_eq_true rfl | exact ⟨Nat.le_of_ble_eq_true rfl, rfl⟩ | exact rfl | decide | (simp [allP]; done)) ?_
  (set_option smartUnfolding false in conv => whnf)
  refine ⟨by rfl, ?_⟩
  (set_option smartUnfolding false in conv => whnf)
  refine And.intro (by first | exact Nat.le_of_ble_eq_true rfl | exact ⟨Nat.le_of_ble_eq_true rfl, rfl⟩ | exact rfl | decide | (simp [allP]; done)) ?_
  (set_option smartUnfolding false in conv => whnf)
  refine ⟨(true, x), ?_⟩
  conv => whnf
  refine And.intro (by simp only [allP, List.nil_append, List.cons_append, true_and]; exact ⟨by rw [hx]; rfl, by rw [hx]; rfl, by rw [hx]; rfl, by rw [hx]; rfl, by rw [hx]; rfl, by rw [hx]; rfl, by rw [hx]; rfl, by rw [hx]; rfl, by rw [hx]; rfl, by rw [hx]; rfl, by rw [hx]; exact pvEnt 5000 60000, by rw [hx]; exact repP 60000, hxo, by rw [hxl]; decide, by rw [hxl]; decide⟩) ?_
  (set_option smartUnfolding false in conv => whnf)
  refine And.intro ⟨⟨by decide, by decide⟩, by decide, by decide⟩ ?_
  (set_option smartUnfolding false in conv => whnf)
  refine And.intro (by simp only [allP, List.nil_append, List.cons_append, true_and]; exact ⟨by decide, by decide⟩) ?_
  (set_option smartUnfolding false in conv => whnf)
  refine And.intro (by first | exact Nat.le_of_ble_eq_true rfl | exact ⟨Nat.le_of_ble_eq_true rfl, rfl⟩ | exact rfl | decide | (simp [allP]; done)) ?_
  (set_option smartUnfolding false in conv => whnf)
  refine ⟨by rfl, ?_⟩
  (set_option smartUnfolding false in conv => whnf)
  refine And.intro (by first | exact Nat.le_of_ble_eq_true rfl | exact ⟨Nat.le_of_ble_eq_true rfl, rfl⟩ | exact rfl | decide | (simp [allP]; done)) ?_
  (set_option smartUnfolding false in conv => whnf)
  refine ⟨(false, y), ?_⟩
  conv => whnf
  refine And.intro (by simp only [allP, List.nil_append, List.cons_append, true_and]; exact ⟨by rw [hy]; rfl, by rw [hy]; rfl, by rw [hy]; rfl, by rw [hy]; rfl, by rw [hy]; rfl, by rw [hy]; rfl, by rw [hy]; rfl, by rw [hy]; rfl, by rw [hy]; rfl, by rw [hy]; rfl, by rw [hy]; exact pvEnt 5600 60000, by rw [hy]; exact repP 60000, hyo, by rw [hyl]; decide, by rw [hyl]; decide⟩) ?_
  (set_option smartUnfolding false in conv => whnf)
  refine ⟨7 :: en57 x, ?_⟩
  conv => whnf
  refine And.intro (by simp only [allP, List.nil_append, List.cons_append, true_and]; and_intros <;> first | exact trivial | rfl) ?_
  (set_option smartUnfolding false in conv => whnf)
  rw [hxg]
  refine And.intro (by first | exact Nat.le_of_ble_eq_true rfl | exact ⟨Nat.le_of_ble_eq_true rfl, rfl⟩ | exact rfl | decide | (simp [allP]; done)) ?_
  (set_option smartUnfolding false in conv => whnf)
  refine And.intro ⟨⟨by decide, by decide⟩, by decide, by decide⟩ ?_
  (set_option smartUnfolding false in conv => whnf)
  refine And.intro ⟨⟨by decide, by decide⟩, by decide, by decide⟩ ?_
  (set_option smartUnfolding false in conv => whnf)
  refine ⟨(true, p), ?_⟩
  conv => whnf
  refine And.intro (by simp only [allP, List.nil_append, List.cons_append, true_and]; exact ⟨by rw [hp]; rfl, by rw [hp]; rfl, by rw [hp]; exact pvRec2 59000 990, by rw [hp]; rfl, hpo, by rw [hpl]; decide, by rw [hpl]; decide⟩) ?_
  (set_option smartUnfolding false in conv => whnf)
  refine ⟨by rfl, ?_⟩
  (set_option smartUnfolding false in conv => whnf)
  refine And.intro ⟨⟨by decide, by decide⟩, by decide, by decide⟩ ?_
  (set_option smartUnfolding false in conv => whnf)
  refine And.intro ⟨⟨by decide, by decide⟩, by decide, by decide⟩ ?_
  (set_option smartUnfolding false in conv => whnf)
  refine ⟨(false, q), ?_⟩
  conv => whnf
  refine And.intro (by simp only [allP, List.nil_append, List.cons_append, true_and]; exact ⟨by rw [hq]; rfl, by rw [hq]; rfl, by rw [hq]; exact pvRec2 59000 991, by rw [hq]; rfl, hqo, by rw [hql]; decide, by rw [hql]; decide⟩) ?_
  (set_option smartUnfolding false in conv => whnf)
  refine ⟨by rfl, ?_⟩
  (set_option smartUnfolding false in conv => whnf)
  refine And.intro ⟨⟨by decide, by decide⟩, by decide, by decide⟩ ?_
  (set_option smartUnfolding false in conv => whnf)
  refine ⟨(false, r), ?_⟩
  conv => whnf
  refine And.intro (by simp only [allP, List.nil_append, List.cons_append, true_and]; exact ⟨by rw [hr]; rfl, by rw [hr]; rfl, by rw [hr]; exact pvRec1 60000, by rw [hr]; rfl, hro, by rw [hrl]; decide, by rw [hrl]; decide⟩) ?_
  (set_option smartUnfolding false in conv => whnf)
  refine And.intro (by simp only [allP, List.nil_append, List.cons_append, true_and]; simp [allP]) ?_
  (set_option smartUnfolding false in conv => whnf)
  refine ⟨[7, 2, 97], ?_⟩
  conv => whnf
  refine And.intro (by simp only [allP, List.nil_append, List.cons_append, true_and]; and_intros <;> first | exact trivial | rfl) ?_
  (set_option smartUnfolding false in conv => whnf)
  rw [nbR1]
  refine And.intro (by first | exact Nat.le_of_ble_eq_true rfl | exact ⟨Nat.le_of_ble_eq_true rfl, rfl⟩ | exact rfl | decide | (simp [allP]; done)) ?_
  (set_option smartUnfolding false in conv => whnf)
  refine And.intro (by simp only [allP, List.nil_append, List.cons_append, true_and]; simp [allP]) ?_
  (set_option smartUnfolding false in conv => whnf)
  refine And.intro (by simp only [allP, List.nil_append, List.cons_append, true_and]; exact ⟨by decide, by decide⟩) ?_
  (set_option smartUnfolding false in conv => whnf)
  refine ⟨[7, 0, 0, 0, 0, 0, 0, 0, 0, 0, 2, 0, 0], ?_⟩
  conv => whnf
  refine And.intro (by simp only [allP, List.nil_append, List.cons_append, true_and]; and_intros <;> first | exact trivial | rfl) ?_
  (set_option smartUnfolding false in conv => whnf)
  rw [nbR2]
  refine And.intro (by first | exact Nat.le_of_ble_eq_true rfl | exact ⟨Nat.le_of_ble_eq_true rfl, rfl⟩ | exact rfl | decide | (simp [allP]; done)) ?_
  (set_option smartUnfolding false in conv => whnf)
  refine And.intro ⟨⟨by decide, by decide⟩, by decide, by decide⟩ ?_
  (set_option smartUnfolding false in conv => whnf)
  refine ⟨(x.2.2.2.2.2.2.2.2.2.2.2, List.replicate 60000 0), ?_⟩
  conv => whnf
  refine And.intro (by simp only [allP, List.nil_append, List.cons_append, true_and]; exact ⟨rfl, repP 60000, trivial⟩) ?_
  (set_option smartUnfolding false in conv => whnf)
  rw [show decide (x.2.2.2.2.2.2.2.2.2.2.2 = List.replicate 60000 0) = true from decide_eq_true (by rw [hx]; rfl)]
  (set_option smartUnfolding false in conv => whnf)
  refine ⟨(), ?_⟩
  conv => whnf
  refine And.intro (by simp only [allP, List.nil_append, List.cons_append, true_and]; skip) ?_
  (set_option smartUnfolding false in conv => whnf)
  first | done | (and_intros <;> rfl)
theorem WireNumbers_sound : Sound Try.prog 5 lawWireNumbers := does_sound mixed tabOk_prog gNum_ok Try.func5 WireNumbers_does
end Go.Proofs.Ytingmlhhabaplaa.Ev
