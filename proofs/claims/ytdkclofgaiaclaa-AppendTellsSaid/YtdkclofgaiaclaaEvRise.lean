/- Entries of given terms; entries whose terms rise; the examples. No conditions. -/
import Derived.Test.YtdkclofgaiaclaaEvHint
namespace Go.Proofs.Ytdkclofgaiaclaa.Ev
open Go
set_option linter.unusedVariables false
set_option linter.unusedSimpArgs false
set_option maxRecDepth 100000
def byteI (t : Int) : UInt8 := UInt8.ofNat (t % 256).toNat
theorem byteI_eq (t : Int) : PV.int .u8 (IntKind.u8.wrap t) = bv (byteI t) := by
  have h : IntKind.u8.wrap t = IntKind.u8.wrap (((t % 256).toNat : Nat) : Int) := by
    have : ((t % 256).toNat : Int) = t % 256 := Int.toNat_of_nonneg (Int.emod_nonneg _ (by decide))
    rw [this]
    show t % 256 = t % 256 % 256
    omega
  rw [h, byte_of]
  rfl
def ofV (l : List Int) : List Ent := l.map fun t => (t, [byteI t])
abbrev cOf : Ctr := ⟨List Int, 0, fun l => [.p false (.sl 1 (il .i64 l))], fun _ => [], fun l => l.length ≤ 1000000000, fun _ => .rowf 0, fun l => [(0, .row 34 2 true false (eL (ofV l)))]⟩
theorem of_does : Does gA4 tab Try.f15 cOf := by
  rintro l (h1 : l.length ≤ 1000000000)
  have hlen := il_length .i64 l
  conv => whnf
  refine ⟨{i : Nat // i ≤ l.length}, fun i => ⟨[(0, .p false (.sl 1 (il .i64 l))), (3, .rowf 0), (4, isI .i64 i.1)], [(0, .row 34 2 true false (eL (ofV (l.take i.1))))], 99⟩, fun i => l.length - i.1, ⟨⟨0, by omega⟩, ?_⟩, ?_⟩
  · conv => whnf
    simp only [allP, pvle_refl, Int.natCast_zero, hlen, List.take_zero, and_self, and_true, true_and] <;> (try simp only [pvle, hlen, List.take_zero, and_self, and_true, true_and])
    rfl
  rintro ⟨i, hi⟩
  show aw _ _ _ _ _ _ ⟨[(0, .p false (.sl 1 (il .i64 l))), (3, .rowf 0), (4, isI .i64 i)], [(0, .row 34 2 true false (eL (ofV (l.take i))))], 99⟩
  conv => whnf
  split <;> rename_i hb <;> rw [hb] <;> conv => whnf
  · simp only [decide_eq_true_eq, hlen] at hb
    have hlt : i < l.length := by omega
    have htk : l.take (i + 1) = l.take i ++ [l[i]] := by rw [List.take_add_one, List.getElem?_eq_getElem hlt]; rfl
    have hw : IntKind.i64.wrap ((i : Int) + 1) = ((i + 1 : Nat) : Int) := by rw [wrap_i64 (by omega) (by omega)]; rfl
    have hg : (il .i64 l).getD ((i : Nat) : Int).toNat (PV.int .i64 0) = .int .i64 l[i] := by
      rw [Int.toNat_natCast, il_getD, List.getD_eq_getElem?_getD, List.getElem?_eq_getElem hlt]; rfl
    refine And.intro (by simp only [allP, List.nil_append, List.cons_append, true_and]; rw [hlen]; omega) ?_
    conv => whnf
    rw [hg]
    conv => whnf
    refine And.intro (by simp only [allP, List.nil_append, List.cons_append, true_and]; rw [hlen]; omega) ?_
    conv => whnf
    rw [hg]
    conv => whnf
    have hrow : eL (ofV (l.take i)) ++ [PV.agg [.int .i64 l[i], .sl (0 + 1) [.int .u8 (IntKind.u8.wrap l[i])]]] = eL (ofV (l.take (i + 1))) := by
      rw [htk, byteI_eq]; unfold ofV; rw [List.map_append, eL_append]; rfl
    refine And.intro (by simp only [allP, List.nil_append, List.cons_append, true_and]; rw [eL_length, ofV, List.length_map, List.length_take]; simp only [List.length_cons, List.length_nil]; omega) ?_
    conv => whnf
    refine ⟨by rfl, ?_⟩
    conv => whnf
    refine ⟨⟨i + 1, by omega⟩, by simp only; omega, ?_⟩
    conv => whnf
    simp only [allP, pvle_refl, Int.natCast_zero, hw, hrow, and_self, and_true, true_and] <;> (try simp only [pvle, hw, hrow, and_self, and_true, true_and])
  · simp only [decide_eq_false_iff_not, hlen] at hb
    have : i = l.length := by omega
    subst this
    rw [List.take_length]
theorem of_sound : Sound Try.prog 15 cOf := does_sound mixed tabOk_prog gA4_ok Try.func15 of_does
/-- Terms that rise. -/
def rt (term : Int) (steps : List Int) : Nat → Int
  | 0 => term
  | k + 1 => rt term steps k + pickV (steps.getD k 0) 5 / 2
def rE (first term : Int) (steps : List Int) (k : Nat) : Ent := (rt term steps (k + 1), [byteI (first + k), byteI (rt term steps (k + 1))])
def risV (first term : Int) (steps : List Int) : List Ent := (List.range (min steps.length 30)).map (rE first term steps)
theorem rt_bd (term : Int) (steps : List Int) : ∀ k, term ≤ rt term steps k ∧ rt term steps k ≤ term + 2 * k
  | 0 => ⟨Int.le_refl _, by show term ≤ _; omega⟩
  | k + 1 => by
    have h := rt_bd term steps k
    have hp := pickV_bd (x := steps.getD k 0) (n := 5) (by omega)
    show term ≤ rt term steps k + pickV (steps.getD k 0) 5 / 2 ∧ rt term steps k + pickV (steps.getD k 0) 5 / 2 ≤ term + 2 * ((k + 1 : Nat) : Int)
    omega
theorem risV_length (first term : Int) (steps : List Int) : (risV first term steps).length = min steps.length 30 := by simp [risV]
abbrev cRis : Ctr := ⟨Int × Int × List Int, 0, fun (f, t, l) => [isI .i64 f, isI .i64 t, .p false (.sl 1 (il .i64 l))], fun _ => [], fun (f, t, l) => small f ∧ small t ∧ ∀ x ∈ l, -9223372036854775808 ≤ x ∧ x ≤ 9223372036854775807,
  fun _ => .rowf 0, fun (f, t, l) => [(0, .row 34 2 true false (eL (risV f t l)))]⟩
def gA5 : List (FuncId × Ctr) := (10, cPick) :: (15, cOf) :: gA4
theorem gA5_ok : GamOk Try.prog gA5 := GamOk.cons (GamOk.cons gA4_ok Try.func15 (by kernel_rfl) (by kernel_rfl) of_sound) Try.func10 (by kernel_rfl) (by kernel_rfl) pick_sound
theorem rising_does : Does gA5 tab Try.f9 cRis := by
  rintro ⟨f, t, l⟩ ⟨h1, h2, h3⟩
  have hlen := il_length .i64 l
  have hrl := risV_length f t l
  conv => whnf
  refine ⟨{i : Nat // i ≤ min l.length 30}, fun i => ⟨[(0, isI .i64 f), (1, isI .i64 (rt t l i.1)), (2, .p false (.sl 1 (il .i64 l))), (7, .rowf 0), (8, isI .i64 i.1)], [(0, .row 34 2 true false (eL ((List.range i.1).map (rE f t l))))], 99⟩, fun i => 30 - i.1, ⟨⟨0, by omega⟩, ?_⟩, ?_⟩
  · conv => whnf
    simp only [allP, pvle_refl, Int.natCast_zero, hlen, and_self, and_true, true_and] <;> (try simp only [pvle, hlen, and_self, and_true, true_and])
    exact ⟨rfl, rfl⟩
  rintro ⟨i, hi⟩
  show aw _ _ _ _ _ _ ⟨[(0, isI .i64 f), (1, isI .i64 (rt t l i)), (2, .p false (.sl 1 (il .i64 l))), (7, .rowf 0), (8, isI .i64 i)], [(0, .row 34 2 true false (eL ((List.range i).map (rE f t l))))], 99⟩
  conv => whnf
  rw [hlen]
  cases hb : decide (((i : Nat) : Int) < ((l.length : Nat) : Int))
  · simp only [decide_eq_false_iff_not] at hb
    have : i = min l.length 30 := by omega
    conv => whnf
    subst this
    rfl
  · simp only [decide_eq_true_eq] at hb
    conv => whnf
    cases hb2 : decide (((i : Nat) : Int) < 30)
    · simp only [decide_eq_false_iff_not] at hb2
      have : i = min l.length 30 := by omega
      conv => whnf
      subst this
      rfl
    · simp only [decide_eq_true_eq] at hb2
      conv => whnf
      have hlt : i < l.length := by omega
      have hg : (il .i64 l).getD ((i : Nat) : Int).toNat (PV.int .i64 0) = .int .i64 (l.getD i 0) := by rw [Int.toNat_natCast, il_getD]
      refine And.intro (by simp only [allP, List.nil_append, List.cons_append, true_and]; rw [hlen]; omega) ?_
      conv => whnf
      rw [hg]
      conv => whnf
      have hx := h3 l[i] (List.getElem_mem hlt)
      have hx9 : l.getD i 0 = l[i] := by rw [List.getD_eq_getElem?_getD, List.getElem?_eq_getElem hlt]; rfl
      rw [← hx9] at hx
      refine ⟨(l.getD i 0, 5), ?_⟩
      conv => whnf
      refine And.intro (by simp only [allP, List.nil_append, List.cons_append, true_and]; exact ⟨rfl, rfl, hx.1, hx.2, by decide, by decide⟩) ?_
      conv => whnf
      have hp := pickV_bd (x := l.getD i 0) (n := 5) (by omega)
      have hr := rt_bd t l i
      have hq : IntKind.i64.wrap ((pickV (l.getD i 0) 5).tdiv 2) = pickV (l.getD i 0) 5 / 2 := by
        rw [show (pickV (l.getD i 0) 5).tdiv 2 = pickV (l.getD i 0) 5 / 2 from Int.tdiv_eq_ediv_of_nonneg hp.1, wrap_i64 (by omega) (by omega)]
      have hr1 : IntKind.i64.wrap (rt t l i + pickV (l.getD i 0) 5 / 2) = rt t l (i + 1) := by rw [wrap_i64 (by omega) (by omega)]; rfl
      have hfi : IntKind.i64.wrap (f + ((i : Nat) : Int)) = f + (i : Nat) := wrap_i64 (by omega) (by omega)
      have hw : IntKind.i64.wrap ((i : Int) + 1) = ((i + 1 : Nat) : Int) := by rw [wrap_i64 (by omega) (by omega)]; rfl
      have hrow : eL ((List.range i).map (rE f t l)) ++ [PV.agg [.int .i64 (rt t l (i + 1)), .sl (0 + 1) [.int .u8 (IntKind.u8.wrap (f + (i : Nat))), .int .u8 (IntKind.u8.wrap (rt t l (i + 1)))]]] = eL ((List.range (i + 1)).map (rE f t l)) := by
        rw [List.range_succ, List.map_append, eL_append, byteI_eq, byteI_eq]; rfl
      refine And.intro (by simp only [allP, List.nil_append, List.cons_append, true_and]; decide) ?_
      conv => whnf
      rw [hq]
      conv => whnf
      rw [hr1, hfi]
      refine And.intro (by simp only [allP, List.nil_append, List.cons_append, true_and]; rw [eL_length, List.length_map, List.length_range]; simp only [List.length_cons, List.length_nil]; omega) ?_
      conv => whnf
      refine ⟨⟨i + 1, by omega⟩, by simp only; omega, ?_⟩
      conv => whnf
      simp only [allP, pvle_refl, Int.natCast_zero, hw, hrow, and_self, and_true, true_and] <;> (try simp only [pvle, hw, hrow, and_self, and_true, true_and])
theorem rising_sound : Sound Try.prog 9 cRis := does_sound mixed tabOk_prog gA5_ok Try.func9 rising_does
theorem entsOk_of (l : List Int) (h : l.length ≤ 1000000000) : entsOk (ofV l) := ⟨by rw [ofV, List.length_map]; omega, fun e he => by
  obtain ⟨t, _, rfl⟩ := List.mem_map.1 he
  show (1 : Nat) ≤ 140737488355328
  omega⟩
abbrev cAwake : Ctr := ⟨Unit, 0, fun _ => [], fun _ => [], fun _ => True, fun _ => isB true, fun _ => []⟩
theorem awake_does : Does gA5 tab Try.f12 cAwake := by
  rintro - -
  conv => whnf
  refine ⟨[1, 1, 2], ?_⟩
  conv => whnf
  refine And.intro (by simp only [allP, List.nil_append, List.cons_append, true_and]; exact ⟨rfl, by decide⟩) ?_
  conv => whnf
  refine ⟨[2, 2], ?_⟩
  conv => whnf
  refine And.intro (by simp only [allP, List.nil_append, List.cons_append, true_and]; exact ⟨rfl, by decide⟩) ?_
  conv => whnf
  have m1 : mergeV 0 0 (ofV [1, 1, 2]) 2 1 (ofV [2, 2]) = (ofV [1, 1, 2, 2], 4, true) := by decide
  have m2 : mergeV 0 0 (ofV [1, 1, 2]) 2 1 (ofV [3]) = (ofV [1, 1, 3], 3, true) := by decide
  have m3 : termV 0 0 (ofV [1, 1, 2]) 3 = (2, true) := by decide
  refine ⟨(0, 0, ofV [1, 1, 2], 2, 1, ofV [2, 2]), ?_⟩
  conv => whnf
  refine And.intro (by simp only [allP, List.nil_append, List.cons_append, true_and]; exact ⟨rfl, rfl, rfl, rfl, rfl, rfl, by decide, by decide, entsOk_of _ (by decide), entsOk_of _ (by decide), by decide⟩) ?_
  conv => whnf
  rw [m1]
  refine ⟨[3], ?_⟩
  conv => whnf
  refine And.intro (by simp only [allP, List.nil_append, List.cons_append, true_and]; exact ⟨rfl, by decide⟩) ?_
  conv => whnf
  refine ⟨(0, 0, ofV [1, 1, 2], 2, 1, ofV [3]), ?_⟩
  conv => whnf
  refine And.intro (by simp only [allP, List.nil_append, List.cons_append, true_and]; exact ⟨rfl, rfl, rfl, rfl, rfl, rfl, by decide, by decide, entsOk_of _ (by decide), entsOk_of _ (by decide), by decide⟩) ?_
  conv => whnf
  rw [m2]
  refine ⟨(0, 0, ofV [1, 1, 2], 3), ?_⟩
  conv => whnf
  refine And.intro (by simp only [allP, List.nil_append, List.cons_append, true_and]; exact ⟨rfl, rfl, rfl, rfl, by decide, by decide, by decide⟩) ?_
  conv => whnf
  rw [m3]
  refine ⟨[1, 1, 2, 2], ?_⟩
  conv => whnf
  refine And.intro (by simp only [allP, List.nil_append, List.cons_append, true_and]; exact ⟨rfl, by decide⟩) ?_
  conv => whnf
  refine ⟨(ofV [1, 1, 2, 2], ofV [1, 1, 2, 2]), ?_⟩
  conv => whnf
  refine And.intro (by simp only [allP, List.nil_append, List.cons_append, true_and]; exact ⟨rfl, rfl, by decide⟩) ?_
  conv => whnf
  refine ⟨[1, 1, 3], ?_⟩
  conv => whnf
  refine And.intro (by simp only [allP, List.nil_append, List.cons_append, true_and]; exact ⟨rfl, by decide⟩) ?_
  conv => whnf
  refine ⟨(ofV [1, 1, 3], ofV [1, 1, 3]), ?_⟩
  conv => whnf
  refine And.intro (by simp only [allP, List.nil_append, List.cons_append, true_and]; exact ⟨rfl, rfl, by decide⟩) ?_
  conv => whnf
  rfl
theorem awake_sound : Sound Try.prog 12 cAwake := does_sound mixed tabOk_prog gA5_ok Try.func12 awake_does
def gA6 : List (FuncId × Ctr) := (9, cRis) :: (12, cAwake) :: gA5
theorem gA6_ok : GamOk Try.prog gA6 := GamOk.cons (GamOk.cons gA5_ok Try.func12 (by kernel_rfl) (by kernel_rfl) awake_sound) Try.func9 (by kernel_rfl) (by kernel_rfl) rising_sound
end Go.Proofs.Ytdkclofgaiaclaa.Ev
