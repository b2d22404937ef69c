/- A range over a closure that keeps its state in one cell, with a body that never leaves the loop: what holds between the rounds, told by their number. No conditions. -/
import Derived.RangeFuncNested
import Derived.RangeFuncBound
import Derived.RangeFuncCalls
import Derived.RangeFuncLeaves
import Derived.WalkKit
import Derived.Below
import Derived.Laws.BitsLemmas
import Derived.OneCell
import Derived.Laws.Rows
import Derived.RangeFuncBox
import Derived.RangeFuncOwn
import Derived.OwnWalk
import Derived.OwnWalkIn
namespace Go.Proofs.Ytonbbaimkpjcfaa.Range
open Go Go.RowKit
/-- A fact that the walk's tactics leave alone. -/
structure Aside0 (p : Prop) : Prop where
  mk ::
  (out : p)
theorem blk_lt {w : World} {g : Nat} {o : Obj} (h : w.heap[g]? = some o) : g < w.heap.size := (Array.getElem?_eq_some_iff.1 h).1
theorem blk_far {w : World} {g : Nat} {t : TypeId} {cs : Array Value} (h : w.heap[g]? = some (.cells cs t (0, 0))) {p : Addr} (hp : g ≠ p.block) (u : Value) : (w.setCell p u).heap[g]? = some (.cells cs t (0, 0)) := (Below.heap_setCell w p u g hp).trans h

/-- What a round asks and leaves: ahead of it J k, behind it J' k, and it goes on. -/
def Rounds (F : Fence) (n : Nat) (P : Program) (l N : Nat) (x : Nat → Array Value) (J J' : Nat → World → Prop) : Prop :=
  ∀ k W, k < N → J k W → YieldAt F n P l (x k) W fun e W' => e = .returned (.bool true) ∧ J' k W'
/-- A closure that hands over x 0 .. x (N - 1); between two rounds it writes its own cell. -/
def Hands (F : Fence) (n : Nat) (P : Program) (gf Bn N : Nat) (x : Nat → Array Value) (u : Nat → Value) : Prop :=
  ∀ (l : Nat) (J J' : Nat → World → Prop) (W : World), Rounds F (n - 1) P l N x J J' →
    (∀ k W, J k W → W.cell? ⟨Bn, 0, none⟩ = some (u k) ∧ W.frozen? ⟨Bn, 0, none⟩ = false) →
    (∀ k W, J' k W → W.cell? ⟨Bn, 0, none⟩ = some (u k) ∧ W.frozen? ⟨Bn, 0, none⟩ = false) →
    (∀ k W, k + 1 < N → J' k W → J (k + 1) (W.setCell ⟨Bn, 0, none⟩ (u (k + 1)))) → J 0 W →
    CallsIn F n P gf #[.func (.yield l) #[] #[], .pointer (some ⟨Bn, 0, none⟩)] W fun e W' => (∃ v, e = .returned v) ∧ J' (N - 1) W'
/-- What abides the turn of blocks that are no cells. -/
def Abides (B : Nat) (I : Nat → World → Prop) : Prop := ∀ k W l o o', I k W → B ≤ l → W.heap[l]? = some o → o.isCells = false → I k (W.putObj l o')
theorem setCell_other {W : World} {p : Addr} {v : Value} {i : Nat} {o : Obj} (h : W.heap[i]? = some o) (ho : o.isCells = false) : (W.setCell p v).heap[i]? = some o :=
  (KeepsOthers.setCell W p v).same i o h ho
theorem range_cell {F : Fence} {n : Nat} {P : Program} {g : Operand} {ps : Array Tmp} {assign body : Code} {Q : Exit → Act → World → Prop} {a : Act} {w : World}
    (hro : F.round = none) (h1 : 1 ≤ n) {gf Bn : Nat} (hg : a.eval g = .func (.func gf) #[] #[.pointer (some ⟨Bn, 0, none⟩)]) (hFg : F.fn gf) (eg : ∀ args w, (callFunc gf args).run P w = .ok (.enter gf args) w)
    {N : Nat} {x : Nat → Array Value} {u : Nat → Value} (hps : ∀ k, (x k).size = ps.size) (hh : Hands F (n - 1) P gf Bn N x u)
    (I I' : Nat → World → Prop) (hI : Abides w.heap.size I) (hI' : Abides w.heap.size I')
    (hc : ∀ k W, I k W → W.cell? ⟨Bn, 0, none⟩ = some (u k) ∧ W.frozen? ⟨Bn, 0, none⟩ = false) (hc' : ∀ k W, I' k W → W.cell? ⟨Bn, 0, none⟩ = some (u k) ∧ W.frozen? ⟨Bn, 0, none⟩ = false)
    (hstep : ∀ k W, k + 1 < N → I' k W → I (k + 1) (W.setCell ⟨Bn, 0, none⟩ (u (k + 1)))) (h0 : ∀ o o', I 0 ((w.alloc o).alloc o')) (a₁ : Nat → Act)
    (hassign : ∀ (l k : Nat) (W : World) (K : Act → World → Prop), K (a₁ k) W →
      assign.wpIn (F.inRound l) (n - 1 - 1) P (Exit.then K (fun _ _ _ => False)) { tmps := (ps.zip (x k)).foldl (fun t (p, v) => t.setIfInBounds p v) a.tmps, defers := [] } W)
    (hbody : ∀ (l k : Nat) (W : World), k < N → I k W → body.wpIn (F.inRound l) (n - 1 - 1) P (fun ex _ W' => ex = .normal ∧ KeepsOthers W W' ∧ I' k W') (a₁ k) W)
    (hdone : ∀ (D : Nat) (W : World), w.heap.size ≤ D → I' (N - 1) W → W.heap[D]? = some (.deferred (some [])) → Q .normal { a with defers := { target := .collected D, args := #[] } :: a.defers } W) :
    (Code.rangeFunc g ps assign body).wpIn F n P Q a w := by
  refine wpIn_rangeFunc ?_
  intro fn hfn
  rw [hro]
  obtain ⟨rec, hrec⟩ : ∃ rec : LoopState → Option Code → Loop, rec = fun st pe => { state := st, pending := pe, fn, tmps := a.tmps, params := ps, assign, body, defers := w.heap.size } := ⟨_, rfl⟩
  have hL1 : ((w.alloc (.deferred (some []))).alloc (.loop (rec .ready none))).heap[w.heap.size + 1]? = some (.loop (rec .ready none)) := by
    have := World.alloc_heap_new (w.alloc (.deferred (some []))) (.loop (rec .ready none))
    rwa [World.size_alloc] at this
  have hK1 : ((w.alloc (.deferred (some []))).alloc (.loop (rec .ready none))).heap[w.heap.size]? = some (.deferred (some [])) :=
    by
    show (((w.heap.push _).push _)[w.heap.size]?) = _
    rw [Array.getElem?_push_lt (by simp), Array.getElem_push_eq]
  have hJ1 := h0 (.deferred (some [])) (.loop (rec .ready none))
  obtain ⟨W1, hW1⟩ : ∃ W1, (w.alloc (.deferred (some []))).alloc (.loop (rec .ready none)) = W1 := ⟨_, rfl⟩
  rw [hW1] at hL1 hK1 hJ1
  refine ⟨w.heap.size + 1, [{ target := .collected w.heap.size, args := #[] }], W1, { target := .fn (.func gf) #[.pointer (some ⟨Bn, 0, none⟩)], args := #[.func (.yield (w.heap.size + 1)) #[] #[]] }, W1, gf,
    #[.func (.yield (w.heap.size + 1)) #[] #[]] ++ #[.pointer (some ⟨Bn, 0, none⟩)], W1, ?_, ?_, ?_, ?_, fun _ => h1, ?_⟩
  · rw [← hW1, hrec]
    exact run_enterLoop_outer _ _ _ _ _
  · simp only [resolve, hg]
    simp [go_sem]
  · intro f' hf'
    simp [Target.leads] at hf'
    subst hf'
    exact hFg
  · simp [invoke, go_sem, eg]
  · refine (hh (w.heap.size + 1)
      (fun k W => I k W ∧ W.heap[w.heap.size + 1]? = some (.loop (rec .ready none)) ∧ W.heap[w.heap.size]? = some (.deferred (some [])))
      (fun k W => I' k W ∧ W.heap[w.heap.size + 1]? = some (.loop (rec .ready none)) ∧ W.heap[w.heap.size]? = some (.deferred (some [])))
      _ ?_ (fun k W h => hc k W h.1) (fun k W h => hc' k W h.1) (fun k W hk h => ⟨hstep k W hk h.1, setCell_other h.2.1 rfl, setCell_other h.2.2 rfl⟩) ⟨hJ1, hL1, hK1⟩).mono ?_
    · rintro k W hk ⟨hi, hl, hd⟩
      have hlt : w.heap.size + 1 < W.heap.size := (Array.getElem?_eq_some_iff.1 hl).1
      have hy := run_yield (P := P) (args := x k) hl (by rw [hrec]; exact hps k)
      rw [hrec] at hy
      refine ⟨fn, _, assign, body, hy, roundIn_of_wpIn hfn (hassign _ k W _ ⟨_, run_beginRound hl (by rw [hrec]), ?_⟩)⟩
      have hl2 : (W.putObj (w.heap.size + 1) (.loop { rec .ready none with state := .busy })).heap[w.heap.size + 1]? = some (.loop { rec .ready none with state := .busy }) := World.putObj_heap_same hlt
      have hd2 : (W.putObj (w.heap.size + 1) (.loop { rec .ready none with state := .busy })).heap[w.heap.size]? = some (.deferred (some [])) := (World.putObj_heap_other (by omega)).trans hd
      refine wpIn_mono (hbody _ k _ hk (hI k W _ _ _ hi (by omega) hl rfl)) ?_
      rintro e a3 W3 ⟨rfl, hk3, hi3⟩
      have hl3 := hk3.same _ _ hl2 rfl
      have hr := run_endRound (P := P) none hl3
      refine ⟨_, _, hr, rfl, hI' k W3 _ _ _ hi3 (by omega) hl3 rfl, ?_, (World.putObj_heap_other (by omega)).trans (hk3.same _ _ hd2 rfl)⟩
      rw [World.putObj_heap_same (Array.getElem?_eq_some_iff.1 hl3).1, hrec]
      rfl
    · rintro e W2 ⟨⟨v, rfl⟩, hi, hl, hd⟩
      have hend := run_endLoop (P := P) hl (by rw [hrec]; simp)
      rw [hrec] at hend
      exact ⟨none, _, hend, hdone _ _ (Nat.le_refl _) (hI' _ _ _ _ _ hi (by omega) (by rw [hrec] at hl; exact hl) rfl) ((World.putObj_heap_other (by omega)).trans hd)⟩
theorem below_putObj {B : Nat} {w W : World} (h : Below B w W) (l : Nat) (o : Obj) (hB : B ≤ l) (hl : l < W.heap.size) : Below B w (W.putObj l o) :=
  h.trans ((Below.refl B W).grown (grownBy_putObj' W l o) (by omega) (fun k e => by cases e; omega))
end Go.Proofs.Ytonbbaimkpjcfaa.Range
