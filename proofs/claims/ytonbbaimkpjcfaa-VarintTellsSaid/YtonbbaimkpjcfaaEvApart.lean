/- Try. No conditions. -/
import Derived.Test.YtonbbaimkpjcfaaEvDoes
import Derived.Test.YtonbbaimkpjcfaaProg
import Derived.WalkKit
import Derived.Below
import Derived.Deep.QuietTactic
import Derived.BigQuiet
import Derived.Deep.RegionHeld3
import Derived.Deep.Upon
import Derived.Room.AppendUpon
namespace Go.Proofs.Ytonbbaimkpjcfaa.Apart
open Go Go.RowKit Go.Proofs.Ytonbbaimkpjcfaa.Ev
structure Aside0 (p : Prop) : Prop where
  out : p
set_option linter.unusedVariables false
/-- The mark of a place. -/
def mk0 (k i : Int) : Int := IntKind.u64.wrap (IntKind.u64.wrap (wrap64 (wrap64 (1000003 * wrap64 (k + 7)) + i)) * 11400714819323198485) / 72057594037927936 % 256
theorem wpList_run {P : Program} {ops : Array Oper} {rest : List Oper} {o : Oper} {a : Act} {w w' : World} {v : Value} {Q : Exit → Act → World → Prop} (hg : o.guard = none) (h : (execOp a.eval o).run P w = .ok (.value v) w')
    (k : wpList P ops Q rest (a.put o.dst v) w') : wpList P ops Q (o :: rest) a w :=
  wpList_plain hg fun K hK => by
    show Oper.upon P o a K Q _
    rw [h]
    exact hK _ _ k
set_option maxRecDepth 100000 in
set_option maxHeartbeats 3200000 in
theorem mark0 (k i : Int) (w : World) : Calls Try.prog 49 #[.int .i64 k, .int .i64 i] w fun e w' => e = .returned (.int .u8 (mk0 k i)) ∧ w' = w := by
  go_enter Try.func49, Try.ntmps49
  go_wp2
  go_ret
  exact ⟨rfl, rfl⟩
section
variable {mk : Int → Int → Int}
/-- The lists' own memory, marked so far. -/
def Marked (mk : Int → Int → Int) (w wr : World) (ie : TypeId) (K k i : Nat) (B n cp : Nat → Nat) : Prop :=
  wr.heap.size = w.heap.size ∧ wr.os = w.os ∧ wr.tape = w.tape ∧ wr.output = w.output ∧ (∀ b, (∀ q, q < K → 0 < cp q → b ≠ B q) → wr.heap[b]? = w.heap[b]?) ∧
  ∀ q, q < K → 0 < cp q → ∃ cur : Array Value, wr.heap[B q]? = some (.cells cur ie (0, 0)) ∧ cur.size = cp q ∧ ∀ j, j < n q → (q < k ∨ q = k ∧ j < i) → cur.getD j undef = .int .u8 (mk q j)
theorem cell_at {w : World} {b k : Nat} {cur : Array Value} {e : TypeId} {fz : Nat × Nat} (h : w.heap[b]? = some (.cells cur e fz)) (hk : k < cur.size) : w.cell? ⟨b, k, none⟩ = some (cur.getD k undef) := by
  simp [World.cell?, h, Array.getD_eq_getD_getElem?, hk]
theorem Marked.cellG {w1 wr : World} {ie : TypeId} {K k i G q : Nat} {B n cp : Nat → Nat} {cur : Array Value} {e : TypeId} (M : Marked mk w1 wr ie K k i B n cp) (hG : w1.heap[G]? = some (.cells cur e (0, 0))) (hB : ∀ q, q < K → 0 < cp q → B q ≠ G) (hq : q < cur.size) : wr.cell? ⟨G, q, none⟩ = some (cur.getD q undef) := by
  obtain ⟨_, _, _, _, h, _⟩ := M
  exact cell_at (by rw [h G fun q h1 h2 h3 => hB q h1 h2 h3.symm]; exact hG) hq
theorem Marked.cellB {w1 wr : World} {ie : TypeId} {K k i j : Nat} {B n cp : Nat → Nat} (M : Marked mk w1 wr ie K k i B n cp) (hk : k < K) (hj : j < cp k) : ∃ v, wr.cell? ⟨B k, j, none⟩ = some v ∧ wr.frozen? ⟨B k, j, none⟩ = false := by
  obtain ⟨_, _, _, _, _, h⟩ := M
  obtain ⟨cur, h1, h2, _⟩ := h k hk (by omega)
  exact ⟨_, cell_at h1 (by omega), by simp [World.frozen?, h1]⟩
theorem Marked.step {w1 wr : World} {ie : TypeId} {K k i : Nat} {B n cp : Nat → Nat} (M : Marked mk w1 wr ie K k i B n cp) (hk : k < K) (hi : i < n k) (hn : n k ≤ cp k) (hne : ∀ k q, k < K → q < K → 0 < cp k → 0 < cp q → B k = B q → k = q) :
    Marked mk w1 (wr.setCell ⟨B k, i, none⟩ (.int .u8 (mk k i))) ie K k (i + 1) B n cp := by
  obtain ⟨h1, h2, h3, h4, h5, h6⟩ := M
  have hs : ∀ b, b ≠ B k → (wr.setCell ⟨B k, i, none⟩ (.int .u8 (mk k i))).heap[b]? = wr.heap[b]? := fun b hb => by simp [World.setCell, Array.getElem?_modify, Ne.symm hb]
  refine ⟨by simpa [World.setCell] using h1, h2, h3, h4, fun b hb => ?_, fun q hq hc => ?_⟩
  · rw [hs b (hb k hk (by omega))]
    exact h5 b hb
  · by_cases hqk : q = k
    · subst hqk
      obtain ⟨cur, c1, c2, c3⟩ := h6 q hq hc
      refine ⟨cur.setIfInBounds i (.int .u8 (mk q i)), by simp [World.setCell, Array.getElem?_modify, c1], by simp [c2], fun j hj hor => ?_⟩
      rw [Array.getD_eq_getD_getElem?, Array.getElem?_setIfInBounds]
      by_cases hij : i = j
      · subst hij
        rw [if_pos rfl, if_pos (by omega)]
        rfl
      · rw [if_neg hij, ← Array.getD_eq_getD_getElem?]
        exact c3 j hj (by omega)
    · obtain ⟨cur, c1, c2, c3⟩ := h6 q hq hc
      exact ⟨cur, by rw [hs _ (fun e => hqk (hne q k hq hk hc (by omega) e))]; exact c1, c2, fun j hj hor => c3 j hj (by omega)⟩
theorem Marked.next {w1 wr : World} {ie : TypeId} {K k : Nat} {B n cp : Nat → Nat} (M : Marked mk w1 wr ie K k (n k) B n cp) : Marked mk w1 wr ie K (k + 1) 0 B n cp := by
  obtain ⟨h1, h2, h3, h4, h5, h6⟩ := M
  refine ⟨h1, h2, h3, h4, h5, fun q hq hc => ?_⟩
  obtain ⟨cur, c1, c2, c3⟩ := h6 q hq hc
  refine ⟨cur, c1, c2, fun j hj hor => c3 j hj ?_⟩
  rcases hor with h | ⟨rfl, h⟩
  · by_cases hqk : q = k
    · subst hqk; exact .inr ⟨rfl, hj⟩
    · exact .inl (by omega)
  · omega
section
theorem setCells_tape (g : Nat) : ∀ (vs : List Value) (o : Nat) (w : World), (w.setCells g o vs).tape = w.tape
  | [], _, _ => rfl
  | _ :: vs, o, w => setCells_tape g vs (o + 1) _
variable {P : Program}
theorem append_tape {W : World} {e : TypeId} {size : Nat} {ao : Option Addr} {b off len cap : Nat} {olds : List Value} (hc : Came W size ao b off len cap olds)
    (t tx ty : TypeId) (i : TypeInfo) (z : Value) (bytes : Nat) (ht : P.underlying t = some (.slice e)) (hi : P.info? e = some i) (hz : i.zero = some z) (hsize : i.size = size) (hby : i.bytes = bytes) (hmax : cap ≤ maxLen)
    {w : World} {v : Value} {m : Nat} {ks : List Value} {r : Nat} (h : Upon W e size ao b off len cap olds w v m ks r)
    (x : Value) (n : Nat) (news : List Value) (hs : Src P size tx x n news w) (h0 : 0 < n) (h63 : len + m + n ≤ maxLen) (hbytes : (len + m + n) * bytes ≤ 140737488355328) {v' : Value} {w' : World}
    (hr : (Builtin.append_ #[t, tx] ty #[v, x]).run P w = .ok v' w') : w'.tape = w.tape := by
  subst hsize
  subst hby
  have hold := h.hold (P := P) hc hmax
  obtain ⟨base, c', hv⟩ := h.shape
  subst hv
  have hsmall : len + m + n ≤ 9223372036854775807 := by simp only [maxLen] at h63; omega
  by_cases hroom : len + m + n ≤ c'
  · have hone := hs.one
    have hnl := hs.newsLen
    have key : ∀ (b' o' : Nat), base = some ⟨b', o', none⟩ → (∀ j, j < news.length → (w.cell? ⟨b', o' + (len + m) * i.size + j, none⟩).isSome = true) → (∀ j, j < news.length → w.frozen? ⟨b', o' + (len + m) * i.size + j, none⟩ = false) → w'.tape = w.tape := fun b' o' hb h1 h2 => by
      subst hb
      rw [run_append_room_src (P := P) w t tx ty e i ht hi b' o' (len + m) c' x n news hs hroom h1 h2] at hr
      injection hr with _ hw
      rw [← hw]
      exact setCells_tape _ _ _ _
    rcases h.val with ⟨hle, hv, hrr⟩ | ⟨hgt, g, c2, hv, ho⟩
    · injection hv with a1 a2 a3
      subst a1; subst a3
      have hcap : 0 < c' := by omega
      have eaddr : ∀ j, off + (len + m) * i.size + j = off + len * i.size + (m * i.size + j) := fun j => by rw [Nat.add_mul]; omega
      have hrc : (m + n) * i.size ≤ (c' - len) * i.size := Nat.mul_le_mul_right _ (by omega)
      rw [Nat.add_mul] at hrc
      have hkl := h.ksLen
      refine key b off (hc.addr hcap) (fun j hj => ?_) (fun j hj => ?_)
      · rw [h.old (hc.lt hcap) (fun j' a1 ⟨_, a3⟩ => by rw [eaddr] at a3; omega), eaddr]
        exact (hc.spare (m * i.size + j) (by omega)).1
      · rw [h.frozen _ (hc.lt hcap), eaddr]
        exact (hc.spare (m * i.size + j) (by omega)).2
    · injection hv with a1 a2 a3
      subst a1; subst a3
      have hrc : (len + m + n) * i.size ≤ c' * i.size := Nat.mul_le_mul_right _ hroom
      rw [Nat.add_mul] at hrc
      refine key g 0 rfl (fun j hj => ?_) (fun j hj => ?_)
      · rw [Nat.zero_add]; exact (ho.there _ (by omega)).1
      · rw [Nat.zero_add]; exact (ho.there _ (by omega)).2
  · rw [run_append_grow_src (P := P) w t tx ty e i z ht hi hz base (len + m) c' (olds ++ ks) hold x n news hs (by omega) (by omega) (growslice_fits (by omega) hbytes)] at hr
    injection hr with _ hw
    rw [← hw]
    rfl
theorem wpList_append_upon' (w : World) {ops : Array Oper} {rest : List Oper} {o : Oper} {a : Act} {Q : Exit → Act → World → Prop} (hgd : o.guard = none) (s x : Operand) (t tx : TypeId)
    (ho : o.op = .call { callee := .builtin .append, args := #[s, x], argTypes := #[t, tx] })
    {W : World} {e : TypeId} {size : Nat} {ao : Option Addr} {b off len cap : Nat} {olds : List Value} (hc : Came W size ao b off len cap olds)
    (i : TypeInfo) (z : Value) (bytes : Nat) (ht : P.underlying t = some (.slice e)) (hi : P.info? e = some i) (hz : i.zero = some z) (hsize : i.size = size) (hby : i.bytes = bytes) (hzs : z.cells.size = size) (hmax : cap ≤ maxLen)
    {v : Value} {m : Nat} {ks : List Value} {r : Nat} (hv : a.eval s = v) (h : Upon W e size ao b off len cap olds w v m ks r)
    (xv : Value) (n : Nat) (news : List Value) (hx : a.eval x = xv) (hs : Src P size tx xv n news w) (h0 : 0 < n) (h63 : len + m + n ≤ maxLen) (hbytes : (len + m + n) * bytes ≤ 140737488355328)
    (hK : ∀ v' w', Upon W e size ao b off len cap olds w' v' (m + n) (ks ++ news) (Upon.next len cap size m r n) → w'.tape = w.tape → wpList P ops Q rest (a.put o.dst v') w') : wpList P ops Q (o :: rest) a w := by
  refine wpList_plain hgd fun K hK' => ?_
  obtain ⟨v', w', hrun, r'⟩ := run_append_upon (P := P) hc t tx o.type i z bytes ht hi hz hsize hby hzs h xv n news hs h63 hbytes
  have ht' := append_tape hc t tx o.type i z bytes ht hi hz hsize hby hmax h xv n news hs h0 h63 hbytes hrun
  unfold Oper.wp
  simp [execOp, ho, resolve, invoke, builtin, hv, hx, hrun, Result.andThen]
  exact hK' _ _ (hK v' w' r' ht')
end
def marks (mk : Int → Int → Int) (k a m : Nat) : List Value := (List.range m).map fun (j : Nat) => .int .u8 (mk k ((a + j : Nat) : Int))
theorem marks_length (k a m : Nat) : (marks mk k a m).length = m := by simp [marks]
theorem marks_get (k a m j : Nat) (h : j < m) : (marks mk k a m)[j]? = some (.int .u8 (mk k ((a + j : Nat) : Int))) := by
  rw [marks, List.getElem?_map, List.getElem?_range h]; rfl
theorem marks_succ (k a m : Nat) : marks mk k a (m + 1) = marks mk k a m ++ [.int .u8 (mk k ((a + m : Nat) : Int))] := by
  simp [marks, List.range_succ]
/-- The second round: each list with forty marks more, old and new. -/
def Grown (mk : Int → Int → Int) (w1 ws wr : World) (K k gs : Nat) (B n cp : Nat → Nat) : Prop :=
  w1.heap.size ≤ wr.heap.size ∧ wr.os = w1.os ∧ (wr.tape = w1.tape ∧ wr.output = w1.output) ∧ (∀ b, b < w1.heap.size → b ≠ gs → (∀ q, q < k → 0 < cp q → b ≠ B q) → wr.heap[b]? = ws.heap[b]?) ∧
  (∀ q, q < k → ∀ j, j < n q → wr.cell? ⟨B q, j, none⟩ = some (.int .u8 (mk q j))) ∧
  ∃ cur : Array Value, wr.heap[gs]? = some (.cells cur 23 (0, 0)) ∧ cur.size = K ∧ ∀ q, q < k → ∃ g c', cur.getD q undef = .slice (some ⟨g, 0, none⟩) (n q + 40) c' ∧ (0 < cp q ∧ g = B q ∨ w1.heap.size ≤ g) ∧ ∀ j, j < n q + 40 → wr.cell? ⟨g, j, none⟩ = some (.int .u8 (mk q j))
section
variable {w1 ws wr : World} {ie : TypeId} {K k gs : Nat} {B n cp : Nat → Nat} {A : Nat → Option Addr} {made : Array Value}
theorem Grown.start (M : Marked mk w1 ws ie K K 0 B n cp) (hg : w1.heap[gs]? = some (.cells made 23 (0, 0))) (hm : made.size = K) (hB : ∀ q, q < K → 0 < cp q → B q < gs) : Grown mk w1 ws ws K 0 gs B n cp := by
  obtain ⟨h1, h2, h3, h4, h5, h6⟩ := M
  exact ⟨Nat.le_of_eq h1.symm, h2, ⟨h3, h4⟩, fun _ _ _ _ => rfl, fun q hq => absurd hq (Nat.not_lt_zero _), made, by rw [h5 gs fun q a b => Nat.ne_of_gt (hB q a b)]; exact hg, hm, fun q hq => absurd hq (Nat.not_lt_zero _)⟩
theorem Grown.cellG {G q : Nat} {cur : Array Value} {e : TypeId} (Gr : Grown mk w1 ws wr K k gs B n cp) (M : Marked mk w1 ws ie K K 0 B n cp) (hk : k ≤ K) (hG : w1.heap[G]? = some (.cells cur e (0, 0))) (hB : ∀ q, q < K → 0 < cp q → B q ≠ G) (hne : G ≠ gs) (hq : q < cur.size) : wr.cell? ⟨G, q, none⟩ = some (cur.getD q undef) := by
  obtain ⟨_, _, _, h, _⟩ := Gr
  obtain ⟨_, _, _, _, h5, _⟩ := M
  exact cell_at (by rw [h G (Array.getElem?_eq_some_iff.1 hG).1 hne fun q h1 h2 h3 => hB q (by omega) h2 h3.symm, h5 G fun q h1 h2 h3 => hB q h1 h2 h3.symm]; exact hG) hq
theorem Grown.came (Gr : Grown mk w1 ws wr K k gs B n cp) (M : Marked mk w1 ws ie K K 0 B n cp) (hk : k < K) (hn : n k ≤ cp k) (hA : 0 < cp k → A k = some ⟨B k, 0, none⟩) (hBl : 0 < cp k → B k < gs) (hgs : gs < w1.heap.size)
    (hne : ∀ q, q < K → 0 < cp q → 0 < cp k → B k = B q → k = q) : Came wr 1 (A k) (B k) 0 (n k) (cp k) (marks mk k 0 (n k)) := by
  obtain ⟨g1, g2, g3, g4, g5, cur, g6, g7, g8⟩ := Gr
  obtain ⟨h1, h2, h3, h4, h5, h6⟩ := M
  have hblk : 0 < cp k → ∃ cu : Array Value, wr.heap[B k]? = some (.cells cu ie (0, 0)) ∧ cu.size = cp k ∧ ∀ j, j < n k → cu.getD j undef = .int .u8 (mk k j) := fun hc => by
    obtain ⟨cu, c1, c2, c3⟩ := h6 k hk hc
    refine ⟨cu, ?_, c2, fun j hj => c3 j hj (.inl hk)⟩
    have := hBl hc
    rw [g4 (B k) (by omega) (by omega) fun q hq hcq he => by have := hne q (by omega) hcq hc he; omega]
    exact c1
  refine ⟨hn, hA, fun hc => by have := hBl hc; omega, by rw [marks_length, Nat.mul_one], fun j u hu => ?_, fun j hj => ?_⟩
  · by_cases hj : j < n k
    · rw [marks_get _ _ _ _ hj] at hu
      obtain rfl := Option.some.inj hu
      obtain ⟨cu, c1, c2, c3⟩ := hblk (by omega)
      rw [Nat.zero_add, cell_at c1 (by omega), c3 j hj]
    · rw [List.getElem?_eq_none (by rw [marks_length]; omega)] at hu
      cases hu
  · obtain ⟨cu, c1, c2, c3⟩ := hblk (by omega)
    rw [cell_at c1 (by omega)]
    exact ⟨rfl, by simp [World.frozen?, c1]⟩
theorem Grown.step (Gr : Grown mk w1 ws wr K k gs B n cp) (hk : k < K) (hA : 0 < cp k → A k = some ⟨B k, 0, none⟩) (hBl : ∀ q, q < K → 0 < cp q → B q < gs) (hgs : gs < w1.heap.size)
    (hne : ∀ q, q < K → 0 < cp q → 0 < cp k → B k = B q → k = q) (hn : ∀ q, q < K → n q ≤ cp q) {w' : World} {v : Value} {r : Nat} (hc : Came wr 1 (A k) (B k) 0 (n k) (cp k) (marks mk k 0 (n k)))
    (h : Upon wr 5 1 (A k) (B k) 0 (n k) (cp k) (marks mk k 0 (n k)) w' v 40 (marks mk k (n k) 40) r) (hT : w'.tape = wr.tape) : Grown mk w1 ws (w'.setCell ⟨gs, k, none⟩ v) K (k + 1) gs B n cp := by
  obtain ⟨g1, g2, g3, g4, g5, cur, g6, g7, g8⟩ := Gr
  have hsz := h.kept.size
  have hgw : gs < wr.heap.size := by omega
  have hset : ∀ b, b ≠ gs → (w'.setCell ⟨gs, k, none⟩ v).heap[b]? = w'.heap[b]? := fun b hb => by simp [World.setCell, Array.getElem?_modify, Ne.symm hb]
  have hcell : ∀ b o, b ≠ gs → (w'.setCell ⟨gs, k, none⟩ v).cell? ⟨b, o, none⟩ = w'.cell? ⟨b, o, none⟩ := fun b o hb => World.cell?_of_block (a := ⟨b, o, none⟩) (hset b hb)
  have hcp : ∀ {j}, j < r → 0 < cp k := fun hj => h.capPos hj
  have hblk : ∀ b, b < wr.heap.size → (0 < cp k → b ≠ B k) → w'.heap[b]? = wr.heap[b]? := fun b hb hn => h.kept.block hb (by rintro p ⟨j, hj, rfl⟩ e; exact hn (hcp hj) e.symm)
  have hcat : ∀ j, j < n k + 40 → (marks mk k 0 (n k) ++ marks mk k (n k) 40)[j]? = some (.int .u8 (mk k j)) := fun j hj => by
    by_cases h1 : j < n k
    · rw [List.getElem?_append_left (by rw [marks_length]; exact h1), marks_get _ _ _ _ h1, Nat.zero_add]
    · rw [List.getElem?_append_right (by rw [marks_length]; omega), marks_length, marks_get _ _ _ _ (by omega), show n k + (j - n k) = j by omega]
  have hold : ∀ b o, b < wr.heap.size → (b = B k → 0 < cp k → o < n k) → w'.cell? ⟨b, o, none⟩ = wr.cell? ⟨b, o, none⟩ := fun b o hb ho => h.old hb fun j hj ⟨e1, e2⟩ => by have := ho e1 (hcp hj); omega
  refine ⟨by simpa [World.setCell] using (by omega : w1.heap.size ≤ w'.heap.size), h.kept.1.trans g2, ⟨hT.trans g3.1, h.kept.2.1.trans g3.2⟩, fun b hb hbg hbq => ?_, fun q hq j hj => ?_, cur.setIfInBounds k v, ?_, by simpa using g7, fun q hq => ?_⟩
  · rw [hset b hbg, hblk b (by omega) fun hc => hbq k (by omega) hc]
    exact g4 b hb hbg fun q hq hc => hbq q (by omega) hc
  · have hcq : 0 < cp q := by have := hn q (by omega); omega
    have hlt := hBl q (by omega) hcq
    rw [hcell _ _ (by omega)]
    by_cases hqk : q = k
    · subst hqk
      rw [hold _ _ (by omega) fun _ _ => hj]
      have := hc.olds j _ (marks_get q 0 (n q) j hj)
      simpa using this
    · rw [hold _ _ (by omega) fun e hck => absurd (hne q (by omega) hcq hck e.symm) (by omega)]
      exact g5 q (by omega) j hj
  · have : w'.heap[gs]? = some (.cells cur 23 (0, 0)) := (hblk gs hgw fun hc => by have := hBl k hk hc; omega).trans g6
    simp [World.setCell, Array.getElem?_modify, this]
  · by_cases hqk : q = k
    · subst hqk
      rw [Array.getD_eq_getD_getElem?, Array.getElem?_setIfInBounds, if_pos rfl, if_pos (by omega), Option.getD_some]
      rcases h.val with ⟨hle, rfl, hr⟩ | ⟨_, g, c', rfl, ho⟩
      · have hcq : 0 < cp q := by omega
        have hlt := hBl q hk hcq
        refine ⟨B q, cp q, by rw [hA hcq], .inl ⟨hcq, rfl⟩, fun j hj => ?_⟩
        rw [hcell _ _ (by omega)]
        have := h.inArray hc hcq hr j (by omega)
        rw [Nat.zero_add] at this
        rw [this, hcat j hj]
      · have := ho.new
        refine ⟨g, c', rfl, .inr (by omega), fun j hj => ?_⟩
        rw [hcell _ _ (by omega), ho.holds j (by omega), hcat j hj]
    · obtain ⟨g, c', e1, e2, e3⟩ := g8 q (by omega)
      refine ⟨g, c', ?_, e2, fun j hj => ?_⟩
      · rw [Array.getD_eq_getD_getElem?, Array.getElem?_setIfInBounds, if_neg (by omega), ← Array.getD_eq_getD_getElem?]
        exact e1
      · have hgl : g < wr.heap.size := World.block_lt_of_cell? _ _ (e3 j hj)
        have hgg : g ≠ gs := by
          rcases e2 with ⟨a, b⟩ | b
          · have := hBl q (by omega) a; omega
          · omega
        rw [hcell _ _ hgg, hold _ _ hgl fun e hck => ?_]
        · exact e3 j hj
        · exfalso
          have := hBl k hk hck
          rcases e2 with ⟨a, b⟩ | b
          · have := hne q (by omega) a hck (by omega); omega
          · omega
theorem Grown.cellW {q : Nat} (Gr : Grown mk w1 ws wr K k gs B n cp) (hq : q < K) : ∃ v0, wr.cell? ⟨gs, q, none⟩ = some v0 ∧ wr.frozen? ⟨gs, q, none⟩ = false := by
  obtain ⟨g1, g2, g3, g4, g5, cur, g6, g7, g8⟩ := Gr
  exact ⟨_, cell_at g6 (by omega), by simp [World.frozen?, g6]⟩
theorem Grown.done {w : World} (Gr : Grown mk w1 ws wr K K gs B n cp) (M : Marked mk w1 ws ie K K 0 B n cp) (hh : w1.heap = w.heap.push (.cells made 23)) (ho : w1.os = w.os ∧ w1.tape = w.tape ∧ w1.output = w.output) (hgs : gs = w.heap.size) :
    w.heap.size ≤ wr.heap.size ∧ wr.os = w.os ∧ (wr.tape = w.tape ∧ wr.output = w.output) ∧ ∀ b, b < w.heap.size → (∀ q, q < K → 0 < cp q → b ≠ B q) → wr.heap[b]? = w.heap[b]? := by
  obtain ⟨g1, g2, g3, g4, _⟩ := Gr
  obtain ⟨h1, h2, h3, h4, h5, h6⟩ := M
  have hs : w1.heap.size = w.heap.size + 1 := by rw [hh]; simp
  refine ⟨by omega, g2.trans ho.1, ⟨g3.1.trans ho.2.1, g3.2.trans ho.2.2⟩, fun b hb hq => ?_⟩
  rw [g4 b (by omega) (by omega) hq, h5 b hq, hh, Array.getElem?_push, if_neg (by omega)]
theorem Grown.drewN (Gr : Grown mk w1 ws wr K k gs B n cp) {m : Nat} : Grown mk w1 ws (wr.drewN m) K k gs B n cp := Gr
theorem Grown.drew (Gr : Grown mk w1 ws wr K k gs B n cp) : Grown mk w1 ws wr.drew K k gs B n cp := Gr
theorem Grown.cellS {q : Nat} (Gr : Grown mk w1 ws wr K K gs B n cp) (hq : q < K) : ∃ g c', wr.cell? ⟨gs, q, none⟩ = some (.slice (some ⟨g, 0, none⟩) (n q + 40) c') ∧ ∀ j, j < n q + 40 → wr.cell? ⟨g, j, none⟩ = some (.int .u8 (mk q j)) := by
  obtain ⟨g1, g2, g3, g4, g5, cur, g6, g7, g8⟩ := Gr
  obtain ⟨g, c', e1, e2, e3⟩ := g8 q hq
  exact ⟨g, c', by rw [cell_at g6 (by omega), e1], e3⟩
theorem Grown.cellO {q j : Nat} (Gr : Grown mk w1 ws wr K K gs B n cp) (hq : q < K) (hj : j < n q) : wr.cell? ⟨B q, j, none⟩ = some (.int .u8 (mk q j)) := Gr.2.2.2.2.1 q hq j hj
end
theorem wr64 {j : Nat} (h : j + 1 ≤ 140737488355100) : wrap64 ((j : Int) + 1) = (j : Int) + 1 := by unfold wrap64; omega
theorem meas {N j : Nat} (h : j < N) : N - (intOf (.int .i64 ((j : Int) + 1))).toNat < N - (intOf (.int .i64 (j : Int))).toNat := by simp [intOf]; omega
theorem bnd1 {a j : Nat} (h : a ≤ 140737488355000) (hj : j < 40) : a + j + 1 ≤ maxLen := by simp only [maxLen]; omega
theorem bnd2 {a j : Nat} (h : a ≤ 140737488355000) (hj : j < 40) : (a + j + 1) * 1 ≤ 140737488355328 := by omega
end
theorem info5 : (Try.prog.info? 5).map (fun i => (i.zero, i.size, i.bytes)) = some (some (.int .u8 0), 1, 1) := by kernel_rfl
set_option maxRecDepth 100000 in
set_option maxHeartbeats 3200000 in
theorem apart_any (mk : Int → Int → Int) (hmark : Aside0 (∀ (k i : Int) (w : World), Calls Try.prog 49 #[.int .i64 k, .int .i64 i] w fun e w' => e = .returned (.int .u8 (mk k i)) ∧ w' = w)) (K G capG : Nat) (A : Nat → Option Addr) (B n cp : Nat → Nat) (ie : TypeId) (cur0 : Array Value) (w : World) (hK : K ≤ 1000000) (hG : w.heap[G]? = some (.cells cur0 23 (0, 0))) (hcs : K ≤ cur0.size)
    (hL : ∀ k, k < K → cur0.getD k undef = .slice (A k) (n k) (cp k)) (hn : ∀ k, k < K → n k ≤ cp k ∧ cp k ≤ maxLen) (hnB : ∀ k, k < K → n k ≤ 140737488355000) (hA : ∀ k, k < K → 0 < cp k → A k = some ⟨B k, 0, none⟩)
    (hB : ∀ k, k < K → 0 < cp k → B k ≠ G ∧ ∃ cur : Array Value, w.heap[B k]? = some (.cells cur ie (0, 0)) ∧ cur.size = cp k) (hne : ∀ k q, k < K → q < K → 0 < cp k → 0 < cp q → B k = B q → k = q) :
    Calls Try.prog 42 #[.slice (some ⟨G, 0, none⟩) K capG] w fun e w' => e = .returned (.bool true) ∧ w.heap.size ≤ w'.heap.size ∧ w'.os = w.os ∧ (w'.tape = w.tape ∧ w'.output = w.output) ∧ ∀ b, b < w.heap.size → (∀ q, q < K → 0 < cp q → b ≠ B q) → w'.heap[b]? = w.heap[b]? := by
  obtain ⟨ti, hti⟩ : ∃ i : TypeInfo, Try.prog.info? 23 = some i := Option.isSome_iff_exists.1 (by kernel_rfl)
  have hts : ti.size = 1 := by
    have h : (Try.prog.info? 23).map (·.size) = some 1 := by kernel_rfl
    rw [hti] at h; exact Option.some.inj h
  have htb : ti.bytes = 24 := by
    have h : (Try.prog.info? 23).map (·.bytes) = some 24 := by kernel_rfl
    rw [hti] at h; exact Option.some.inj h
  have htz : ti.zero = some (.slice none 0 0) := by
    have h : (Try.prog.info? 23).map (·.zero) = some (some (.slice none 0 0)) := by kernel_rfl
    rw [hti] at h; exact Option.some.inj h
  have hmk := run_make (P := Try.prog) w 59 23 ti (.slice none 0 0) Try.underlying59 hti htz .i64 .i64 K K (by omega) (Int.le_refl _) (by rw [htb]; omega) (by omega)
  rw [hts, Int.toNat_natCast, Nat.mul_one] at hmk
  generalize hmc : madeCells (Value.slice none 0 0).cells K = made at hmk
  have hms : made.size = K := by rw [← hmc]; simp [size_madeCells]
  obtain ⟨w1, hw1⟩ : ∃ w1, w.alloc (.cells made 23) = w1 := ⟨_, rfl⟩
  have hh1 : w1.heap = w.heap.push (.cells made 23) := by rw [← hw1]; rfl
  have ho1 : w1.os = w.os ∧ w1.tape = w.tape ∧ w1.output = w.output := by rw [← hw1]; exact ⟨rfl, rfl, rfl⟩
  have hG1 : w1.heap[G]? = some (.cells cur0 23 (0, 0)) := by
    have hlt : G < w.heap.size := (Array.getElem?_eq_some_iff.1 hG).1
    rw [hh1, Array.getElem?_push, if_neg (by omega)]; exact hG
  have hBlt : ∀ k, k < K → 0 < cp k → B k < w.heap.size := fun k hk hc => by
    obtain ⟨_, cur, h1, _⟩ := hB k hk hc
    exact (Array.getElem?_eq_some_iff.1 h1).1
  have hBG : ∀ q, q < K → 0 < cp q → B q ≠ G := fun q h1 h2 => (hB q h1 h2).1
  have hMK := Aside0.mk hmk
  clear hmk
  go_enter Try.func42, Try.ntmps42
  go_wp2_with (at_make; refine wpList_run (w' := w1) (v := .slice (some ⟨w.heap.size, 0, none⟩) K K) rfl (by rw [← hw1]; exact run_vok hMK.out) ?_)
  go_loopw [4] (fun z wr => ∃ k : Nat, k ≤ K ∧ z = .int .i64 k ∧ Marked mk w1 wr ie K k 0 B n cp) (fun z _ => K - (intOf z).toNat)
  case atStart =>
    refine ⟨0, Nat.zero_le _, rfl, rfl, rfl, rfl, rfl, fun _ _ => rfl, fun q hq hc => ?_⟩
    obtain ⟨_, cur, h1, h2⟩ := hB q hq hc
    exact ⟨cur, by rw [hh1, Array.getElem?_push, if_neg (by have := hBlt q hq hc; omega)]; exact h1, h2, fun j hj hor => by omega⟩
  case round =>
    obtain ⟨k, hk, rfl, hM⟩ := hrel
    have HM := Aside0.mk hM
    clear hM
    by_cases hlt : k < K
    · have hcell : wr.cell? ⟨G, k, none⟩ = some (.slice (A k) (n k) (cp k)) := by rw [HM.out.cellG hG1 hBG (q := k) (by omega), hL k hlt]
      have hd1 : decide ((k : Int) < (K : Int)) = true := decide_eq_true (by omega)
      have hc1 : (0 : Int) ≤ (k : Int) := by omega
      have hc2 : (k : Int) < (K : Int) := by omega
      go_wp2
      go_loopw [5] (fun z wr => ∃ i : Nat, i ≤ n k ∧ z = .int .i64 i ∧ Marked mk w1 wr ie K k i B n cp) (fun z _ => n k - (intOf z).toNat)
      case atStart => exact ⟨0, Nat.zero_le _, rfl, HM.out⟩
      case round =>
        obtain ⟨i, hi, rfl, hM2⟩ := hrel
        have HM2 := Aside0.mk hM2
        clear hM2 hcell
        have hcell : wr.cell? ⟨G, k, none⟩ = some (.slice (A k) (n k) (cp k)) := by rw [HM2.out.cellG hG1 hBG (q := k) (by omega), hL k hlt]
        by_cases hlt2 : i < n k
        · have hd2 : decide ((i : Int) < (n k : Int)) = true := decide_eq_true (by omega)
          have hcpk : 0 < cp k := by have := (hn k hlt).1; omega
          rw [hA k hlt hcpk] at hcell
          obtain ⟨v0, hv0, hf0⟩ := HM2.out.cellB (j := i) hlt (by have := (hn k hlt).1; omega)
          have hc3 : (0 : Int) ≤ (i : Int) := by omega
          have hc4 : (i : Int) < (n k : Int) := by omega
          go_wp2
          have hBGk : B k ≠ G := hBG k hlt hcpk
          have hw64 : wrap64 ((i : Int) + 1) = (i : Int) + 1 := by have := hn k hlt; simp only [maxLen] at this; unfold wrap64; omega
          go_region_held3 (fun w' => w'.cell? ⟨G, k, none⟩ = some (.slice (some ⟨B k, 0, none⟩) (n k) (cp k))) (go_keep) ((go_at_call 49; refine (hmark.out _ _ _).mono ?_; rintro e w' ⟨rfl, rfl⟩))
          all_goals go_wp2
          all_goals go_roundw
          case rel => exact ⟨i + 1, by omega, by rw [hw64]; rfl, HM2.out.step hlt hlt2 (hn k hlt).1 hne⟩
          case measure => rw [hw64]; simp [intOf]; omega
        · have hie : i = n k := by omega
          subst hie
          have hd2 : decide ((n k : Int) < (n k : Int)) = false := decide_eq_false (by omega)
          go_wp2
          go_roundw
          case rel => exact ⟨k + 1, by omega, rfl, HM2.out.next⟩
          case measure => simp [intOf]; omega
    · have hke : k = K := by omega
      subst hke
      have hd1 : decide ((k : Int) < (k : Int)) = false := decide_eq_false (by omega)
      have hgs1 : w1.heap[w.heap.size]? = some (.cells made 23 (0, 0)) := by rw [hh1]; simp
      have hgs2 : w.heap.size < w1.heap.size := by rw [hh1]; simp
      obtain ⟨ws, rfl⟩ : ∃ x, x = wr := ⟨_, rfl⟩
      have hGl : G < w.heap.size := (Array.getElem?_eq_some_iff.1 hG).1
      have HG := Aside0.mk (Grown.start HM.out hgs1 hms fun q a b => hBlt q a b)
      obtain ⟨i0, hi0, hz0, hz1, hz2⟩ := info_parts info5
      go_wp2
      go_loopw [6] (fun z wq => ∃ p : Nat, p ≤ k ∧ z = .int .i64 p ∧ Grown mk w1 ws wq k p w.heap.size B n cp) (fun z _ => k - (intOf z).toNat)
      case atStart => exact ⟨0, Nat.zero_le _, rfl, HG.out⟩
      case round =>
        obtain ⟨wk, rfl⟩ : ∃ x, x = wr := ⟨_, rfl⟩
        obtain ⟨p, hp, rfl, hG3⟩ := hrel
        have HG3 := Aside0.mk hG3
        clear hG3
        by_cases hlt : p < k
        · have hnp := hn p hlt
          have hcell : wk.cell? ⟨G, p, none⟩ = some (.slice (A p) (n p) (cp p)) := by rw [HG3.out.cellG HM.out hp hG1 hBG (by omega) (by omega), hL p hlt]
          have hd2 : decide ((p : Int) < (k : Int)) = true := decide_eq_true (by omega)
          have hc1 : (0 : Int) ≤ (p : Int) := by omega
          have hc2 : (p : Int) < (k : Int) := by omega
          have hc := HG3.out.came HM.out hlt hnp.1 (hA p hlt) (fun h => hBlt p hlt h) hgs2 fun q h1 h2 h3 => hne p q hlt h1 h3 h2
          have HC := Aside0.mk hc
          clear hc
          have hGl2 : G < wk.heap.size := by have := HG3.out.1; omega
          go_wp2
          go_loopw [7, 8] (fun v z wq => ∃ j r : Nat, j ≤ 40 ∧ z = .int .i64 j ∧ wq.tape = wk.tape ∧ Upon wk 5 1 (A p) (B p) 0 (n p) (cp p) (marks mk p 0 (n p)) wq v j (marks mk p (n p) j) r) (fun _ z _ => 40 - (intOf z).toNat)
          case atStart => exact ⟨0, 0, by omega, rfl, rfl, Upon.start HC.out⟩
          case round =>
            obtain ⟨j, r, hj, rfl, hT, hU⟩ := hrel
            have HT := Aside0.mk hT
            clear hT
            have hcell2 := (hU.old (o' := p) hGl2 fun t ht e => hBG p hlt (hU.capPos ht) e.1.symm).trans hcell
            obtain ⟨a', c', hv⟩ := hU.shape
            subst hv
            have HU := Aside0.mk hU
            clear hU hcell
            by_cases hlt2 : j < 40
            · have hd3 : decide ((j : Int) < 40) = true := decide_eq_true (by omega)
              have hw64 : wrap64 ((n p : Int) + (j : Int)) = ((n p + j : Nat) : Int) := by have := hnB p hlt; unfold wrap64; omega
              have hsrc : Src Try.prog 1 23 (.slice (some ⟨wr.heap.size, 0, none⟩) 1 1) 1 [.int .u8 (mk p ((n p + j : Nat) : Int))] (wr.alloc (.cells #[.int .u8 (mk p ((n p + j : Nat) : Int))] 5)) :=
                Src.ofSlice _ Try.underlying23 ⟨wr.heap.size, 0, none⟩ 1 1 [.int .u8 (mk p ((n p + j : Nat) : Int))] rfl (by intro j u hj; match j, hj with | 0, hj => simp at hj; subst hj; simp [Addr.add]) (by intro u hu; simp at hu; subst hu; rfl)
              have HS := Aside0.mk hsrc
              clear hsrc
              go_wp2_with (first | (go_at_call 49; refine (hmark.out _ _ _).mono ?_; rintro e w' ⟨rfl, rfl⟩; try rw [hw64]) | (at_builtin; refine wpList_append_upon' _ rfl (.tmp 52) (.tmp 62) 23 23 rfl HC.out i0 (.int .u8 0) 1 Try.underlying23 hi0 hz0 hz1 hz2 rfl (hn p hlt).2 rfl (HU.out.alloc HC.out _) _ 1 _ rfl HS.out Nat.one_pos (bnd1 (hnB p hlt) hlt2) (bnd2 (hnB p hlt) hlt2) ?_))
              intro v' w2 hup hT2
              have HT2 := Aside0.mk hT2
              clear hT2
              obtain ⟨a2, c2, hv⟩ := hup.shape
              subst hv
              have HU2 := Aside0.mk hup
              clear hup HS
              go_wp2
              go_roundw
              case rel => exact ⟨j + 1, _, by omega, rfl, HT2.out.trans HT.out, by rw [marks_succ]; exact HU2.out⟩
              case measure => simp [intOf]; omega
            · have hje : j = 40 := by omega
              subst hje
              have hd3 : decide (((40 : Nat) : Int) < 40) = false := by decide
              obtain ⟨v0, hv0, hf0⟩ := HG3.out.cellW hlt
              have hgk : w.heap.size < wk.heap.size := by have := HG3.out.1; omega
              have hst := (HU.out.old (o' := p) hgk fun t ht e => by have := hBlt p hlt (HU.out.capPos ht); omega).trans hv0
              have hfz := (HU.out.frozen ⟨w.heap.size, p, none⟩ hgk).trans hf0
              go_wp2
              go_roundw
              case rel => exact ⟨p + 1, by omega, rfl, HG3.out.step hlt (hA p hlt) (fun q a b => hBlt q a b) hgs2 (fun q a b c e => hne p q hlt a c b e) (fun q a => (hn q a).1) HC.out HU.out HT.out⟩
              case measure => simp [intOf]; omega
        · have hpk : p = k := by omega
          subst hpk
          have hd2 : decide ((p : Int) < (p : Int)) = false := decide_eq_false (by omega)
          go_wp2
          go_loopw [9] (fun z wq => ∃ q : Nat, q ≤ p ∧ z = .int .i64 q ∧ Grown mk w1 ws wq p p w.heap.size B n cp) (fun z _ => p - (intOf z).toNat)
          case atStart => exact ⟨0, Nat.zero_le _, rfl, HG3.out⟩
          case round =>
            obtain ⟨q, hq, rfl, hG4⟩ := hrel
            have HG4 := Aside0.mk hG4
            clear hG4
            by_cases hltq : q < p
            · have hd4 : decide ((q : Int) < (p : Int)) = true := decide_eq_true (by omega)
              have hc1 : (0 : Int) ≤ (q : Int) := by omega
              have hc2 : (q : Int) < (p : Int) := by omega
              go_wp2
              go_loopw [10] (fun z wq => ∃ j : Nat, j ≤ n q + 40 ∧ z = .int .i64 j ∧ Grown mk w1 ws wq p p w.heap.size B n cp) (fun z _ => n q + 40 - (intOf z).toNat)
              case atStart => exact ⟨0, Nat.zero_le _, rfl, HG4.out⟩
              case round =>
                obtain ⟨j, hj, rfl, hG5⟩ := hrel
                have HG5 := Aside0.mk hG5
                clear hG5
                obtain ⟨g, c', e1, e2⟩ := HG5.out.cellS hltq
                by_cases hltj : j < n q + 40
                · have hd5 : decide ((j : Int) < ((n q + 40 : Nat) : Int)) = true := decide_eq_true (by omega)
                  have hd5' : decide ((j : Int) < (n q : Int) + 40) = true := decide_eq_true (by omega)
                  have hc3 : (0 : Int) ≤ (j : Int) := by omega
                  have hc4 : (j : Int) < ((n q + 40 : Nat) : Int) := by omega
                  have hc5 : (j : Int) < (n q : Int) + 40 := by omega
                  have hjB : j + 1 ≤ 140737488355100 := by have := hnB q hltq; omega
                  have e3 := e2 j hltj
                  clear e2
                  have hcG : wr.cell? ⟨G, q, none⟩ = some (.slice (A q) (n q) (cp q)) := by rw [HG5.out.cellG HM.out (Nat.le_refl _) hG1 hBG (by omega) (by omega), hL q hltq]
                  have HJ := Aside0.mk hjB
                  by_cases hjn : j < n q
                  · have hcq : 0 < cp q := by have := (hn q hltq).1; omega
                    rw [hA q hltq hcq] at hcG
                    have hcO := HG5.out.cellO hltq hjn
                    have hd6 : decide ((j : Int) < (n q : Int)) = true := decide_eq_true (by omega)
                    have hc6 : (j : Int) < (n q : Int) := by omega
                    go_wp2
                    go_quiet ((go_at_call 49; exact Calls.quiet_of_same (hmark.out _ _ _)))
                    clear hjB hd5 hd5' hd6 hc1 hc2 hc3 hc4 hc5 hc6 hd4 hd2
                    go_wp2
                    go_roundw
                    case rel => exact ⟨j + 1, hltj, by rw [wr64 HJ.out]; rfl, HG5.out.drewN⟩
                    case measure => rw [wr64 HJ.out]; exact meas hltj
                  · have hd6 : decide ((j : Int) < (n q : Int)) = false := decide_eq_false (by omega)
                    go_wp2
                    go_quiet ((go_at_call 49; exact Calls.quiet_of_same (hmark.out _ _ _)))
                    clear hjB hd5 hd5' hd6 hc1 hc2 hc3 hc4 hc5 hd4 hd2
                    go_wp2
                    go_roundw
                    case rel => exact ⟨j + 1, hltj, by rw [wr64 HJ.out]; rfl, HG5.out.drewN⟩
                    case measure => rw [wr64 HJ.out]; exact meas hltj
                · have hjn : j = n q + 40 := by omega
                  subst hjn
                  have hd5 : decide (((n q + 40 : Nat) : Int) < ((n q + 40 : Nat) : Int)) = false := decide_eq_false (by omega)
                  have hd5' : decide ((n q : Int) + 40 < (n q : Int) + 40) = false := decide_eq_false (by omega)
                  go_wp2
                  go_roundw
                  case rel => exact ⟨q + 1, by omega, rfl, HG5.out⟩
                  case measure => simp [intOf]; omega
            · have hqp : q = p := by omega
              subst hqp
              have hd4 : decide ((q : Int) < (q : Int)) = false := decide_eq_false (by omega)
              go_wp2
              go_ret
              exact ⟨rfl, HG4.out.done HM.out hh1 ho1 rfl⟩
/-- Lists that share no memory, marked, grown and read again. -/
def cApart : Ctr := ⟨List (List PV), 1, fun _ => [.rowf 0], fun ls => [(0, .tree 23 1 5 (ls.map fun l => [.ow l]))], fun ls => 0 < ls.length ∧ ls.length ≤ 1000000 ∧ ∀ l ∈ ls, l.length ≤ 140737488355000, fun _ => isB true, fun _ => [(0, .gone)]⟩
theorem apart_sound : Sound Try.prog 42 cApart := by
  rintro (ls : List (List PV)) ⟨(hK0 : 0 < ls.length), (hK : ls.length ≤ 1000000), (hlen : ∀ l ∈ ls, l.length ≤ 140737488355000)⟩ w F1 F2 ρ cs hh ha _
  obtain ⟨_, hsz, hm, hinj, hout⟩ := hh.obj 0 _ rfl
  obtain ⟨hcs1, hcs2⟩ := ha
  have harg := hcs2 0 _ rfl
  have htc : ∀ i, i < ls.length → tcAt (ls.map fun l => [TC.ow l]) i 0 = some (.ow (ls.getD i [])) := fun i hi => by
    simp [tcAt, List.getElem?_eq_getElem hi, List.getD_eq_getElem?_getD]
  cases hρ : ρ.rho 0 with
  | none =>
    rw [hρ] at hm
    obtain rfl : ls = [] := List.map_eq_nil_iff.1 hm
    exact absurd hK0 (Nat.lt_irrefl _)
  | some gc =>
    obtain ⟨g, cap⟩ := gc
    rw [hρ] at hm
    obtain ⟨cur, c1, c2, c3, c4, c5⟩ := hm
    rw [List.length_map] at c2
    have hex : ∀ i : Nat, ∃ y : Option Addr × Nat × Nat, i < ls.length → cur.getD i undef = .slice y.1 (ls.getD i []).length y.2.2 ∧ (ls.getD i []).length ≤ y.2.2 ∧ y.2.2 ≤ maxLen ∧
        (0 < y.2.2 → y.1 = some ⟨y.2.1, 0, none⟩ ∧ ρ.iota 0 i 0 = some (y.2.1, y.2.2) ∧ ∃ cu : Array Value, w.heap[y.2.1]? = some (.cells cu 5 (0, 0)) ∧ cu.size = y.2.2) := fun i => by
      by_cases hi : i < ls.length
      · obtain ⟨s1, s2, s3, s4⟩ := c5 i 0 _ (htc i hi)
        rw [Nat.mul_one, Nat.add_zero] at s1
        cases hio : ρ.iota 0 i 0 with
        | none =>
          rw [hio] at s1
          obtain ⟨_, a2, A, a3⟩ := s1
          exact ⟨(A, 0, 0), fun _ => ⟨by rw [a3, a2], by rw [a2]; exact Nat.zero_le _, Nat.zero_le _, fun h => absurd h (Nat.lt_irrefl _)⟩⟩
        | some bc =>
          obtain ⟨b, cp⟩ := bc
          rw [hio] at s1 s4
          obtain ⟨a1, A, a2, a3⟩ := s1
          obtain ⟨cu, b1, b2, b3, b4, _⟩ := s4
          exact ⟨(A, b, cp), fun _ => ⟨by rw [a2, Nat.sub_zero], b2, b3, fun h => ⟨by simpa using a3 h, rfl, cu, b1, by simpa using b4⟩⟩⟩
      · exact ⟨(none, 0, 0), fun h => absurd h hi⟩
    obtain ⟨y, hy⟩ := Classical.axiomOfChoice hex
    have hcs : cs = #[.slice (some ⟨g, 0, none⟩) ls.length cap] := by
      have h1 : cs.size = 1 := hcs1
      have h2 : cs.getD 0 undef = .slice (some ⟨g, 0, none⟩) ls.length cap := by
        cases harg with
        | rowf h c o ho hsl hr hr2 =>
          have hoe : o = .tree 23 1 5 (ls.map fun l => [TC.ow l]) := (Option.some.inj ho).symm
          have := hr2 _ _ _ _ hoe
          rw [hρ, List.length_map] at this
          obtain ⟨_, A, e1, e2⟩ := this
          rw [e1, e2 (by omega), Nat.zero_mul, Nat.sub_zero]
      apply Array.ext
      · rw [h1]; rfl
      · intro i h3 h4
        obtain rfl : i = 0 := by omega
        rw [Array.getD, dif_pos h3] at h2
        simpa using h2
    subst hcs
    have hown : ∀ q, q < ls.length → 0 < (y q).2.2 → Own ρ 0 (.tree 23 1 5 (ls.map fun l => [TC.ow l])) (y q).2.1 := fun q hq hc => .inr ⟨q, 0, _, _, htc q hq, ((hy q hq).2.2.2 hc).2.1⟩
    have hlent : ∀ b, Own ρ 0 (.tree 23 1 5 (ls.map fun l => [TC.ow l])) b → LentB ρ (Ev.look (cApart.heap ls)) b := fun b h => ⟨0, _, rfl, h⟩
    refine (apart_any mk0 ⟨mark0⟩ ls.length g cap (fun q => (y q).1) (fun q => (y q).2.1) (fun q => (ls.getD q []).length) (fun q => (y q).2.2) 5 cur w hK c1 (by omega) (fun k hk => (hy k hk).1) (fun k hk => ⟨(hy k hk).2.1, (hy k hk).2.2.1⟩) (fun k hk => ?_)
      (fun k hk hc => ((hy k hk).2.2.2 hc).1) (fun k hk hc => ⟨fun e => ?_, ((hy k hk).2.2.2 hc).2.2⟩) (fun k q hk hq hck hcq e => ?_)).mono ?_
    · refine hlen _ ?_
      rw [List.getD_eq_getElem?_getD, List.getElem?_eq_getElem hk, Option.getD_some]
      exact List.getElem_mem hk
    · exact hout k 0 _ _ _ _ (htc k hk) ((hy k hk).2.2.2 hc).2.1 (by rw [hρ, ← e])
    · exact (hinj k 0 q 0 _ _ _ _ _ (htc k hk) (htc q hq) ((hy k hk).2.2.2 hck).2.1 (by rw [((hy q hq).2.2.2 hcq).2.1, ← e])).1
    · rintro e w' ⟨rfl, r1, r2, ⟨r3, r4⟩, r5⟩
      have hblk : ∀ b, b < w.heap.size → ¬ LentB ρ (Ev.look (cApart.heap ls)) b → w'.heap[b]? = w.heap[b]? := fun b hb hn => r5 b hb fun q hq hc e => hn (hlent b (e ▸ hown q hq hc))
      have hgone : ∀ h o, Ev.look (cApart.heap' ls) h = some o → h = 0 ∧ o = .gone := fun h o ho => by
        cases h with
        | zero => exact ⟨rfl, (Option.some.inj ho).symm⟩
        | succ h => cases ho
      refine ⟨.bool true, F1, F2, ρ, rfl, ?_⟩
      exact {
        heap := {
          obj := fun h o ho => by obtain ⟨rfl, rfl⟩ := hgone h o ho; exact trivial
          sep := fun h h' o o' b ho ho' hl => by obtain ⟨rfl, rfl⟩ := hgone h o ho; exact hl.elim
          off := fun h o b ho hl => by obtain ⟨rfl, rfl⟩ := hgone h o ho; exact hl.elim
          sub := hh.sub
          lt := fun b hb => Nat.lt_of_lt_of_le (hh.lt b hb) r1 }
        res := .p true _ _ (.bool true)
        os := r2
        tape := r3
        output := r4
        size := r1
        wr := hblk
        blk := fun b hb => hblk b (hh.lt b hb) fun ⟨h, o, ho, hw⟩ => hh.off h o b ho (by
          cases h with
          | zero => obtain rfl := Option.some.inj ho; exact trivial
          | succ h => cases ho) hw hb
        f1 := fun b h => h
        g1 := fun b h => .inl h
        f2 := fun b h => h
        g2 := fun b h => .inl h
        rho := fun _ _ _ _ _ _ => rfl
        own := fun h o b ho hw => by
          obtain ⟨rfl, rfl⟩ := hgone h o ho
          obtain ⟨c, hc⟩ := hw.gone
          exact .inr (hlent b (.inl ⟨c, hc⟩))
        nor := fun h e sz ie els ho => by have := (hgone h _ ho).2; cases this }
end Go.Proofs.Ytonbbaimkpjcfaa.Apart
