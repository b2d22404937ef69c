/- varint.Put and varint.Len, that range over a closure: what they come to. No conditions. -/
import Derived.Test.YtonbbaimkpjcfaaEvRange
import Derived.Test.YtonbbaimkpjcfaaEvBase
import Derived.Test.YtonbbaimkpjcfaaEvVar
import Derived.Laws.AppendOwn
import Derived.LoopIn
import Derived.Lib.SliceRun
import Derived.Deep.Draws
import Derived.BigFrameIn
namespace Go.Proofs.Ytonbbaimkpjcfaa.Ev
open Go Go.RowKit Go.Proofs.Ytonbbaimkpjcfaa.Range
set_option linter.unusedVariables false
set_option linter.unusedSimpArgs false
theorem infoB : (Try.prog.info? 5).map (fun i => (i.zero, i.size, i.bytes)) = some (some (.int .u8 0), 1, 1) := by kernel_rfl
theorem enters_of {P : Program} {f : FuncId} {fn : Func} {c : Code} (hf : P.funcs[f]? = some fn) (hname : (fn.name == "runtime.NumGoroutine") = false) (hb : fn.body = some c) : ∀ args w, (callFunc f args).run P w = .ok (.enter f args) w := fun args w => by
  have h1 : fn.name ≠ "runtime.NumGoroutine" := by simpa using hname
  simp [callFunc, hf, h1, hb]
def vals (l : List UInt8) : List Value := l.map fun b => .int .u8 ((b.toNat : Nat) : Int)
theorem vals_length (l : List UInt8) : (vals l).length = l.length := by simp [vals]
/-- A slice's bytes, read. -/
def Reads (w : World) (A : Option Addr) (l : List UInt8) : Prop := 0 < l.length → ∃ ad, A = some ad ∧ ∀ j u, (vals l)[j]? = some u → w.cell? (ad.add j) = some u
theorem own_slice {w : World} {base n : Nat} {e : TypeId} {v : Value} {xs : List Value} (h : w.ownsRow base e 1 v n xs) : ∃ A c, v = .slice A n c := by
  rcases h.2 with ⟨rfl, rfl⟩ | ⟨g, cap, cur, rfl, _⟩
  · exact ⟨_, _, rfl⟩
  · exact ⟨_, _, rfl⟩
theorem vals_one {l : List UInt8} : ∀ u ∈ vals l, u.oneCell' = true := by
  intro u hu
  obtain ⟨b, _, rfl⟩ := List.mem_map.1 hu
  rfl
theorem cell_lt {w : World} {a : Addr} {v : Value} (h : w.cell? a = some v) : a.block < w.heap.size := by
  unfold World.cell? at h
  split at h
  · rename_i heq
    exact blk_lt heq
  · cases h
set_option maxHeartbeats 1600000 in
theorem clone_calls (A0 : Option Addr) (c0 : Nat) (l0 : List UInt8) (w : World) (hr0 : Reads w A0 l0) (hc0 : l0.length ≤ c0) (hl : l0.length < 140737488355328) :
    Calls Try.prog 45 #[.slice A0 l0.length c0] w fun e w' => ∃ v0_ : Value, e = .returned (v0_) ∧ w'.ownsRow w.heap.size 5 1 v0_ l0.length (vals l0) ∧ Below w.heap.size w w' := by
  have HR0 := Aside0.mk hr0
  have HL := Aside0.mk hl
  clear hr0 hl
  cases A0 with
  | none =>
    have hz : l0 = [] := by
      by_cases hp : 0 < l0.length
      · obtain ⟨ad, e, _⟩ := HR0.out hp
        cases e
      · exact List.eq_nil_of_length_eq_zero (by omega)
    subst hz
    have ke := fun (w : World) (a : Option Addr) (n c : Nat) => Lib.run_eql_slice_nil (P := Try.prog) w 23 5 a n c 0 0 Try.underlying23
    go_enter Try.func45, Try.ntmps45
    go_wp2
    go_ret
    exact ⟨_, rfl, ⟨rfl, .inl ⟨rfl, rfl⟩⟩, Below.refl _ _⟩
  | some ad =>
    have ho : (w.alloc (.cells #[] 5)).ownsRow w.heap.size 5 1 (.slice (some ⟨w.heap.size, 0, none⟩) 0 0) 0 [] := by
      have h := World.ownsRow_lit (base := w.heap.size) (e := 5) (size := 1) w (#[] : Array Value) 0 (Nat.le_refl _) (by simp [maxLen]) (by simp)
      simpa using h
    have HO := Aside0.mk ho
    clear ho
    obtain ⟨i0, hi, hz0, hz1, hz2⟩ := info_parts infoB
    have hcells : ∀ j u, (vals l0)[j]? = some u → (w.alloc (.cells #[] 5)).cell? (ad.add j) = some u := by
      intro j u hu
      have hlt := (List.getElem?_eq_some_iff.1 hu).1
      rw [vals_length] at hlt
      obtain ⟨ad', he, h⟩ := HR0.out (by omega)
      obtain rfl := Option.some.inj he
      have h1 := h j u hu
      rw [cell_same (w := w) (w' := w.alloc (.cells #[] 5))]
      · exact h1
      · exact Below.heap_alloc _ _ _ (cell_lt h1)
    have HC := Aside0.mk hcells
    clear hcells
    have ke := fun (w : World) (a : Option Addr) (n c : Nat) => Lib.run_eql_slice_nil (P := Try.prog) w 23 5 a n c 0 0 Try.underlying23
    go_enter Try.func45, Try.ntmps45
    go_wp2_with (at_builtin; refine wpList_append_own _ rfl (.tmp 5) (.tmp 6) 23 rfl w.heap.size 5 i0 (.int .u8 0) 1 1 Try.underlying23 hi hz0 hz1 hz2 rfl (by decide) (.slice (some ⟨w.heap.size, 0, none⟩) 0 0) 0 [] rfl HO.out ad l0.length c0 (vals l0) rfl (by rw [vals_length]; omega) HC.out vals_one ?b1 ?b2 ?b3 ?_; (case b1 => have := HL.out; unfold maxLen; omega); (case b2 => have := HL.out; omega); (case b3 => simp); intro v2 w2 o2 g2 _; rw [List.nil_append, Nat.zero_add] at o2; have O2 := Aside0.mk o2; have G2 := Aside0.mk g2; clear o2 g2)
    go_ret
    exact ⟨_, rfl, O2.out, ((Below.refl _ _).alloc (Nat.le_refl _) _).grown G2.out (by simp) (fun k e => by simp [Value.ownBlock] at e; omega)⟩
theorem vGrp_or (x : Nat) (h : ¬ x < 128) : Go.bits .or .u8 (((x : Nat) : Int) % 256) 128 = ((vGrp x : Nat) : Int) := by
  have h1 : ((x : Int) % 256) = ((x % 256 : Nat) : Int) := by omega
  unfold vGrp
  rw [if_neg h, h1]
  have key : ∀ y : _root_.Fin 256, Go.bits .or .u8 ((y.val : Nat) : Int) 128 = ((y.val % 128 + 128 : Nat) : Int) := by decide +kernel
  have := key ⟨x % 256, Nat.mod_lt _ (by decide)⟩
  simp only at this
  rw [this]
  omega
theorem varint_groups.makes (v : Nat) (w : World) : Calls Try.prog 46 #[.int .u64 (v : Int)] w fun e w' => e = .returned (.func (.func 50) #[] #[.pointer (some ⟨w.heap.size, 0, none⟩)]) ∧ w' = w.alloc (.cells #[.int .u64 (v : Int)] 22) := by
  go_enter Try.func46, Try.ntmps46
  go_wp2
  go_ret
  exact ⟨rfl, rfl⟩
section
attribute [local go_sem] Oper.semAt_some
set_option maxHeartbeats 1600000 in
theorem varint_groups.hands (F : Fence) (n : Nat) (hf : F.fn 50) (hro : F.round = none) (hn : 1 ≤ n) (Bn v : Nat) (hv : v < 18446744073709551616) :
    Range.Hands F n Try.prog 50 Bn (vCnt v) (fun k => #[.int .u8 ((vGrp (v / 128 ^ k) : Nat) : Int)]) (fun k => .int .u64 ((v / 128 ^ k : Nat) : Int)) := by
  intro l J J' W hY hJ hJ' hst h0
  refine callsIn_of_wp Try.func50 rfl hf ?_ hro
  simp only [Try.ntmps50, List.size_toArray, List.length_cons, List.length_nil, Nat.reduceAdd, Nat.reduceSub, Array.replicate_succ, Array.replicate_zero, List.push_toArray, List.append_toArray, List.nil_append, List.cons_append]
  gi_wp2
  gi_loopw [] (fun wr => ∃ k, k < vCnt v ∧ J k wr) (fun wr => match wr.cell? ⟨Bn, 0, none⟩ with | some (.int _ z) => z.toNat | _ => 0)
  case atStart => exact ⟨0, vCnt_pos v, h0⟩
  case round =>
    obtain ⟨k, hk, hj⟩ := hrel
    obtain ⟨hc, hz⟩ := hJ k wr hj
    have hl := vCnt_last k v hk
    have hs : ((v / 128 ^ (k + 1) : Nat) : Int) = ((v / 128 ^ k : Nat) : Int) / 128 := by rw [Nat.pow_succ, ← Nat.div_div_eq_div_mul]; omega
    have hst' := hst k
    have hJ2 := hJ' k
    obtain ⟨fn, tmps, assign, body, hy, hR⟩ := hY k wr hk hj
    have hx2 : v / 128 ^ k < 18446744073709551616 := Nat.lt_of_le_of_lt (Nat.div_le_self _ _) hv
    dsimp only at hy hc hst' hJ2
    rw [hs] at hst'
    clear hJ hJ' hst hY hv
    obtain ⟨x, hx⟩ : ∃ x, v / 128 ^ k = x := ⟨_, rfl⟩
    rw [hx] at hc hl hy hx2 hst' hJ2
    clear hx hs
    by_cases hlt : x < 128
    · have hg : vGrp x = x := by unfold vGrp; rw [if_pos hlt]
      have hlast := hl.2 hlt
      have HLT := Aside0.mk hlast
      rw [hg] at hy
      clear hl hst' hg hlast
      have hd : decide (128 ≤ (x : Int)) = false := decide_eq_false (by omega)
      gi_wp2
      refine hR.mono ?_
      rintro e W' ⟨rfl, hj'⟩
      gi_wp2
      go_end0
      have hk1 : k = vCnt v - 1 := by have := HLT.out; omega
      exact ⟨⟨_, rfl⟩, by rw [← hk1]; exact hj'⟩
    · have hd : decide (128 ≤ (x : Int)) = true := decide_eq_true (by omega)
      have hlast : k + 1 < vCnt v := by
        rcases Nat.lt_or_ge (k + 1) (vCnt v) with h | h
        · exact h
        · exact absurd (hl.1 (by omega)) hlt
      rw [← vGrp_or x hlt] at hy
      clear hl
      gi_wp2
      refine hR.mono ?_
      rintro e W' ⟨rfl, hj'⟩
      obtain ⟨hc', hz'⟩ := hJ2 W' hj'
      have hj2 := Aside0.mk (hst' W' hlast hj')
      clear hst' hJ2
      gi_wp2
      refine ⟨⟨k + 1, hlast, hj2.out⟩, ?_⟩
      rw [World.cell?_setCell_same' _ _ _ (by rw [hc']; rfl), hc]
      show ((x : Int) / 128).toNat < ((x : Int)).toNat
      omega
end
section
attribute [local go_sem] Oper.semAt_some
set_option maxHeartbeats 3200000 in
theorem varint_Put.calls (A0 : Option Addr) (c0 : Nat) (l0 : List UInt8) (v : Nat) (w : World) (hcell : Reads w A0 l0) (hc0 : l0.length ≤ c0) (hv : v < 18446744073709551616) (h2 : l0.length ≤ 140737488355000) :
    Calls Try.prog 19 #[.slice A0 l0.length c0, .int .u64 (v : Int)] w fun e w' => ∃ v0_ : Value, e = .returned (v0_) ∧ w'.ownsRow w.heap.size 5 1 v0_ (l0 ++ vB v (vCnt v)).length (vals (l0 ++ vB v (vCnt v))) ∧ Below w.heap.size w w' := by
        have HV := Aside0.mk hv
        have HC := Aside0.mk (vCnt_le v hv)
        have HL := Aside0.mk h2
        have HR := Aside0.mk hcell
        obtain ⟨i0, hi, hz0, hz1, hz2⟩ := info_parts infoB
        clear h2 hv hcell
        refine (callsIn_wide (n := 3)).1 ?_
        refine callsIn_of_wp_marks Try.func19 rfl trivial ?_ rfl
        simp only [Try.ntmps19, List.size_toArray, List.length_cons, List.length_nil, Nat.reduceAdd, Nat.reduceSub, Array.replicate_succ, Array.replicate_zero, List.push_toArray, List.append_toArray, List.nil_append, List.cons_append]
        gi_wp2
        refine ⟨trivial, (callsIn_wide.2 (clone_calls A0 c0 l0 _ HR.out hc0 (by have := HL.out; omega))).mono ?_⟩
        rintro e w1 ⟨x1, rfl, o1, b1⟩
        obtain ⟨A1, c1, e1⟩ := own_slice o1
        subst e1
        have r1 := o1
        have R1 := Aside0.mk r1
        have B1 := Aside0.mk b1
        clear o1 r1 b1 HR
        gi_wp2
        refine ⟨trivial, (callsIn_wide.2 (varint_groups.makes v _)).mono ?_⟩
        rintro e w3 ⟨rfl, hw3⟩
        obtain ⟨w2, hw2⟩ : ∃ w2, w1.alloc (.cells #[.slice A1 l0.length c1] 23) = w2 := ⟨_, rfl⟩
        rw [hw2] at hw3 ⊢
        obtain ⟨m, hm⟩ : ∃ m, w1.heap.size = m := ⟨_, rfl⟩
        have hm0 : w.heap.size ≤ m := by have := B1.out.size; omega
        have hz2' : w2.heap.size = m + 1 := by rw [← hw2, World.size_alloc, hm]
        have hx2 : Boxed w2 m 23 (.slice A1 l0.length c1) := by rw [← hw2, ← hm]; exact Boxed.new _ _ _
        have hr2 : w2.ownsRow w.heap.size 5 1 (.slice A1 l0.length c1) l0.length (vals l0) := by rw [← hw2]; exact R1.out.alloc _
        have hb2 : Below w.heap.size w w2 := by rw [← hw2]; exact B1.out.alloc B1.out.size _
        have hz3 : w3.heap.size = m + 2 := by rw [hw3, World.size_alloc, hz2']
        have hx3 : Boxed w3 m 23 (.slice A1 l0.length c1) := by rw [hw3]; exact hx2.alloc _
        have hr3 : w3.ownsRow w.heap.size 5 1 (.slice A1 l0.length c1) l0.length (vals l0) := by rw [hw3]; exact hr2.alloc _
        have hn3 : Boxed w3 (m + 1) 22 (.int .u64 (v : Int)) := by rw [hw3, ← hz2']; exact Boxed.new _ _ _
        have hb3 : Below w.heap.size w w3 := by rw [hw3]; exact hb2.alloc hb2.size _
        rw [hz2', hm]
        have X3 := Aside0.mk hx3
        have R3 := Aside0.mk hr3
        have N3 := Aside0.mk hn3
        have B3 := Aside0.mk hb3
        have Z3 := Aside0.mk hz3
        have M0 := Aside0.mk hm0
        clear hw3 hw2 hm hm0 hz2' hx2 hr2 hb2 hz3 hx3 hr3 hn3 hb3 R1 B1
        gi_wp2
        refine Range.range_cell (F := Fence.wide) rfl (by omega) (gf := 50) (Bn := m + 1) rfl trivial (enters_of Try.func50 (by kernel_rfl) rfl)
          (N := vCnt v) (x := fun k => #[.int .u8 ((vGrp (v / 128 ^ k) : Nat) : Int)]) (u := fun k => .int .u64 ((v / 128 ^ k : Nat) : Int)) (fun _ => rfl) (varint_groups.hands Fence.wide 2 trivial rfl (by omega) (m + 1) v HV.out)
          (fun k W => (∃ x, Boxed W m 23 x ∧ W.ownsRow w.heap.size 5 1 x (l0 ++ vB v k).length (vals (l0 ++ vB v k))) ∧ Boxed W (m + 1) 22 (.int .u64 ((v / 128 ^ k : Nat) : Int)) ∧ Below w.heap.size w W)
          (fun k W => (∃ x, Boxed W m 23 x ∧ W.ownsRow w.heap.size 5 1 x (l0 ++ vB v (k + 1)).length (vals (l0 ++ vB v (k + 1)))) ∧ Boxed W (m + 1) 22 (.int .u64 ((v / 128 ^ k : Nat) : Int)) ∧ Below w.heap.size w W)
          ?ab ?ab' (fun k W h => ⟨h.2.1.cell, h.2.1.frozen⟩) (fun k W h => ⟨h.2.1.cell, h.2.1.frozen⟩) ?step ?start
          (fun k => { tmps := #[.slice A0 l0.length c0, .int .u64 (v : Int), undef, undef, .slice none 0 0, .pointer (some ⟨m, 0, none⟩), .int .u8 ((vGrp (v / 128 ^ k) : Nat) : Int), .slice A0 l0.length c0, .slice A1 l0.length c1, .int .u64 (v : Int), .func (.func 50) #[] #[.pointer (some ⟨m + 1, 0, none⟩)], .int .u8 ((vGrp (v / 128 ^ k) : Nat) : Int), undef, undef, undef, undef, undef], defers := [] })
          ?assign ?body ?done
        case ab =>
          rintro k W l o o' ⟨⟨x, h1, h2⟩, h3, h4⟩ hl hlo ho
          have hz := Z3.out
          have hmz := M0.out
          exact ⟨⟨x, (World.putObj_heap_other (by omega)).trans h1, ownsRow_putObj h2 _ hlo ho⟩, (World.putObj_heap_other (by omega)).trans h3, Range.below_putObj h4 l o' (by omega) (blk_lt hlo)⟩
        case ab' =>
          rintro k W l o o' ⟨⟨x, h1, h2⟩, h3, h4⟩ hl hlo ho
          have hz := Z3.out
          have hmz := M0.out
          exact ⟨⟨x, (World.putObj_heap_other (by omega)).trans h1, ownsRow_putObj h2 _ hlo ho⟩, (World.putObj_heap_other (by omega)).trans h3, Range.below_putObj h4 l o' (by omega) (blk_lt hlo)⟩
        case step =>
          rintro k W _ ⟨⟨x, h1, h2⟩, h3, h4⟩
          have hmz := M0.out
          exact ⟨⟨x, h1.kept (grownBy_setCell' W (m + 1) _) (by simp), h2.kept (grownBy_setCell' W (m + 1) _) (.inr (h3.not_row (by decide) h2).symm)⟩, h3.set _, h4.setCell (by simp; omega) _⟩
        case start =>
          intro o o'
          have hz := Z3.out
          have hmz := M0.out
          exact ⟨⟨_, (X3.out.alloc _).alloc _, by simpa [vB] using (R3.out.alloc _).alloc _⟩, by simpa using (N3.out.alloc _).alloc _, (B3.out.alloc (by omega) _).alloc (by simp; omega) _⟩
        case assign =>
          intro l k W K hK
          gi_wp2
          simpa using hK
        case body =>
          rintro l k W hk ⟨⟨x, hx, hrow⟩, hn, hb⟩
          have hc := hx.cell
          have hle := HC.out
          have hll := HL.out
          have hmz := M0.out
          have hsz := hb.size
          have hn2 : (l0 ++ vB v (k + 1)).length = (l0 ++ vB v k).length + 1 := by rw [vB_succ]; simp; omega
          have hn3 : vals (l0 ++ vB v (k + 1)) = vals (l0 ++ vB v k) ++ [.int .u8 ((vGrp (v / 128 ^ k) : Nat) : Int)] := by rw [vB_succ, ← List.append_assoc]; unfold vals; rw [List.map_append, List.map_singleton, vGrp_byte]
          have hlen : (l0 ++ vB v k).length = l0.length + k := by rw [List.length_append, vB_length]
          have HN := Aside0.mk hn
          have HB := Aside0.mk hb
          clear hn hb
          rw [hn2, hn3]
          clear hn2 hn3
          obtain ⟨y, hy⟩ : ∃ y, l0 ++ vB v k = y := ⟨_, rfl⟩
          rw [hy] at hlen hrow ⊢
          clear hy
          have hmx : y.length + 1 ≤ maxLen := by rw [hlen]; unfold maxLen; omega
          have hml : y.length + 1 ≤ 140737488355328 := by omega
          clear hlen
          gi_wp2_with (gi_at_builtin; refine wpListIn_append_own _ rfl _ _ 23 rfl w.heap.size 5 i0 (.int .u8 0) 1 1 Try.underlying23 hi hz0 hz1 hz2 rfl (by decide) _ _ _ rfl (hrow.alloc _) ⟨W.heap.size, 0, none⟩ 1 1 [.int .u8 ((vGrp (v / 128 ^ k) : Nat) : Int)] rfl rfl (cell_one_new _ _ _) (by simp [Value.oneCell']) (by omega) (by omega) (by simp; omega) ?_; intro v' w1 hown' hgrow _; obtain ⟨g', cap', rfl⟩ := ownsRow_succ hown'; obtain ⟨hv1, hv2, hr2, hk2, hb2⟩ := hx.appended (by decide) hrow hsz M0.out hown' hgrow; have hc1 := hv1.cell; have hf1 := hv1.frozen; have hn1 : Boxed w1 (m + 1) 22 (.int .u64 ((v / 128 ^ k : Nat) : Int)) := (HN.out.alloc _).kept hgrow (by exact (HN.out.not_row (by decide) hrow)))
          exact ⟨⟨_, hv2, hr2⟩, hn1.kept (grownBy_setCell' w1 m _) (by simp), HB.out.trans hb2⟩
        case done =>
          rintro D W hD ⟨⟨x, hx, hrow⟩, hn, hb⟩ hK
          have hp := vCnt_pos v
          rw [show vCnt v - 1 + 1 = vCnt v by omega] at hrow
          have hc := hx.cell
          have HB := Aside0.mk hb
          have HD : Aside0 (w.heap.size ≤ D) := ⟨by have := Z3.out; have := M0.out; omega⟩
          clear hn hb
          gi_wp2
          refine ⟨by simp, .inl ⟨_, _, rfl, run_takeDeferred hK, ?_⟩⟩
          exact ⟨_, results_tmp rfl _ _ _, _, rfl, ownsRow_putObj hrow _ hK rfl, Range.below_putObj HB.out D _ HD.out (blk_lt hK)⟩
end
section
attribute [local go_sem] Oper.semAt_some
set_option maxHeartbeats 1600000 in
theorem varint_Len.calls (v : Nat) (w : World) (hv : v < 18446744073709551616) :
    Calls Try.prog 36 #[.int .u64 (v : Int)] w fun e w' => e = .returned (.int .i64 ((vCnt v : Nat) : Int)) ∧ Below w.heap.size w w' := by
      have HV := Aside0.mk hv
      have HC := Aside0.mk (vCnt_le v hv)
      clear hv
      refine (callsIn_wide (n := 3)).1 ?_
      refine callsIn_of_wp_marks Try.func36 rfl trivial ?_ rfl
      simp only [Try.ntmps36, List.size_toArray, List.length_cons, List.length_nil, Nat.reduceAdd, Nat.reduceSub, Array.replicate_succ, Array.replicate_zero, List.push_toArray, List.append_toArray, List.nil_append, List.cons_append]
      gi_wp2
      refine ⟨trivial, (callsIn_wide.2 (varint_groups.makes v _)).mono ?_⟩
      rintro e w1 ⟨rfl, hw1⟩
      obtain ⟨w2, hw2⟩ : ∃ w2, w.alloc (.cells #[.int .i64 0] 3) = w2 := ⟨_, rfl⟩
      rw [hw2] at hw1 ⊢
      have hz2 : w2.heap.size = w.heap.size + 1 := by rw [← hw2]; simp
      have hk2 : w2.heap[w.heap.size]? = some (.cells #[.int .i64 0] 3 (0, 0)) := by rw [← hw2]; exact heap_alloc_new _ _
      have hb2 : Below w.heap.size w w2 := by rw [← hw2]; exact (Below.refl _ _).alloc (Nat.le_refl _) _
      have hz1 : w1.heap.size = w.heap.size + 2 := by rw [hw1, World.size_alloc, hz2]
      have hk1 : w1.heap[w.heap.size]? = some (.cells #[.int .i64 0] 3 (0, 0)) := by rw [hw1, Below.heap_alloc _ _ _ (by omega)]; exact hk2
      have hn1 : w1.heap[w.heap.size + 1]? = some (.cells #[.int .u64 (v : Int)] 22 (0, 0)) := by rw [hw1, ← hz2]; exact heap_alloc_new _ _
      have hb1 : Below w.heap.size w w1 := by rw [hw1]; exact hb2.alloc (by omega) _
      rw [hz2]
      have HK1 := Aside0.mk hk1
      have HN1 := Aside0.mk hn1
      have HB1 := Aside0.mk hb1
      have HZ1 := Aside0.mk hz1
      clear hw1 hw2 hz2 hk2 hb2 hk1 hn1 hb1 hz1
      gi_wp2
      have hcn : vCnt v < 9223372036854775807 := by have := HC.out; omega
      refine Range.range_cell (F := Fence.wide) rfl (by omega) (gf := 50) (Bn := w.heap.size + 1) rfl trivial (enters_of Try.func50 (by kernel_rfl) rfl)
        (N := vCnt v) (x := fun k => #[.int .u8 ((vGrp (v / 128 ^ k) : Nat) : Int)]) (u := fun k => .int .u64 ((v / 128 ^ k : Nat) : Int)) (fun _ => rfl) (varint_groups.hands Fence.wide 2 trivial rfl (by omega) (w.heap.size + 1) v HV.out)
        (fun k W => W.heap[w.heap.size]? = some (.cells #[.int .i64 (k : Int)] 3 (0, 0)) ∧ W.heap[w.heap.size + 1]? = some (.cells #[.int .u64 ((v / 128 ^ k : Nat) : Int)] 22 (0, 0)) ∧ Below w.heap.size w W)
        (fun k W => W.heap[w.heap.size]? = some (.cells #[.int .i64 ((k + 1 : Nat) : Int)] 3 (0, 0)) ∧ W.heap[w.heap.size + 1]? = some (.cells #[.int .u64 ((v / 128 ^ k : Nat) : Int)] 22 (0, 0)) ∧ Below w.heap.size w W)
        ?ab ?ab' (fun k W h => ⟨cell_of_one h.2.1, free_of_one h.2.1⟩) (fun k W h => ⟨cell_of_one h.2.1, free_of_one h.2.1⟩) ?step ?start
        (fun k => { tmps := #[.int .u64 (v : Int), undef, .int .i64 0, .pointer (some ⟨w.heap.size, 0, none⟩), .int .u64 (v : Int), .func (.func 50) #[] #[.pointer (some ⟨w.heap.size + 1, 0, none⟩)], .int .u8 ((vGrp (v / 128 ^ k) : Nat) : Int), undef, undef, undef], defers := [] })
        ?assign ?body ?done
      case ab =>
        rintro k W l o o' ⟨h1, h2, h3⟩ hl hlo _
        have hz := HZ1.out
        exact ⟨(World.putObj_heap_other (by omega)).trans h1, (World.putObj_heap_other (by omega)).trans h2, Range.below_putObj h3 l o' (by omega) (blk_lt hlo)⟩
      case ab' =>
        rintro k W l o o' ⟨h1, h2, h3⟩ hl hlo _
        have hz := HZ1.out
        exact ⟨(World.putObj_heap_other (by omega)).trans h1, (World.putObj_heap_other (by omega)).trans h2, Range.below_putObj h3 l o' (by omega) (blk_lt hlo)⟩
      case step =>
        rintro k W _ ⟨h1, h2, h3⟩
        exact ⟨(blk_far h1 (by simp) _), one_setCell h2, h3.setCell (by simp) _⟩
      case start =>
        intro o o'
        have hz := HZ1.out
        exact ⟨(Below.heap_alloc _ _ _ (by simp; omega)).trans ((Below.heap_alloc _ _ _ (by omega)).trans HK1.out), (Below.heap_alloc _ _ _ (by simp; omega)).trans ((Below.heap_alloc _ _ _ (by omega)).trans (by simpa using HN1.out)), (HB1.out.alloc (by omega) _).alloc (by simp; omega) _⟩
      case assign =>
        intro l k W K hK
        gi_wp2
        simpa using hK
      case body =>
        rintro l k W hk ⟨h1, h2, h3⟩
        have c1 := cell_of_one h1
        have c2 := free_of_one h1
        have hkb : (k : Int) + 1 ≤ 9223372036854775807 := by omega
        have hk0 : (0 : Int) ≤ (k : Int) := by omega
        have H1 := Aside0.mk h1
        have H2 := Aside0.mk h2
        have H3 := Aside0.mk h3
        clear h1 h2 h3
        gi_wp2
        exact ⟨KeepsOthers.setCell _ _ _, one_setCell H1.out, blk_far H2.out (by simp) _, H3.out.setCell (Nat.le_refl _) _⟩
      case done =>
        rintro D W hD ⟨h1, h2, h3⟩ hK
        have hp := vCnt_pos v
        rw [show vCnt v - 1 + 1 = vCnt v by omega] at h1
        have c1 := cell_of_one h1
        have H3 := Aside0.mk h3
        have HZ := Aside0.mk (show w.heap.size ≤ D by have := HZ1.out; omega)
        clear h1 h2 h3
        gi_wp2
        refine ⟨by simp, .inl ⟨_, _, rfl, run_takeDeferred hK, ?_⟩⟩
        exact ⟨_, results_tmp rfl _ _ _, rfl, Range.below_putObj H3.out D _ HZ.out (blk_lt hK)⟩
end
theorem flat_bl : ∀ l : List UInt8, flat (bl l) = bl l
  | [] => rfl
  | b :: r => by rw [bl_cons, flat_cons, flat_bl r]; rfl
/-- A new row of bytes, owned, is what a contract's new row is. -/
theorem fin_row {w w' : World} {F1 F2 : Nat → Prop} {ρ : Pl} {cv : Value} {e : TypeId} {l : List UInt8} (hlt : ∀ b, F1 b → b < w.heap.size) (hsub : ∀ b, F2 b → F1 b)
    (ho : w'.ownsRow w.heap.size e 1 cv l.length (vals l)) (hb : Below w.heap.size w w') :
    ∃ cv' F1' F2' ρ', Ending.returned cv = Ending.returned cv' ∧ Fin 0 w F1 F2 ρ (look []) cv' w' (.rowf 0) (look [(0, .row e 1 true false (bl l))]) F1' F2' ρ' := by
  have hcells : ∀ x ∈ bl l, x.cells.length = 1 := by
    intro x hx
    obtain ⟨b, _, rfl⟩ := List.mem_map.1 hx
    rfl
  have hflat := flat_bl l
  obtain ⟨R, hR⟩ : ∃ R : Option (Nat × Nat), (∀ g c, R = some (g, c) → w.heap.size ≤ g) ∧ ObR 0 w' F1 F2 (⟨fun _ => R, fun _ _ _ => none⟩ : Pl) (look [(0, .row e 1 true false (bl l))]) 0 (.row e 1 true false (bl l)) ∧ SlV R 1 0 (bl l).length cv := by
    rcases ho.2 with ⟨rfl, h0⟩ | ⟨g, cap, cur, rfl, hbase, hg, hle, hmax, hsz, htk⟩
    · have hl : l = [] := List.eq_nil_of_length_eq_zero h0
      subst hl
      exact ⟨none, fun g c h => (by cases h), ⟨by decide, hcells, rfl⟩, rfl, rfl, none, rfl⟩
    · refine ⟨some (g, cap), fun g' c h => by cases h; exact hbase, ⟨by decide, hcells, cur, hg, by rw [bl_length]; exact hle, hmax, hsz, fun i v hv => ?_, fun h => by cases h⟩, by rw [bl_length]; omega, some ⟨g, 0, none⟩, by rw [bl_length]; rfl, fun _ => by simp⟩
      rw [hflat] at hv
      unfold bl at hv
      rw [List.getElem?_map] at hv
      cases hli : l[i]? with
      | none => rw [hli] at hv; cases hv
      | some b =>
        rw [hli] at hv
        obtain rfl := Option.some.inj hv
        have h1 : (vals l)[i]? = some (.int .u8 ((b.toNat : Nat) : Int)) := by unfold vals; rw [List.getElem?_map, hli]; rfl
        rw [← htk, List.getElem?_take] at h1
        split at h1
        · have : cur.getD i undef = .int .u8 ((b.toNat : Nat) : Int) := by
            rw [Array.getD_eq_getD_getElem?, ← Array.getElem?_toList, h1]
            rfl
          rw [this]
          exact .int _ _
        · cases h1
  obtain ⟨hnew, hob, hsl⟩ := hR
  have hlook : ∀ {h o}, look [(0, Ob.row e 1 true false (bl l))] h = some o → h = 0 ∧ o = .row e 1 true false (bl l) := by
    intro h o ho
    by_cases hh : 0 = h
    · subst hh
      rw [look_cons_same] at ho
      exact ⟨rfl, (Option.some.inj ho).symm⟩
    · rw [look_cons_ne _ _ hh] at ho
      cases ho
  refine ⟨cv, F1, F2, (⟨fun _ => R, fun _ _ _ => none⟩ : Pl), rfl, ⟨⟨fun h o ho => ?_, fun h h' o o' b ho ho' _ _ hne _ _ => ?_, fun h o b ho _ hr hf => ?_, hsub, fun b hb' => Nat.lt_of_lt_of_le (hlt b hb') hb.size⟩, ?_, hb.os, hb.tape, hb.output, hb.size, fun b hb' _ => hb.block b hb', fun b hb' => hb.block b (hlt b hb'), fun _ h => h, fun _ h => .inl h, fun _ h => h, fun _ h => .inl h, fun h o o' hk => absurd hk (Nat.not_lt_zero h), fun h o b ho hr => ?_, fun h e' sz' ie' els' ho => ?_⟩⟩
  · obtain ⟨rfl, rfl⟩ := hlook ho
    exact hob
  · obtain ⟨rfl, rfl⟩ := hlook ho
    obtain ⟨rfl, rfl⟩ := hlook ho'
    exact hne rfl
  · obtain ⟨rfl, rfl⟩ := hlook ho
    obtain ⟨c, hr⟩ := hr.row
    exact absurd (hlt b hf) (by have := hnew b c hr; omega)
  · have hsl' : ∃ A n cp, cv = .slice A n cp := by
      cases R with
      | none => obtain ⟨_, _, A, rfl⟩ := hsl; exact ⟨_, _, _, rfl⟩
      | some gc => obtain ⟨_, A, rfl, _⟩ := hsl; exact ⟨_, _, _, rfl⟩
    refine .rowf 0 cv _ rfl hsl' (fun e' sz' fr' fz' els' hx => ?_) (fun _ _ _ _ hx => by cases hx)
    obtain ⟨rfl, rfl, rfl, rfl, rfl⟩ := Ob.row.inj hx
    exact hsl
  · obtain ⟨rfl, rfl⟩ := hlook ho
    obtain ⟨c, hr⟩ := hr.row
    exact .inl (hnew b c hr)
  · have := (hlook ho).2
    cases this
/-- Bytes handed over are read. -/
theorem reads_of {w : World} {F : Nat → Prop} {l : List UInt8} {c : Value} (h : PVR w F (.sl 1 (bl l)) c) : ∃ A cp, c = .slice A l.length cp ∧ l.length ≤ cp ∧ Reads w A l := by
  have hflat := flat_bl l
  generalize hx : PV.sl 1 (bl l) = x at h
  cases h with
  | slnil sz A cap =>
    have : bl l = [] := by injection hx
    have hl : l = [] := by cases l with | nil => rfl | cons => cases this
    subst hl
    exact ⟨A, cap, rfl, Nat.zero_le _, fun h => absurd h (by simp)⟩
  | sl sz els ad cap cs h1 h2 h3 h4 h5 h6 =>
    injection hx with hsz hels
    subst hsz
    subst hels
    refine ⟨some ad, cap, by rw [bl_length], by rw [bl_length] at h3; exact h3, fun _ => ⟨ad, rfl, fun j u hu => ?_⟩⟩
    unfold vals at hu
    rw [List.getElem?_map] at hu
    cases hlj : l[j]? with
    | none => rw [hlj] at hu; cases hu
    | some b =>
      rw [hlj] at hu
      obtain rfl := Option.some.inj hu
      have hj := (List.getElem?_eq_some_iff.1 hlj).1
      have h7 : (flat (bl l))[j]? = some (bv b) := by rw [hflat]; unfold bl; rw [List.getElem?_map, hlj]; rfl
      have h8 := h5 j (by rw [hflat, bl_length]; exact hj)
      have h9 := h6 j _ h7
      rw [h8]
      cases hc : cs j <;> rw [hc] at h9 <;> cases h9
      rfl
  | _ => cases hx
theorem args_two {w : World} {F1 F2 : Nat → Prop} {ρ : Pl} {H : Hp} {a b : AV} {cs : Array Value} (h : ArgsR w F1 F2 ρ H [a, b] cs) : ∃ c d, cs = #[c, d] ∧ AVR w F1 F2 ρ H a c ∧ AVR w F1 F2 ρ H b d := by
  obtain ⟨h1, h2⟩ := h
  match cs, h1 with
  | ⟨[c, d]⟩, _ => exact ⟨c, d, rfl, h2 0 a rfl, h2 1 b rfl⟩
theorem args_one {w : World} {F1 F2 : Nat → Prop} {ρ : Pl} {H : Hp} {a : AV} {cs : Array Value} (h : ArgsR w F1 F2 ρ H [a] cs) : ∃ c, cs = #[c] ∧ AVR w F1 F2 ρ H a c := by
  obtain ⟨h1, h2⟩ := h
  match cs, h1 with
  | ⟨[c]⟩, _ => exact ⟨c, rfl, h2 0 a rfl⟩
abbrev cPut : Ctr := ⟨List UInt8 × Nat, 0, fun (l, v) => [.p false (.sl 1 (bl l)), isI .u64 v], fun _ => [], fun (l, v) => v < 18446744073709551616 ∧ l.length ≤ 140737488355000, fun _ => .rowf 0,
  fun (l, v) => [(0, .row 5 1 true false (bl (l ++ vE v)))]⟩
theorem put_sound : Sound Try.prog 19 cPut := by
  rintro ⟨l, v⟩ ⟨h1, h2⟩ w F1 F2 ρ cs hh ha hlow
  obtain ⟨c, d, rfl, ha1, ha2⟩ := args_two ha
  cases ha1 with | p _ _ _ ha1 =>
  cases ha2 with | p _ _ _ ha2 =>
  cases ha2 with | int =>
  obtain ⟨A, cp, rfl, hle, hr⟩ := reads_of ha1
  refine (varint_Put.calls A cp l v w hr hle h1 h2).mono ?_
  rintro e w' ⟨v0, rfl, ho, hb⟩
  exact fin_row hh.lt hh.sub ho hb
abbrev cLen : Ctr := ⟨Nat, 0, fun v => [isI .u64 v], fun _ => [], fun v => v < 18446744073709551616, fun v => isI .i64 (vCnt v : Nat), fun _ => []⟩
theorem len_sound : Sound Try.prog 36 cLen := by
  rintro v h1 w F1 F2 ρ cs hh ha hlow
  obtain ⟨c, rfl, ha1⟩ := args_one ha
  cases ha1 with | p _ _ _ ha1 =>
  cases ha1 with | int =>
  refine (varint_Len.calls v w h1).mono ?_
  rintro e w' ⟨rfl, hb⟩
  refine ⟨_, F1, F2, ρ, rfl, ⟨⟨fun h o ho => (by cases ho), fun h h' o o' b ho => (by cases ho), fun h o b ho => (by cases ho), hh.sub, fun b hb' => Nat.lt_of_lt_of_le (hh.lt b hb') hb.size⟩, .p true _ _ (.int _ _), hb.os, hb.tape, hb.output, hb.size, fun b hb' _ => hb.block b hb', fun b hb' => hb.block b (hh.lt b hb'), fun _ h => h, fun _ h => .inl h, fun _ h => h, fun _ h => .inl h, fun h o o' hk => absurd hk (Nat.not_lt_zero h), fun h o b ho => (by cases ho), fun h e sz ie els ho => (by cases ho)⟩⟩
end Go.Proofs.Ytonbbaimkpjcfaa.Ev
