/- Functions of the program as Lean functions, each with a proof that the Go code answers just so; written by a program of this session (mkprint.py). No conditions. -/
import Derived.Test.YtpoladincbkgiaaMx0
namespace Go.Proofs.Ytpoladincbkgiaa.M
open Go.RowKit Go.Proofs.YtpoladincbkgiaaW.PrintWords Go.Proofs.YtpoladincbkgiaaW.PrintLast Go.Proofs.YtpoladincbkgiaaW.PrintMore
attribute [local go_sem] max2_int min2_int max_two min_two max_three min_three max_four min_four   -- for this text's walks alone
set_option linter.unusedVariables false
set_option linter.unusedSimpArgs false

/-! ### sums_More: function 15 -/
/-- One turn of the register. -/
def crcTurn (r : Int) : Int := if Go.bits .and .u32 r 1 = 1 then Go.bits .xor .u32 (r / 2) 2197175160 else r / 2
/-- k turns. -/
def crcTurns : Nat → Int → Int
  | 0, r => r
  | k + 1, r => crcTurns k (crcTurn r)
theorem crcTurns_succ (k : Nat) (r : Int) : crcTurns (k + 1) r = crcTurn (crcTurns k r) := by
  induction k generalizing r with
  | zero => rfl
  | succ k ih => exact ih (crcTurn r)
/-- One byte. -/
def crcByte (r c : Int) : Int := crcTurns 8 (Go.bits .xor .u32 r (c % 4294967296))
/-- The first i bytes of a list. -/
def crcTo (r : Int) (l : List Int) (i : Nat) : Int := (l.take i).foldl crcByte r
theorem crcTo_succ (r : Int) (l : List Int) (i : Nat) (h : i < l.length) : crcTo r l (i + 1) = crcByte (crcTo r l i) (rd l i) := by
  unfold crcTo rd
  rw [List.take_succ_eq_append_getElem h, List.foldl_append]
  simp [List.getD_eq_getElem?_getD, List.getElem?_eq_getElem h]
def crcNot (r : Int) : Int := Go.bits .xor .u32 IntKind.u32.max r
def sums_More.f (a0 : Int) (l1 : List Int) : Option Int := some (crcNot (l1.foldl crcByte (crcNot a0)))
/-- The register's block. -/
def CrcReg (B : Nat) (w : World) (r : Int) (wr : World) : Prop := wr.heap[B]? = some (.cells #[.int .u32 r] 34 (0, 0)) ∧ Below B w wr
theorem CrcReg.cell {B : Nat} {w : World} {r : Int} {wr : World} (h : CrcReg B w r wr) : wr.cell? ⟨B, 0, none⟩ = some (.int .u32 r) := cell_of_one h.1
theorem CrcReg.free {B : Nat} {w : World} {r : Int} {wr : World} (h : CrcReg B w r wr) : wr.frozen? ⟨B, 0, none⟩ = false := free_of_one h.1
theorem CrcReg.set {B : Nat} {w : World} {r : Int} {wr : World} (h : CrcReg B w r wr) (u : Int) : CrcReg B w u (wr.setCell ⟨B, 0, none⟩ (.int .u32 u)) :=
  ⟨one_setCell h.1, h.2.setCell (Nat.le_refl _) _⟩
theorem CrcReg.drewN {B : Nat} {w : World} {r : Int} {wr : World} (h : CrcReg B w r wr) (n : Nat) : CrcReg B w r (wr.drewN n) := ⟨h.1, pw_below_drewN h.2 n⟩
theorem CrcReg.drew {B : Nat} {w : World} {r : Int} {wr : World} (h : CrcReg B w r wr) : CrcReg B w r wr.drew := ⟨h.1, below_drew h.2⟩
set_option maxHeartbeats 800000 in
theorem crcTurn_calls (B : Nat) (w : World) (r : Int) (h0 : 0 ≤ r) (h1 : r ≤ 4294967295) (wr : World) (h : CrcReg B w r wr) :
    Calls Try.prog 32 #[.pointer (some ⟨B, 0, none⟩)] wr fun e w' => e = .returned (.tuple #[]) ∧ CrcReg B w (crcTurn r) w' := by
  have hc := h.cell
  have hf := h.free
  by_cases hb : Go.bits .and .u32 r 1 = 1
  · have hb1 : (Go.bits .and .u32 r 1 == 1) = true := beq_iff_eq.2 hb
    have ht : Hid (crcTurn r = Go.bits .xor .u32 (r / 2) 2197175160) := by show _ = _; unfold crcTurn; rw [if_pos hb]
    clear hb
    go_enter Try.func32, Try.ntmps32
    go_wp2
    go_end0
    exact ⟨rfl, by rw [ht.out]; exact (h.set _).set _⟩
  · have hb1 : (Go.bits .and .u32 r 1 == 1) = false := beq_eq_false_iff_ne.2 hb
    have ht : Hid (crcTurn r = r / 2) := by show _ = _; unfold crcTurn; rw [if_neg hb]
    clear hb
    go_enter Try.func32, Try.ntmps32
    go_wp2
    go_end0
    exact ⟨rfl, by rw [ht.out]; exact h.set _⟩
theorem u32_lo (n : Int) : 0 ≤ IntKind.u32.wrap n ∧ IntKind.u32.wrap n ≤ 4294967295 := by rw [IntKind.wrap_u32]; omega
theorem crcXor_bd (a b : Int) : 0 ≤ Go.bits .xor .u32 a b ∧ Go.bits .xor .u32 a b ≤ 4294967295 := u32_lo _
theorem crcTurn_bd (r : Int) (h0 : 0 ≤ r) (h1 : r ≤ 4294967295) : 0 ≤ crcTurn r ∧ crcTurn r ≤ 4294967295 := by
  unfold crcTurn
  split
  · exact crcXor_bd _ _
  · omega
theorem crcTurns_bd (k : Nat) (r : Int) (h0 : 0 ≤ r) (h1 : r ≤ 4294967295) : 0 ≤ crcTurns k r ∧ crcTurns k r ≤ 4294967295 := by
  induction k generalizing r with
  | zero => exact ⟨h0, h1⟩
  | succ k ih => exact ih _ (crcTurn_bd r h0 h1).1 (crcTurn_bd r h0 h1).2
theorem crcTo_bd (r : Int) (h0 : 0 ≤ r) (h1 : r ≤ 4294967295) (l : List Int) : ∀ i, 0 ≤ crcTo r l i ∧ crcTo r l i ≤ 4294967295 := by
  have : ∀ l : List Int, ∀ r : Int, 0 ≤ r → r ≤ 4294967295 → 0 ≤ l.foldl crcByte r ∧ l.foldl crcByte r ≤ 4294967295 := by
    intro l
    induction l with
    | nil => exact fun r h0 h1 => ⟨h0, h1⟩
    | cons c l ih => exact fun r h0 h1 => ih _ (crcTurns_bd 8 _ (crcXor_bd _ _).1 (crcXor_bd _ _).2).1 (crcTurns_bd 8 _ (crcXor_bd _ _).1 (crcXor_bd _ _).2).2
  exact fun i => this _ r h0 h1
set_option maxHeartbeats 1600000 in
theorem sums_More.calls (a0 : Int) (A1 : Option Addr) (c1 : Nat) (l1 : List Int) (r : Int) (w : World) (hr1 : Kd.C (Kd.int .u8) w A1 l1.length l1) (hc1 : l1.length ≤ c1) (h : sums_More.f a0 l1 = some r) :
    Calls Try.prog 15 #[.int .u32 a0, .slice A1 l1.length c1] w fun e w' => e = .returned (.int .u32 r) ∧ Below w.heap.size w w' := by
  have HR1 := Aside0.mk hr1
  have hm : l1.length ≤ 9223372036854775807 := hr1.2.1
  clear hr1
  have H := Aside0.mk h
  clear h
  go_enter Try.func15, Try.ntmps15
  go_wp2
  go_loopw [14] (fun i wr => ∃ k : Nat, k ≤ l1.length ∧ i = .int .i64 k ∧ CrcReg w.heap.size w (crcTo (crcNot a0) l1 k) wr) (fun i _ => l1.length - (intOf i).toNat)
  case atStart => exact ⟨0, Nat.zero_le _, rfl, heap_alloc_new _ _, (Below.refl _ _).alloc (Nat.le_refl _) _⟩
  case round =>
    obtain ⟨k, hk, rfl, hreg⟩ := hrel
    have hbd := crcTo_bd (crcNot a0) (crcXor_bd _ _).1 (crcXor_bd _ _).2 l1 k
    have hlen : (l1.length : Int) ≤ 9223372036854775807 := by omega
    have hc := hreg.cell
    have hf := hreg.free
    by_cases hlt : k < l1.length
    · have hs := Aside0.mk (crcTo_succ (crcNot a0) l1 k hlt)
      obtain ⟨ad, rfl, hcell0⟩ := Kd.at_int HR1.out (k : Int) (by omega) (by omega)
      have hcell := pw_cell_below hreg.2 hcell0
      have hcell1 : wr.cell? (ad.add k) = some (.int .u8 (rd l1 k)) := by simpa using hcell
      clear hcell hcell0
      obtain ⟨wo, rfl⟩ : ∃ wo : World, wo = wr := ⟨_, rfl⟩
      go_wp2
      have hx := crcXor_bd (crcTo (crcNot a0) l1 k) (rd l1 k % 4294967296)
      go_loopw [22] (fun i wq => ∃ j : Nat, j ≤ 8 ∧ i = .int .i64 j ∧ CrcReg w.heap.size w (crcTurns j (Go.bits .xor .u32 (crcTo (crcNot a0) l1 k) (rd l1 k % 4294967296))) wq) (fun i _ => 8 - (intOf i).toNat)
      case atStart => exact ⟨0, Nat.zero_le _, rfl, hreg.set _⟩
      case round =>
        obtain ⟨j, hj, rfl, hreg2⟩ := hrel
        by_cases hj8 : j < 8
        · have hb2 := crcTurns_bd j _ hx.1 hx.2
          have hs2 := Aside0.mk (crcTurns_succ j (Go.bits .xor .u32 (crcTo (crcNot a0) l1 k) (rd l1 k % 4294967296)))
          go_wp2_with (go_at_call 32; refine (crcTurn_calls _ _ _ hb2.1 hb2.2 _ hreg2).mono ?_; rintro e w' ⟨rfl, hreg3⟩)
          go_roundw
          case rel => exact ⟨j + 1, by omega, by go_num, by rw [hs2.out]; exact hreg3⟩
          case measure => simp [intOf]; omega
        · obtain rfl : j = 8 := by omega
          go_wp2
          go_roundw
          case rel => exact ⟨k + 1, by omega, by go_num, by rw [hs.out]; exact hreg2⟩
          case measure => simp [intOf]; omega
    · obtain rfl : k = l1.length := by omega
      have hfin : Aside0 (r = Go.bits .xor .u32 IntKind.u32.max (crcTo (crcNot a0) l1 l1.length)) := ⟨by
        have h := H.out
        unfold sums_More.f at h
        rw [← Option.some.inj h]
        unfold crcTo crcNot
        rw [List.take_length]⟩
      go_wp2
      go_ret
      exact ⟨congrArg (fun z => Ending.returned (.int .u32 z)) hfin.out.symm, hreg.2⟩


end Go.Proofs.Ytpoladincbkgiaa.M
