/- Wire: what the document reads: plain laws. No conditions. -/
import Derived.Test.YtingmlhhabaplaaGreatEvWire5
namespace Go.Proofs.YtingmlhhabaplaaGreat.Ev
open Go
set_option linter.unusedVariables false
set_option linter.unusedSimpArgs false
/-- What the document's reader keeps to: it reads what was put; else what it reads is no more than what stood there. -/
structure DL {X : Type} (get : In → X × In) (enc : X → List UInt8) (ok : X → Prop) (K : Nat) : Prop where
  put : ∀ x r, ok x → get (enc x ++ r, false) = (x, r, false)
  len : ∀ s, (get s).2.1.length ≤ s.1.length
  bnd : ∀ s, s.1.length ≤ 1000000 → ok (get s).1 ∧ (enc (get s).1).length + 2 * (get s).2.1.length ≤ 2 * s.1.length + K ∧ ((get s).2.2 = false → s.2 = false ∧ (enc (get s).1).length + 2 * (get s).2.1.length ≤ 2 * s.1.length)
  pos : ∀ x, 1 ≤ (enc x).length
theorem DL.pair {X Y : Type} {g : In → X × In} {h : In → Y × In} {e : X → List UInt8} {f : Y → List UInt8} {p : X → Prop} {q : Y → Prop} {K L : Nat} (a : DL g e p K) (c : DL h f q L) :
    DL (gP g h) (fun x => e x.1 ++ f x.2) (fun x => p x.1 ∧ q x.2) (K + L) where
  put := fun x r hx => by
    have e1 := a.put x.1 (f x.2 ++ r) hx.1
    have e2 := c.put x.2 r hx.2
    unfold gP
    rw [List.append_assoc, e1, e2]
  len := fun s => Nat.le_trans (c.len _) (a.len s)
  bnd := fun s hs => by
    obtain ⟨a1, a2, a3⟩ := a.bnd s hs
    obtain ⟨c1, c2, c3⟩ := c.bnd (g s).2 (Nat.le_trans (a.len s) hs)
    unfold gP
    simp only [List.length_append]
    refine ⟨⟨a1, c1⟩, by omega, fun hb => ?_⟩
    obtain ⟨c4, c5⟩ := c3 hb
    obtain ⟨a4, a5⟩ := a3 c4
    exact ⟨a4, by omega⟩
  pos := fun x => by have := a.pos x.1; rw [List.length_append]; omega
theorem DL.mono {X : Type} {g : In → X × In} {e : X → List UInt8} {p : X → Prop} {K L : Nat} (a : DL g e p K) (h : K ≤ L) : DL g e p L :=
  ⟨a.put, a.len, fun s hs => by obtain ⟨h1, h2, h3⟩ := a.bnd s hs; exact ⟨h1, by omega, h3⟩, a.pos⟩
/-- A number. -/
def dNu (s : In) : Int × In := match vGet s.1 0 with
  | (v, a, true) => (unzig v, s.1.drop a.toNat, s.2)
  | (_, _, false) => (0, s.1, true)
theorem zig0 : zig 0 = 0 := rfl
theorem vE0_len : (vE 0).length = 1 := by rw [vE_length]; exact vCnt_small (by decide)
theorem dNu_put (n : Int) (h : i64R n) (r : List UInt8) (b : Bool) : dNu (nuB n ++ r, b) = (n, r, b) := by
  have hz := zig_lt h.1 h.2
  have hp := vGet_put [] r hz
  rw [List.nil_append] at hp
  unfold dNu nuB
  simp only
  rw [show (0 : Int) = (([] : List UInt8).length : Nat) from rfl, hp]
  simp only [List.length_nil, Nat.zero_add]
  rw [unzig_zig n h.1 h.2, Int.toNat_natCast, ← vE_length, List.drop_left]
/-- What a number read is: none, or one that stood there. -/
theorem dNu_form (s : In) : dNu s = (0, s.1, true) ∨ ∃ v : Nat, v < 18446744073709551616 ∧ vCnt v ≤ s.1.length ∧ dNu s = (unzig v, s.1.drop (vCnt v), s.2) ∧ zig (unzig v) = v := by
  rcases vGet_form s.1 0 with hf | ⟨v, hv, h1, h2, hf, h3⟩
  · exact .inl (by unfold dNu; rw [hf])
  · refine .inr ⟨v, hv, by omega, ?_, zig_unzig _⟩
    unfold dNu
    rw [hf]
    simp only
    rw [show (0 + (vCnt v : Int)).toNat = vCnt v by omega]
theorem i64R0 : i64R 0 := by unfold i64R; omega
theorem dNu_len (s : In) : (dNu s).2.1.length ≤ s.1.length := by
  rcases dNu_form s with h | ⟨v, _, _, h, _⟩ <;> rw [h]
  · exact Nat.le_refl _
  · simp only [List.length_drop]; omega
theorem qNu : DL dNu nuB (fun n => (Lit.int .i64 n).wf = true) 1 where
  put := fun x r hx => dNu_put x (wf_i64 hx) r false
  len := dNu_len
  bnd := fun s hs => by
    rcases dNu_form s with h | ⟨v, hv, hc, h, hz⟩ <;> rw [h]
    · have : (nuB 0).length = 1 := vE0_len
      exact ⟨wf_of_i64R i64R0, by simp only; omega, fun hb => by cases hb⟩
    · have hl : (nuB (unzig v)).length = vCnt v := by unfold nuB; rw [hz, vE_length]
      refine ⟨wf_of_i64R (unzig_bd (by omega) (by omega)), ?_, fun hb => ⟨hb, ?_⟩⟩ <;> simp only [List.length_drop] <;> omega
  pos := fun x => vE_pos _
/-- A kind: a number, cut to a byte. -/
def dBy (s : In) : UInt8 × In := (UInt8.ofNat ((dNu s).1 % 256).toNat, (dNu s).2)
theorem kind_len (c : UInt8) : (nuB (c.toNat : Nat)).length ≤ 2 := by
  have hc := u8_lt c
  unfold nuB
  rw [vE_length]
  refine vCnt_bd 1 _ ?_
  have : zig ((c.toNat : Nat) : Int) < 512 := by unfold zig Lib.zigzag; rw [if_pos (by omega)]; omega
  omega
theorem qBy : DL dBy (fun c => nuB (c.toNat : Nat)) (fun _ => True) 2 where
  put := fun x r _ => by
    have hc := u8_lt x
    unfold dBy
    rw [dNu_put _ (by unfold i64R; omega)]
    simp only
    rw [show ((x.toNat : Int) % 256).toNat = x.toNat by omega]
    simp
  len := dNu_len
  bnd := fun s hs => by
    have hk := kind_len (dBy s).1
    refine ⟨trivial, ?_, ?_⟩
    · have := dNu_len s
      unfold dBy at hk ⊢
      simp only at hk ⊢
      omega
    · unfold dBy at hk ⊢
      simp only at hk ⊢
      rcases dNu_form s with h | ⟨v, hv, hc, h, hz⟩ <;> rw [h] at hk ⊢
      · intro hb; cases hb
      · intro hb
        have := vCnt_pos v
        simp only at hk
        refine ⟨hb, ?_⟩
        simp only [List.length_drop]
        omega
  pos := fun x => vE_pos _
/-- A truth. -/
def dBo (s : In) : Bool × In := match s.1 with
  | [] => (false, [], true)
  | x :: r => (!(x == 0), r, s.2)
theorem qBo : DL dBo boB (fun _ => True) 1 where
  put := fun x r _ => by cases x <;> rfl
  len := fun s => by
    obtain ⟨l, b⟩ := s
    cases l <;> simp [dBo]
  bnd := fun s hs => by
    obtain ⟨l, b⟩ := s
    have hb : ∀ x, (boB x).length = 1 := fun x => by cases x <;> rfl
    cases l with
    | nil => exact ⟨trivial, by simp [dBo, hb], fun h => by cases h⟩
    | cons x r =>
      refine ⟨trivial, ?_, fun h => ⟨h, ?_⟩⟩ <;> unfold dBo <;> simp only [hb, List.length_cons] <;> omega
  pos := fun x => by cases x <;> exact Nat.le_refl _
/-- A size. -/
def dSz (s : In) : Nat × In := match vGet s.1 0 with
  | (v, a, true) => if v ≤ s.1.length then (v.toNat, s.1.drop a.toNat, s.2) else (0, s.1, true)
  | (_, _, false) => (0, s.1, true)
theorem dSz_put (n : Nat) (h : n < 18446744073709551616) (r : List UInt8) (b : Bool) (hr : n ≤ r.length) : dSz (vE n ++ r, b) = (n, r, b) := by
  have hp := vGet_put [] r h
  rw [List.nil_append] at hp
  unfold dSz
  simp only
  rw [show (0 : Int) = (([] : List UInt8).length : Nat) from rfl, hp]
  simp only [List.length_nil, Nat.zero_add]
  rw [if_pos (by rw [List.length_append]; omega), Int.toNat_natCast, Int.toNat_natCast, ← vE_length, List.drop_left]
theorem dSz_form (s : In) : dSz s = (0, s.1, true) ∨ ∃ v : Nat, v ≤ s.1.length ∧ vCnt v ≤ s.1.length ∧ dSz s = (v, s.1.drop (vCnt v), s.2) := by
  rcases vGet_form s.1 0 with hf | ⟨v, hv, h1, h2, hf, h3⟩
  · exact .inl (by unfold dSz; rw [hf])
  · unfold dSz
    rw [hf]
    simp only
    split
    · refine .inr ⟨v, by omega, by omega, ?_⟩
      rw [show (0 + (vCnt v : Int)).toNat = vCnt v by omega, Int.toNat_natCast]
    · exact .inl rfl
theorem dSz_len (s : In) : (dSz s).2.1.length ≤ s.1.length := by
  rcases dSz_form s with h | ⟨v, _, _, h⟩ <;> rw [h]
  · exact Nat.le_refl _
  · simp only [List.length_drop]; omega
theorem dSz_le (s : In) : (dSz s).1 ≤ s.1.length := by
  rcases dSz_form s with h | ⟨v, _, _, h⟩ <;> rw [h]
  · exact Nat.zero_le _
  · assumption
/-- The size's own bytes. -/
theorem dSz_bnd (s : In) (k : Nat) (hk : k ≤ (dSz s).1) : (vE k).length + 2 * (dSz s).2.1.length ≤ 2 * s.1.length + 1 ∧ ((dSz s).2.2 = false → s.2 = false ∧ (vE k).length + 2 * (dSz s).2.1.length ≤ 2 * s.1.length) := by
  rcases dSz_form s with h | ⟨v, hv, hc, h⟩ <;> rw [h] at hk ⊢
  · obtain rfl : k = 0 := by simpa using hk
    have := vE0_len
    exact ⟨by simp only; omega, fun hb => by cases hb⟩
  · simp only at hk
    have := vCnt_mono hk
    rw [vE_length]
    simp only [List.length_drop]
    exact ⟨by omega, fun hb => ⟨hb, by omega⟩⟩
/-- Bytes. -/
def dRc (s : In) : List UInt8 × In := if (dSz s).1 ≤ (dSz s).2.1.length then ((dSz s).2.1.take (dSz s).1, (dSz s).2.1.drop (dSz s).1, (dSz s).2.2) else ([], (dSz s).2.1, true)
theorem dRc_len (s : In) : (dRc s).2.1.length ≤ s.1.length := by
  have := dSz_len s
  unfold dRc
  split
  · simp only [List.length_drop]; omega
  · exact this
theorem dRc_put (x r : List UInt8) (b : Bool) (h : x.length < 18446744073709551616) : dRc (recB x ++ r, b) = (x, r, b) := by
  have e := dSz_put x.length h (x ++ r) b (by rw [List.length_append]; omega)
  unfold dRc recB
  rw [List.append_assoc, e]
  simp
theorem dRc_bnd (s : In) : (recB (dRc s).1).length + 2 * (dRc s).2.1.length ≤ 2 * s.1.length + 1 ∧ ((dRc s).2.2 = false → s.2 = false ∧ (recB (dRc s).1).length + 2 * (dRc s).2.1.length ≤ 2 * s.1.length) := by
  unfold dRc recB
  split
  · rename_i hle
    obtain ⟨h1, h2⟩ := dSz_bnd s _ (Nat.le_refl _)
    have hm : min (dSz s).1 (dSz s).2.1.length = (dSz s).1 := by omega
    simp only [List.length_append, List.length_take, List.length_drop, hm]
    exact ⟨by omega, fun hb => by obtain ⟨h3, h4⟩ := h2 hb; exact ⟨h3, by omega⟩⟩
  · obtain ⟨h1, h2⟩ := dSz_bnd s 0 (Nat.zero_le _)
    simp only [List.length_append, List.length_nil]
    exact ⟨by omega, fun hb => by cases hb⟩
theorem dRc_size (s : In) : (dRc s).1.length ≤ s.1.length := by
  have := dSz_len s
  unfold dRc
  split
  · simp only [List.length_take]; omega
  · exact Nat.zero_le _
theorem qRc : DL dRc recB (fun y => y.length * 1 ≤ 140737488351232 ∧ y.length ≤ 9223372036854775807 ∧ ∀ e ∈ y, True) 1 where
  put := fun x r hx => dRc_put x r false (by have := hx.1; omega)
  len := dRc_len
  bnd := fun s hs => by
    have := dRc_size s
    exact ⟨⟨by omega, by omega, fun _ _ => trivial⟩, dRc_bnd s⟩
  pos := rRc.pos
/-- A text. -/
def dTx (s : In) : ByteArray × In := (strOf (dRc s).1, (dRc s).2)
theorem qTx : DL dTx txB (fun y => y.size ≤ 140737488351232) 1 where
  put := fun x r hx => by
    unfold dTx
    rw [txB_rec, dRc_put _ _ _ (by have : x.data.toList.length = x.size := rfl; omega)]
    rfl
  len := dRc_len
  bnd := fun s hs => by
    have h1 := dRc_size s
    have h2 := dRc_bnd s
    unfold dTx
    simp only
    rw [strOf_size, txB_rec]
    exact ⟨by omega, h2⟩
  pos := rTx.pos
/-- A list. -/
def dLs {X : Type} (get : In → X × In) (s : In) : List X × In := gLp get (dSz s).1 (dSz s).2
theorem gLp_bnd {X : Type} {get : In → X × In} {enc : X → List UInt8} {ok : X → Prop} {K : Nat} (a : DL get enc ok K) : ∀ (n : Nat) (s : In), s.1.length ≤ 1000000 → (∀ x ∈ (gLp get n s).1, ok x) ∧
    ((gLp get n s).1.map enc).flatten.length + 2 * (gLp get n s).2.1.length ≤ 2 * s.1.length + K ∧ ((gLp get n s).2.2 = false → s.2 = false ∧ ((gLp get n s).1.map enc).flatten.length + 2 * (gLp get n s).2.1.length ≤ 2 * s.1.length)
  | 0, s, _ => ⟨fun _ h => (List.not_mem_nil h).elim, by simp [gLp], fun h => ⟨h, by simp [gLp]⟩⟩
  | n + 1, (l, true), _ => ⟨fun _ h => (List.not_mem_nil h).elim, by simp [gLp], fun h => by cases h⟩
  | n + 1, (l, false), hs => by
    obtain ⟨a1, a2, a3⟩ := a.bnd (l, false) hs
    obtain ⟨i1, i2, i3⟩ := gLp_bnd a n (get (l, false)).2 (Nat.le_trans (a.len _) hs)
    unfold gLp
    simp only [List.map_cons, List.flatten_cons, List.length_append]
    refine ⟨?_, ?_, ?_⟩
    · intro x hx
      rcases List.mem_cons.1 hx with rfl | hx
      · exact a1
      · exact i1 x hx
    · cases hb : (get (l, false)).2.2
      · have := (a3 hb).2
        simp only at this
        omega
      · have e : gLp get n (get (l, false)).2 = ([], (get (l, false)).2) := by
          rw [show (get (l, false)).2 = ((get (l, false)).2.1, true) from Prod.ext rfl hb, gLp_bad]
        rw [e]
        simp only at a2
        simp only [List.map_nil, List.flatten_nil, List.length_nil]
        omega
    · intro hb
      obtain ⟨h1, h2⟩ := i3 hb
      have := (a3 h1).2
      simp only at this
      exact ⟨trivial, by omega⟩
theorem DL.list {X : Type} {get : In → X × In} {enc : X → List UInt8} {ok : X → Prop} {K : Nat} (a : DL get enc ok K) (B : Nat) (hB : B ≤ 1000000) (hB1 : 1 ≤ B) :
    DL (dLs get) (lsB enc) (fun l => l.length * B ≤ 140737488351232 ∧ l.length ≤ 9223372036854775807 ∧ ∀ x ∈ l, ok x) (K + 1) where
  put := fun l r hl => by
    have h1 := flat_pos a.pos l
    have h2 := hl.2.1
    have e1 := dSz_put l.length (by omega) ((l.map enc).flatten ++ r) false (by rw [List.length_append]; omega)
    unfold dLs lsB
    rw [List.append_assoc, e1]
    exact gLp_put a.put l r hl.2.2
  len := fun s => Nat.le_trans (gLp_len a.len _ _) (dSz_len s)
  bnd := fun s hs => by
    have hn := gLp_cnt get (dSz s).1 (dSz s).2
    have hn2 := dSz_le s
    obtain ⟨h1, h2, h3⟩ := gLp_bnd a (dSz s).1 (dSz s).2 (Nat.le_trans (dSz_len s) hs)
    obtain ⟨k1, k2⟩ := dSz_bnd s _ hn
    have hm := Nat.mul_le_mul (show (gLp get (dSz s).1 (dSz s).2).1.length ≤ 1000000 by omega) hB
    unfold dLs lsB
    simp only [List.length_append]
    refine ⟨⟨by omega, by omega, h1⟩, by omega, fun hb => ?_⟩
    obtain ⟨h4, h5⟩ := h3 hb
    obtain ⟨k3, k4⟩ := k2 h4
    exact ⟨k3, by omega⟩
  pos := fun l => by have := vE_pos l.length; unfold lsB; rw [List.length_append]; omega
end Go.Proofs.YtingmlhhabaplaaGreat.Ev
