/- Wire: bytes are no more than the bulk says. No conditions. -/
import Derived.Test.YtingmlhhabaplaaGreatEvWire2b
import Derived.Test.YtingmlhhabaplaaGreatEvWire8
namespace Go.Proofs.YtingmlhhabaplaaGreat.Ev
open Go
set_option linter.unusedVariables false
set_option linter.unusedSimpArgs false
set_option maxRecDepth 100000
set_option maxHeartbeats 4000000
theorem bNu {n : Int} (h : (Lit.int .i64 n).wf = true) : (nuB n).length ≤ 11 * 1 := Nat.le_trans (nuB_len (wf_i64 h)) (by decide)
theorem bKd (c : UInt8) : (nuB ((c.toNat : Nat) : Int)).length ≤ 11 * 1 := Nat.le_trans (kind_len c) (by decide)
theorem bBo (b : Bool) : (boB b).length ≤ 11 * 1 := by cases b <;> decide
theorem bTx {s : ByteArray} (h : s.size ≤ 140737488351232) : (txB s).length ≤ 11 * (s.size + 1) := by
  have := vCnt_le s.size (by omega)
  rw [txB_length, vE_length]; omega
theorem ones_sum (l : List UInt8) : (l.map fun _ => 1).sum = l.length := by induction l <;> simp_all <;> omega
theorem bRc {l : List UInt8} (h : l.length * 1 ≤ 140737488351232) : (recB l).length ≤ 11 * ((l.map fun _ => 1).sum + 1) := by
  have := vCnt_le l.length (by omega)
  rw [ones_sum]
  unfold recB
  rw [List.length_append, vE_length]; omega
theorem bLs {X : Type} {enc : X → List UInt8} {ms : X → Nat} {ok : X → Prop} (h : ∀ x, ok x → (enc x).length ≤ 11 * ms x) (l : List X) (hl : l.length ≤ 9223372036854775807) (hk : ∀ x ∈ l, ok x) : (lsB enc l).length ≤ 11 * ((l.map ms).sum + 1) := by
  have hv := vCnt_le l.length (by omega)
  have : ∀ l : List X, (∀ x ∈ l, ok x) → (l.map enc).flatten.length ≤ 11 * (l.map ms).sum := by
    intro l
    induction l with
    | nil => intro _; exact Nat.le_refl _
    | cons x r ih =>
      intro hk
      have h1 := h x (hk x List.mem_cons_self)
      have h2 := ih fun y hy => hk y (List.mem_cons_of_mem _ hy)
      rw [List.map_cons, List.flatten_cons, List.length_append, List.map_cons, List.sum_cons]
      omega
  have h2 := this l hk
  unfold lsB
  rw [List.length_append, vE_length]
  omega
theorem bn46 (y : S46) (h : ok46 y) : (en46 y).length ≤ 11 * ms46 y := by
  obtain ⟨k0, k1, k2, k3⟩ := h
  have h0 : (nuB y.1).length ≤ 11 * (1) := bNu k0
  have h1 : (nuB y.2.1).length ≤ 11 * (1) := bNu k1
  have h2 : (nuB y.2.2.1).length ≤ 11 * (1) := bNu k2
  have h3 : (lsB recB y.2.2.2).length ≤ 11 * (((y.2.2.2.map fun x => ((x.map fun x => 1).sum + 1)).sum + 1)) := bLs (fun x hx => bRc hx.1) _ k3.2.1 k3.2.2
  simp only [en46, ms46, List.length_append]
  omega
theorem bn48 (y : S48) (h : ok48 y) : (en48 y).length ≤ 11 * ms48 y := by
  obtain ⟨k0, k1, k2⟩ := h
  have h0 : (nuB ((y.1).toNat : Int)).length ≤ 11 * (1) := bKd _
  have h1 : (en46 y.2.1).length ≤ 11 * (ms46 y.2.1) := bn46 _ k1
  have h2 : (nuB y.2.2).length ≤ 11 * (1) := bNu k2
  simp only [en48, ms48, List.length_append]
  omega
theorem bn55 (y : S55) (h : ok55 y) : (en55 y).length ≤ 11 * ms55 y := by
  obtain ⟨k0, k1⟩ := h
  have h0 : (txB y.1).length ≤ 11 * ((y.1.size + 1)) := bTx k0
  have h1 : (nuB y.2).length ≤ 11 * (1) := bNu k1
  simp only [en55, ms55, List.length_append]
  omega
theorem bn57 (y : S57) (h : ok57 y) : (en57 y).length ≤ 11 * ms57 y := by
  obtain ⟨k0, k1, k2, k3, k4, k5, k6, k7, k8, k9⟩ := h
  have h0 : (nuB ((y.1).toNat : Int)).length ≤ 11 * (1) := bKd _
  have h1 : (txB y.2.1).length ≤ 11 * ((y.2.1.size + 1)) := bTx k1
  have h2 : (txB y.2.2.1).length ≤ 11 * ((y.2.2.1.size + 1)) := bTx k2
  have h3 : (nuB y.2.2.2.1).length ≤ 11 * (1) := bNu k3
  have h4 : (lsB txB y.2.2.2.2.1).length ≤ 11 * (((y.2.2.2.2.1.map fun x => (x.size + 1)).sum + 1)) := bLs (fun x hx => bTx hx) _ k4.2.1 k4.2.2
  have h5 : (en55 y.2.2.2.2.2.1).length ≤ 11 * (ms55 y.2.2.2.2.2.1) := bn55 _ k5
  have h6 : (nuB y.2.2.2.2.2.2.1).length ≤ 11 * (1) := bNu k6
  have h7 : (nuB y.2.2.2.2.2.2.2.1).length ≤ 11 * (1) := bNu k7
  have h8 : (nuB y.2.2.2.2.2.2.2.2.1).length ≤ 11 * (1) := bNu k8
  have h9 : (nuB y.2.2.2.2.2.2.2.2.2).length ≤ 11 * (1) := bNu k9
  simp only [en57, ms57, List.length_append]
  omega
theorem bn111 (y : S111) (h : ok111 y) : (en111 y).length ≤ 11 * ms111 y := by
  obtain ⟨k0, k1, k2⟩ := h
  have h0 : (nuB y.1).length ≤ 11 * (1) := bNu k0
  have h1 : (nuB y.2.1).length ≤ 11 * (1) := bNu k1
  have h2 : (nuB y.2.2).length ≤ 11 * (1) := bNu k2
  simp only [en111, ms111, List.length_append]
  omega
theorem bn109 (y : S109) (h : ok109 y) : (en109 y).length ≤ 11 * ms109 y := by
  obtain ⟨k0, k1, k2, k3⟩ := h
  have h0 : (nuB y.1).length ≤ 11 * (1) := bNu k0
  have h1 : (nuB y.2.1).length ≤ 11 * (1) := bNu k1
  have h2 : (nuB y.2.2.1).length ≤ 11 * (1) := bNu k2
  have h3 : (lsB en111 y.2.2.2).length ≤ 11 * (((y.2.2.2.map ms111).sum + 1)) := bLs bn111 _ k3.2.1 k3.2.2
  simp only [en109, ms109, List.length_append]
  omega
theorem bn28 (y : S28) (h : ok28 y) : (en28 y).length ≤ 11 * ms28 y := by
  obtain ⟨k0, k1, k2, k3⟩ := h
  have h0 : (nuB y.1).length ≤ 11 * (1) := bNu k0
  have h1 : (nuB y.2.1).length ≤ 11 * (1) := bNu k1
  have h2 : (lsB recB y.2.2.1).length ≤ 11 * (((y.2.2.1.map fun x => ((x.map fun x => 1).sum + 1)).sum + 1)) := bLs (fun x hx => bRc hx.1) _ k2.2.1 k2.2.2
  have h3 : (lsB en109 y.2.2.2).length ≤ 11 * (((y.2.2.2.map ms109).sum + 1)) := bLs bn109 _ k3.2.1 k3.2.2
  simp only [en28, ms28, List.length_append]
  omega
theorem bn117 (y : S117) (h : ok117 y) : (en117 y).length ≤ 11 * ms117 y := by
  obtain ⟨k0, k1⟩ := h
  have h0 : (txB y.1).length ≤ 11 * ((y.1.size + 1)) := bTx k0
  have h1 : (nuB y.2).length ≤ 11 * (1) := bNu k1
  simp only [en117, ms117, List.length_append]
  omega
theorem bn119 (y : S119) (h : ok119 y) : (en119 y).length ≤ 11 * ms119 y := by
  obtain ⟨k0, k1, k2⟩ := h
  have h0 : (txB y.1).length ≤ 11 * ((y.1.size + 1)) := bTx k0
  have h1 : (nuB y.2.1).length ≤ 11 * (1) := bNu k1
  have h2 : (nuB y.2.2).length ≤ 11 * (1) := bNu k2
  simp only [en119, ms119, List.length_append]
  omega
theorem bn190 (y : S190) (h : ok190 y) : (en190 y).length ≤ 11 * ms190 y := by
  obtain ⟨k0, k1⟩ := h
  have h0 : (txB y.1).length ≤ 11 * ((y.1.size + 1)) := bTx k0
  have h1 : (lsB txB y.2).length ≤ 11 * (((y.2.map fun x => (x.size + 1)).sum + 1)) := bLs (fun x hx => bTx hx) _ k1.2.1 k1.2.2
  simp only [en190, ms190, List.length_append]
  omega
theorem bn192 (y : S192) (h : ok192 y) : (en192 y).length ≤ 11 * ms192 y := by
  obtain ⟨k0, k1, k2⟩ := h
  have h0 : (en190 y.1).length ≤ 11 * (ms190 y.1) := bn190 _ k0
  have h1 : (nuB y.2.1).length ≤ 11 * (1) := bNu k1
  have h2 : (boB y.2.2).length ≤ 11 * (1) := bBo _
  simp only [en192, ms192, List.length_append]
  omega
theorem bn195 (y : S195) (h : ok195 y) : (en195 y).length ≤ 11 * ms195 y := by
  obtain ⟨k0, k1⟩ := h
  have h0 : (txB y.1).length ≤ 11 * ((y.1.size + 1)) := bTx k0
  have h1 : (lsB en55 y.2).length ≤ 11 * (((y.2.map ms55).sum + 1)) := bLs bn55 _ k1.2.1 k1.2.2
  simp only [en195, ms195, List.length_append]
  omega
theorem bn199 (y : S199) (h : ok199 y) : (en199 y).length ≤ 11 * ms199 y := by
  obtain ⟨k0, k1⟩ := h
  have h0 : (en55 y.1).length ≤ 11 * (ms55 y.1) := bn55 _ k0
  have h1 : (nuB y.2).length ≤ 11 * (1) := bNu k1
  simp only [en199, ms199, List.length_append]
  omega
theorem bn124 (y : S124) (h : ok124 y) : (en124 y).length ≤ 11 * ms124 y := by
  obtain ⟨k0, k1, k2, k3, k4, k5, k6⟩ := h
  have h0 : (txB y.1).length ≤ 11 * ((y.1.size + 1)) := bTx k0
  have h1 : (nuB y.2.1).length ≤ 11 * (1) := bNu k1
  have h2 : (nuB ((y.2.2.1).toNat : Int)).length ≤ 11 * (1) := bKd _
  have h3 : (nuB y.2.2.2.1).length ≤ 11 * (1) := bNu k3
  have h4 : (lsB en192 y.2.2.2.2.1).length ≤ 11 * (((y.2.2.2.2.1.map ms192).sum + 1)) := bLs bn192 _ k4.2.1 k4.2.2
  have h5 : (lsB en195 y.2.2.2.2.2.1).length ≤ 11 * (((y.2.2.2.2.2.1.map ms195).sum + 1)) := bLs bn195 _ k5.2.1 k5.2.2
  have h6 : (lsB en199 y.2.2.2.2.2.2).length ≤ 11 * (((y.2.2.2.2.2.2.map ms199).sum + 1)) := bLs bn199 _ k6.2.1 k6.2.2
  simp only [en124, ms124, List.length_append]
  omega
theorem bn70 (y : S70) (h : ok70 y) : (en70 y).length ≤ 11 * ms70 y := by
  obtain ⟨k0, k1, k2, k3, k4, k5⟩ := h
  have h0 : (nuB y.1).length ≤ 11 * (1) := bNu k0
  have h1 : (nuB y.2.1).length ≤ 11 * (1) := bNu k1
  have h2 : (nuB y.2.2.1).length ≤ 11 * (1) := bNu k2
  have h3 : (nuB y.2.2.2.1).length ≤ 11 * (1) := bNu k3
  have h4 : (nuB ((y.2.2.2.2.1).toNat : Int)).length ≤ 11 * (1) := bKd _
  have h5 : (lsB en55 y.2.2.2.2.2).length ≤ 11 * (((y.2.2.2.2.2.map ms55).sum + 1)) := bLs bn55 _ k5.2.1 k5.2.2
  simp only [en70, ms70, List.length_append]
  omega
theorem bn130 (y : S130) (h : ok130 y) : (en130 y).length ≤ 11 * ms130 y := by
  obtain ⟨k0, k1⟩ := h
  have h0 : (nuB y.1).length ≤ 11 * (1) := bNu k0
  have h1 : (en70 y.2).length ≤ 11 * (ms70 y.2) := bn70 _ k1
  simp only [en130, ms130, List.length_append]
  omega
theorem bn128 (y : S128) (h : ok128 y) : (en128 y).length ≤ 11 * ms128 y := by
  obtain ⟨k0, k1, k2⟩ := h
  have h0 : (nuB y.1).length ≤ 11 * (1) := bNu k0
  have h1 : (nuB y.2.1).length ≤ 11 * (1) := bNu k1
  have h2 : (lsB en130 y.2.2).length ≤ 11 * (((y.2.2.map ms130).sum + 1)) := bLs bn130 _ k2.2.1 k2.2.2
  simp only [en128, ms128, List.length_append]
  omega
theorem bn37 (y : S37) (h : ok37 y) : (en37 y).length ≤ 11 * ms37 y := by
  obtain ⟨k0, k1, k2, k3, k4⟩ := h
  have h0 : (nuB y.1).length ≤ 11 * (1) := bNu k0
  have h1 : (lsB en117 y.2.1).length ≤ 11 * (((y.2.1.map ms117).sum + 1)) := bLs bn117 _ k1.2.1 k1.2.2
  have h2 : (lsB en119 y.2.2.1).length ≤ 11 * (((y.2.2.1.map ms119).sum + 1)) := bLs bn119 _ k2.2.1 k2.2.2
  have h3 : (lsB en124 y.2.2.2.1).length ≤ 11 * (((y.2.2.2.1.map ms124).sum + 1)) := bLs bn124 _ k3.2.1 k3.2.2
  have h4 : (lsB en128 y.2.2.2.2).length ≤ 11 * (((y.2.2.2.2.map ms128).sum + 1)) := bLs bn128 _ k4.2.1 k4.2.2
  simp only [en37, ms37, List.length_append]
  omega
theorem bn63 (y : S63) (h : ok63 y) : (en63 y).length ≤ 11 * ms63 y := by
  obtain ⟨k0, k1, k2, k3, k4, k5, k6, k7, k8, k9⟩ := h
  have h0 : (nuB ((y.1).toNat : Int)).length ≤ 11 * (1) := bKd _
  have h1 : (nuB y.2.1).length ≤ 11 * (1) := bNu k1
  have h2 : (nuB y.2.2.1).length ≤ 11 * (1) := bNu k2
  have h3 : (txB y.2.2.2.1).length ≤ 11 * ((y.2.2.2.1.size + 1)) := bTx k3
  have h4 : (nuB y.2.2.2.2.1).length ≤ 11 * (1) := bNu k4
  have h5 : (en46 y.2.2.2.2.2.1).length ≤ 11 * (ms46 y.2.2.2.2.2.1) := bn46 _ k5
  have h6 : (nuB y.2.2.2.2.2.2.1).length ≤ 11 * (1) := bNu k6
  have h7 : (nuB y.2.2.2.2.2.2.2.1).length ≤ 11 * (1) := bNu k7
  have h8 : (nuB y.2.2.2.2.2.2.2.2.1).length ≤ 11 * (1) := bNu k8
  have h9 : (en57 y.2.2.2.2.2.2.2.2.2).length ≤ 11 * (ms57 y.2.2.2.2.2.2.2.2.2) := bn57 _ k9
  simp only [en63, ms63, List.length_append]
  omega
theorem bn72 (y : S72) (h : ok72 y) : (en72 y).length ≤ 11 * ms72 y := by
  obtain ⟨k0, k1, k2, k3, k4, k5, k6, k7, k8, k9, k10⟩ := h
  have h0 : (nuB ((y.1).toNat : Int)).length ≤ 11 * (1) := bKd _
  have h1 : (nuB y.2.1).length ≤ 11 * (1) := bNu k1
  have h2 : (nuB y.2.2.1).length ≤ 11 * (1) := bNu k2
  have h3 : (nuB y.2.2.2.1).length ≤ 11 * (1) := bNu k3
  have h4 : (nuB y.2.2.2.2.1).length ≤ 11 * (1) := bNu k4
  have h5 : (nuB y.2.2.2.2.2.1).length ≤ 11 * (1) := bNu k5
  have h6 : (nuB y.2.2.2.2.2.2.1).length ≤ 11 * (1) := bNu k6
  have h7 : (nuB y.2.2.2.2.2.2.2.1).length ≤ 11 * (1) := bNu k7
  have h8 : (boB y.2.2.2.2.2.2.2.2.1).length ≤ 11 * (1) := bBo _
  have h9 : (lsB recB y.2.2.2.2.2.2.2.2.2.1).length ≤ 11 * (((y.2.2.2.2.2.2.2.2.2.1.map fun x => ((x.map fun x => 1).sum + 1)).sum + 1)) := bLs (fun x hx => bRc hx.1) _ k9.2.1 k9.2.2
  have h10 : (en70 y.2.2.2.2.2.2.2.2.2.2).length ≤ 11 * (ms70 y.2.2.2.2.2.2.2.2.2.2) := bn70 _ k10
  simp only [en72, ms72, List.length_append]
  omega
theorem bn153 (y : S153) (h : ok153 y) : (en153 y).length ≤ 11 * ms153 y := by
  obtain ⟨k0, k1⟩ := h
  have h0 : (nuB y.1).length ≤ 11 * (1) := bNu k0
  have h1 : (recB y.2).length ≤ 11 * (((y.2.map fun x => 1).sum + 1)) := bRc k1.1
  simp only [en153, ms153, List.length_append]
  omega
theorem bn79 (y : S79) (h : ok79 y) : (en79 y).length ≤ 11 * ms79 y := by
  obtain ⟨k0, k1, k2, k3, k4, k5, k6, k7, k8, k9, k10, k11⟩ := h
  have h0 : (txB y.1).length ≤ 11 * ((y.1.size + 1)) := bTx k0
  have h1 : (nuB ((y.2.1).toNat : Int)).length ≤ 11 * (1) := bKd _
  have h2 : (nuB y.2.2.1).length ≤ 11 * (1) := bNu k2
  have h3 : (nuB y.2.2.2.1).length ≤ 11 * (1) := bNu k3
  have h4 : (nuB y.2.2.2.2.1).length ≤ 11 * (1) := bNu k4
  have h5 : (nuB y.2.2.2.2.2.1).length ≤ 11 * (1) := bNu k5
  have h6 : (nuB y.2.2.2.2.2.2.1).length ≤ 11 * (1) := bNu k6
  have h7 : (nuB y.2.2.2.2.2.2.2.1).length ≤ 11 * (1) := bNu k7
  have h8 : (nuB y.2.2.2.2.2.2.2.2.1).length ≤ 11 * (1) := bNu k8
  have h9 : (boB y.2.2.2.2.2.2.2.2.2.1).length ≤ 11 * (1) := bBo _
  have h10 : (lsB en153 y.2.2.2.2.2.2.2.2.2.2.1).length ≤ 11 * (((y.2.2.2.2.2.2.2.2.2.2.1.map ms153).sum + 1)) := bLs bn153 _ k10.2.1 k10.2.2
  have h11 : (recB y.2.2.2.2.2.2.2.2.2.2.2).length ≤ 11 * (((y.2.2.2.2.2.2.2.2.2.2.2.map fun x => 1).sum + 1)) := bRc k11.1
  simp only [en79, ms79, List.length_append]
  omega
end Go.Proofs.YtingmlhhabaplaaGreat.Ev
