/- Wire: bytes are no more than the bulk says. No conditions. -/
import Derived.Test.YtingmlhhabaplaaEvAwake06
namespace Go.Proofs.Ytingmlhhabaplaa.Ev
open Go
set_option linter.unusedVariables false
set_option linter.unusedSimpArgs false
set_option maxRecDepth 100000
set_option maxHeartbeats 4000000
theorem bNu {n : Int} (h : (Lit.int .i64 n).wf = true) : (nuB n).length ≤ 11 * 1 := Nat.le_trans (nuB_len (wf_i64 h)) (by decide)
theorem bKd (c : UInt8) : (nuB ((c.toNat : Nat) : Int)).length ≤ 11 * 1 := Nat.le_trans (kind_len c) (by decide)
theorem bBo (b : Bool) : (boB b).length ≤ 11 * 1 := by cases b <;> decide
theorem bTx {s : ByteArray} (h : s.size ≤ 140737488351232) : (txB s).length ≤ 11 * (s.size + 1) := by
  have := vCnt_le s.size (by omega)
  rw [txB_length, vE_length]; omega
theorem ones_sum (l : List UInt8) : (l.map fun _ => 1).sum = l.length := by induction l <;> simp_all <;> omega
theorem bRc {l : List UInt8} (h : l.length * 1 ≤ 140737488351232) : (recB l).length ≤ 11 * ((l.map fun _ => 1).sum + 1) := by
  have := vCnt_le l.length (by omega)
  rw [ones_sum]
  unfold recB
  rw [List.length_append, vE_length]; omega
theorem bLs {X : Type} {enc : X → List UInt8} {ms : X → Nat} {ok : X → Prop} (h : ∀ x, ok x → (enc x).length ≤ 11 * ms x) (l : List X) (hl : l.length ≤ 9223372036854775807) (hk : ∀ x ∈ l, ok x) : (lsB enc l).length ≤ 11 * ((l.map ms).sum + 1) := by
  have hv := vCnt_le l.length (by omega)
  have : ∀ l : List X, (∀ x ∈ l, ok x) → (l.map enc).flatten.length ≤ 11 * (l.map ms).sum := by
    intro l
    induction l with
    | nil => intro _; exact Nat.le_refl _
    | cons x r ih =>
      intro hk
      have h1 := h x (hk x List.mem_cons_self)
      have h2 := ih fun y hy => hk y (List.mem_cons_of_mem _ hy)
      rw [List.map_cons, List.flatten_cons, List.length_append, List.map_cons, List.sum_cons]
      omega
  have h2 := this l hk
  unfold lsB
  rw [List.length_append, vE_length]
  omega
theorem bn25 (y : S25) (h : ok25 y) : (en25 y).length ≤ 11 * ms25 y := by
  obtain ⟨k0, k1, k2, k3⟩ := h
  have h0 : (nuB y.1).length ≤ 11 * (1) := bNu k0
  have h1 : (nuB y.2.1).length ≤ 11 * (1) := bNu k1
  have h2 : (nuB y.2.2.1).length ≤ 11 * (1) := bNu k2
  have h3 : (lsB recB y.2.2.2).length ≤ 11 * (((y.2.2.2.map fun x => ((x.map fun x => 1).sum + 1)).sum + 1)) := bLs (fun x hx => bRc hx.1) _ k3.2.1 k3.2.2
  simp only [en25, ms25, List.length_append]
  omega
theorem bn27 (y : S27) (h : ok27 y) : (en27 y).length ≤ 11 * ms27 y := by
  obtain ⟨k0, k1, k2⟩ := h
  have h0 : (nuB ((y.1).toNat : Int)).length ≤ 11 * (1) := bKd _
  have h1 : (en25 y.2.1).length ≤ 11 * (ms25 y.2.1) := bn25 _ k1
  have h2 : (nuB y.2.2).length ≤ 11 * (1) := bNu k2
  simp only [en27, ms27, List.length_append]
  omega
theorem bn31 (y : S31) (h : ok31 y) : (en31 y).length ≤ 11 * ms31 y := by
  obtain ⟨k0, k1⟩ := h
  have h0 : (txB y.1).length ≤ 11 * ((y.1.size + 1)) := bTx k0
  have h1 : (nuB y.2).length ≤ 11 * (1) := bNu k1
  simp only [en31, ms31, List.length_append]
  omega
theorem bn33 (y : S33) (h : ok33 y) : (en33 y).length ≤ 11 * ms33 y := by
  obtain ⟨k0, k1, k2, k3, k4, k5, k6, k7, k8, k9⟩ := h
  have h0 : (nuB ((y.1).toNat : Int)).length ≤ 11 * (1) := bKd _
  have h1 : (txB y.2.1).length ≤ 11 * ((y.2.1.size + 1)) := bTx k1
  have h2 : (txB y.2.2.1).length ≤ 11 * ((y.2.2.1.size + 1)) := bTx k2
  have h3 : (nuB y.2.2.2.1).length ≤ 11 * (1) := bNu k3
  have h4 : (lsB txB y.2.2.2.2.1).length ≤ 11 * (((y.2.2.2.2.1.map fun x => (x.size + 1)).sum + 1)) := bLs (fun x hx => bTx hx) _ k4.2.1 k4.2.2
  have h5 : (en31 y.2.2.2.2.2.1).length ≤ 11 * (ms31 y.2.2.2.2.2.1) := bn31 _ k5
  have h6 : (nuB y.2.2.2.2.2.2.1).length ≤ 11 * (1) := bNu k6
  have h7 : (nuB y.2.2.2.2.2.2.2.1).length ≤ 11 * (1) := bNu k7
  have h8 : (nuB y.2.2.2.2.2.2.2.2.1).length ≤ 11 * (1) := bNu k8
  have h9 : (nuB y.2.2.2.2.2.2.2.2.2).length ≤ 11 * (1) := bNu k9
  simp only [en33, ms33, List.length_append]
  omega
theorem bn47 (y : S47) (h : ok47 y) : (en47 y).length ≤ 11 * ms47 y := by
  obtain ⟨k0, k1, k2, k3, k4, k5, k6, k7, k8, k9⟩ := h
  have h0 : (nuB ((y.1).toNat : Int)).length ≤ 11 * (1) := bKd _
  have h1 : (nuB y.2.1).length ≤ 11 * (1) := bNu k1
  have h2 : (nuB y.2.2.1).length ≤ 11 * (1) := bNu k2
  have h3 : (txB y.2.2.2.1).length ≤ 11 * ((y.2.2.2.1.size + 1)) := bTx k3
  have h4 : (nuB y.2.2.2.2.1).length ≤ 11 * (1) := bNu k4
  have h5 : (en25 y.2.2.2.2.2.1).length ≤ 11 * (ms25 y.2.2.2.2.2.1) := bn25 _ k5
  have h6 : (nuB y.2.2.2.2.2.2.1).length ≤ 11 * (1) := bNu k6
  have h7 : (nuB y.2.2.2.2.2.2.2.1).length ≤ 11 * (1) := bNu k7
  have h8 : (nuB y.2.2.2.2.2.2.2.2.1).length ≤ 11 * (1) := bNu k8
  have h9 : (en33 y.2.2.2.2.2.2.2.2.2).length ≤ 11 * (ms33 y.2.2.2.2.2.2.2.2.2) := bn33 _ k9
  simp only [en47, ms47, List.length_append]
  omega
theorem bn51 (y : S51) (h : ok51 y) : (en51 y).length ≤ 11 * ms51 y := by
  obtain ⟨k0, k1, k2, k3, k4, k5⟩ := h
  have h0 : (nuB y.1).length ≤ 11 * (1) := bNu k0
  have h1 : (nuB y.2.1).length ≤ 11 * (1) := bNu k1
  have h2 : (nuB y.2.2.1).length ≤ 11 * (1) := bNu k2
  have h3 : (nuB y.2.2.2.1).length ≤ 11 * (1) := bNu k3
  have h4 : (nuB ((y.2.2.2.2.1).toNat : Int)).length ≤ 11 * (1) := bKd _
  have h5 : (lsB en31 y.2.2.2.2.2).length ≤ 11 * (((y.2.2.2.2.2.map ms31).sum + 1)) := bLs bn31 _ k5.2.1 k5.2.2
  simp only [en51, ms51, List.length_append]
  omega
theorem bn53 (y : S53) (h : ok53 y) : (en53 y).length ≤ 11 * ms53 y := by
  obtain ⟨k0, k1, k2, k3, k4, k5, k6, k7, k8, k9, k10⟩ := h
  have h0 : (nuB ((y.1).toNat : Int)).length ≤ 11 * (1) := bKd _
  have h1 : (nuB y.2.1).length ≤ 11 * (1) := bNu k1
  have h2 : (nuB y.2.2.1).length ≤ 11 * (1) := bNu k2
  have h3 : (nuB y.2.2.2.1).length ≤ 11 * (1) := bNu k3
  have h4 : (nuB y.2.2.2.2.1).length ≤ 11 * (1) := bNu k4
  have h5 : (nuB y.2.2.2.2.2.1).length ≤ 11 * (1) := bNu k5
  have h6 : (nuB y.2.2.2.2.2.2.1).length ≤ 11 * (1) := bNu k6
  have h7 : (nuB y.2.2.2.2.2.2.2.1).length ≤ 11 * (1) := bNu k7
  have h8 : (boB y.2.2.2.2.2.2.2.2.1).length ≤ 11 * (1) := bBo _
  have h9 : (lsB recB y.2.2.2.2.2.2.2.2.2.1).length ≤ 11 * (((y.2.2.2.2.2.2.2.2.2.1.map fun x => ((x.map fun x => 1).sum + 1)).sum + 1)) := bLs (fun x hx => bRc hx.1) _ k9.2.1 k9.2.2
  have h10 : (en51 y.2.2.2.2.2.2.2.2.2.2).length ≤ 11 * (ms51 y.2.2.2.2.2.2.2.2.2.2) := bn51 _ k10
  simp only [en53, ms53, List.length_append]
  omega
theorem bn70 (y : S70) (h : ok70 y) : (en70 y).length ≤ 11 * ms70 y := by
  obtain ⟨k0, k1⟩ := h
  have h0 : (nuB y.1).length ≤ 11 * (1) := bNu k0
  have h1 : (recB y.2).length ≤ 11 * (((y.2.map fun x => 1).sum + 1)) := bRc k1.1
  simp only [en70, ms70, List.length_append]
  omega
theorem bn57 (y : S57) (h : ok57 y) : (en57 y).length ≤ 11 * ms57 y := by
  obtain ⟨k0, k1, k2, k3, k4, k5, k6, k7, k8, k9, k10, k11⟩ := h
  have h0 : (txB y.1).length ≤ 11 * ((y.1.size + 1)) := bTx k0
  have h1 : (nuB ((y.2.1).toNat : Int)).length ≤ 11 * (1) := bKd _
  have h2 : (nuB y.2.2.1).length ≤ 11 * (1) := bNu k2
  have h3 : (nuB y.2.2.2.1).length ≤ 11 * (1) := bNu k3
  have h4 : (nuB y.2.2.2.2.1).length ≤ 11 * (1) := bNu k4
  have h5 : (nuB y.2.2.2.2.2.1).length ≤ 11 * (1) := bNu k5
  have h6 : (nuB y.2.2.2.2.2.2.1).length ≤ 11 * (1) := bNu k6
  have h7 : (nuB y.2.2.2.2.2.2.2.1).length ≤ 11 * (1) := bNu k7
  have h8 : (nuB y.2.2.2.2.2.2.2.2.1).length ≤ 11 * (1) := bNu k8
  have h9 : (boB y.2.2.2.2.2.2.2.2.2.1).length ≤ 11 * (1) := bBo _
  have h10 : (lsB en70 y.2.2.2.2.2.2.2.2.2.2.1).length ≤ 11 * (((y.2.2.2.2.2.2.2.2.2.2.1.map ms70).sum + 1)) := bLs bn70 _ k10.2.1 k10.2.2
  have h11 : (recB y.2.2.2.2.2.2.2.2.2.2.2).length ≤ 11 * (((y.2.2.2.2.2.2.2.2.2.2.2.map fun x => 1).sum + 1)) := bRc k11.1
  simp only [en57, ms57, List.length_append]
  omega
theorem bn124 (y : S124) (h : ok124 y) : (en124 y).length ≤ 11 * ms124 y := by
  obtain ⟨k0, k1, k2⟩ := h
  have h0 : (nuB y.1).length ≤ 11 * (1) := bNu k0
  have h1 : (nuB y.2.1).length ≤ 11 * (1) := bNu k1
  have h2 : (nuB y.2.2).length ≤ 11 * (1) := bNu k2
  simp only [en124, ms124, List.length_append]
  omega
theorem bn122 (y : S122) (h : ok122 y) : (en122 y).length ≤ 11 * ms122 y := by
  obtain ⟨k0, k1, k2, k3⟩ := h
  have h0 : (nuB y.1).length ≤ 11 * (1) := bNu k0
  have h1 : (nuB y.2.1).length ≤ 11 * (1) := bNu k1
  have h2 : (nuB y.2.2.1).length ≤ 11 * (1) := bNu k2
  have h3 : (lsB en124 y.2.2.2).length ≤ 11 * (((y.2.2.2.map ms124).sum + 1)) := bLs bn124 _ k3.2.1 k3.2.2
  simp only [en122, ms122, List.length_append]
  omega
theorem bn76 (y : S76) (h : ok76 y) : (en76 y).length ≤ 11 * ms76 y := by
  obtain ⟨k0, k1, k2, k3⟩ := h
  have h0 : (nuB y.1).length ≤ 11 * (1) := bNu k0
  have h1 : (nuB y.2.1).length ≤ 11 * (1) := bNu k1
  have h2 : (lsB recB y.2.2.1).length ≤ 11 * (((y.2.2.1.map fun x => ((x.map fun x => 1).sum + 1)).sum + 1)) := bLs (fun x hx => bRc hx.1) _ k2.2.1 k2.2.2
  have h3 : (lsB en122 y.2.2.2).length ≤ 11 * (((y.2.2.2.map ms122).sum + 1)) := bLs bn122 _ k3.2.1 k3.2.2
  simp only [en76, ms76, List.length_append]
  omega
theorem bn127 (y : S127) (h : ok127 y) : (en127 y).length ≤ 11 * ms127 y := by
  obtain ⟨k0, k1⟩ := h
  have h0 : (txB y.1).length ≤ 11 * ((y.1.size + 1)) := bTx k0
  have h1 : (nuB y.2).length ≤ 11 * (1) := bNu k1
  simp only [en127, ms127, List.length_append]
  omega
theorem bn129 (y : S129) (h : ok129 y) : (en129 y).length ≤ 11 * ms129 y := by
  obtain ⟨k0, k1, k2⟩ := h
  have h0 : (txB y.1).length ≤ 11 * ((y.1.size + 1)) := bTx k0
  have h1 : (nuB y.2.1).length ≤ 11 * (1) := bNu k1
  have h2 : (nuB y.2.2).length ≤ 11 * (1) := bNu k2
  simp only [en129, ms129, List.length_append]
  omega
theorem bn189 (y : S189) (h : ok189 y) : (en189 y).length ≤ 11 * ms189 y := by
  obtain ⟨k0, k1⟩ := h
  have h0 : (txB y.1).length ≤ 11 * ((y.1.size + 1)) := bTx k0
  have h1 : (lsB txB y.2).length ≤ 11 * (((y.2.map fun x => (x.size + 1)).sum + 1)) := bLs (fun x hx => bTx hx) _ k1.2.1 k1.2.2
  simp only [en189, ms189, List.length_append]
  omega
theorem bn191 (y : S191) (h : ok191 y) : (en191 y).length ≤ 11 * ms191 y := by
  obtain ⟨k0, k1, k2⟩ := h
  have h0 : (en189 y.1).length ≤ 11 * (ms189 y.1) := bn189 _ k0
  have h1 : (nuB y.2.1).length ≤ 11 * (1) := bNu k1
  have h2 : (boB y.2.2).length ≤ 11 * (1) := bBo _
  simp only [en191, ms191, List.length_append]
  omega
theorem bn193 (y : S193) (h : ok193 y) : (en193 y).length ≤ 11 * ms193 y := by
  obtain ⟨k0, k1⟩ := h
  have h0 : (txB y.1).length ≤ 11 * ((y.1.size + 1)) := bTx k0
  have h1 : (lsB en31 y.2).length ≤ 11 * (((y.2.map ms31).sum + 1)) := bLs bn31 _ k1.2.1 k1.2.2
  simp only [en193, ms193, List.length_append]
  omega
theorem bn195 (y : S195) (h : ok195 y) : (en195 y).length ≤ 11 * ms195 y := by
  obtain ⟨k0, k1⟩ := h
  have h0 : (en31 y.1).length ≤ 11 * (ms31 y.1) := bn31 _ k0
  have h1 : (nuB y.2).length ≤ 11 * (1) := bNu k1
  simp only [en195, ms195, List.length_append]
  omega
theorem bn135 (y : S135) (h : ok135 y) : (en135 y).length ≤ 11 * ms135 y := by
  obtain ⟨k0, k1, k2, k3, k4, k5, k6⟩ := h
  have h0 : (txB y.1).length ≤ 11 * ((y.1.size + 1)) := bTx k0
  have h1 : (nuB y.2.1).length ≤ 11 * (1) := bNu k1
  have h2 : (nuB ((y.2.2.1).toNat : Int)).length ≤ 11 * (1) := bKd _
  have h3 : (nuB y.2.2.2.1).length ≤ 11 * (1) := bNu k3
  have h4 : (lsB en191 y.2.2.2.2.1).length ≤ 11 * (((y.2.2.2.2.1.map ms191).sum + 1)) := bLs bn191 _ k4.2.1 k4.2.2
  have h5 : (lsB en193 y.2.2.2.2.2.1).length ≤ 11 * (((y.2.2.2.2.2.1.map ms193).sum + 1)) := bLs bn193 _ k5.2.1 k5.2.2
  have h6 : (lsB en195 y.2.2.2.2.2.2).length ≤ 11 * (((y.2.2.2.2.2.2.map ms195).sum + 1)) := bLs bn195 _ k6.2.1 k6.2.2
  simp only [en135, ms135, List.length_append]
  omega
theorem bn140 (y : S140) (h : ok140 y) : (en140 y).length ≤ 11 * ms140 y := by
  obtain ⟨k0, k1⟩ := h
  have h0 : (nuB y.1).length ≤ 11 * (1) := bNu k0
  have h1 : (en51 y.2).length ≤ 11 * (ms51 y.2) := bn51 _ k1
  simp only [en140, ms140, List.length_append]
  omega
theorem bn138 (y : S138) (h : ok138 y) : (en138 y).length ≤ 11 * ms138 y := by
  obtain ⟨k0, k1, k2⟩ := h
  have h0 : (nuB y.1).length ≤ 11 * (1) := bNu k0
  have h1 : (nuB y.2.1).length ≤ 11 * (1) := bNu k1
  have h2 : (lsB en140 y.2.2).length ≤ 11 * (((y.2.2.map ms140).sum + 1)) := bLs bn140 _ k2.2.1 k2.2.2
  simp only [en138, ms138, List.length_append]
  omega
theorem bn87 (y : S87) (h : ok87 y) : (en87 y).length ≤ 11 * ms87 y := by
  obtain ⟨k0, k1, k2, k3, k4⟩ := h
  have h0 : (nuB y.1).length ≤ 11 * (1) := bNu k0
  have h1 : (lsB en127 y.2.1).length ≤ 11 * (((y.2.1.map ms127).sum + 1)) := bLs bn127 _ k1.2.1 k1.2.2
  have h2 : (lsB en129 y.2.2.1).length ≤ 11 * (((y.2.2.1.map ms129).sum + 1)) := bLs bn129 _ k2.2.1 k2.2.2
  have h3 : (lsB en135 y.2.2.2.1).length ≤ 11 * (((y.2.2.2.1.map ms135).sum + 1)) := bLs bn135 _ k3.2.1 k3.2.2
  have h4 : (lsB en138 y.2.2.2.2).length ≤ 11 * (((y.2.2.2.2.map ms138).sum + 1)) := bLs bn138 _ k4.2.1 k4.2.2
  simp only [en87, ms87, List.length_append]
  omega
end Go.Proofs.Ytingmlhhabaplaa.Ev
