/- No number's bytes are the beginning of another one's, and none is read cut short: VarintOrder answers true. No conditions. -/
import Derived.Test.YtonbbaimkpjcfaaMx4
import Derived.Test.YtonbbaimkpjcfaaVar
namespace Go.Proofs.Ytonbbaimkpjcfaa.Pure
open Go.RowKit Go.Proofs.Ytonbbaimkpjcfaa.M Go.Proofs.YtonbbaimkpjcfaaW.PrintWords Go.Proofs.YtonbbaimkpjcfaaW.PrintLast Go.Proofs.YtonbbaimkpjcfaaW.PrintMore Go.Proofs.Ytonbbaimkpjcfaa.Aid Go.Proofs.Ytonbbaimkpjcfaa.Oct Go.Proofs.Ytonbbaimkpjcfaa.Var

theorem isBytes_int {l : List Nat} (h : ∀ c ∈ l, c < 256) : isBytes (int l) = true := by
  unfold isBytes
  rw [List.all_eq_true]
  intro x hx
  have := int_byte h x hx
  unfold Byte at this
  simp only [Bool.and_eq_true, decide_eq_true_eq]
  exact this
theorem pick_nat (a : Int) (n : Nat) (h : 0 < n) (hn : n ≤ 9223372036854775807) : ∃ p : Nat, p < n ∧ conduitlow_Pick.f a (n : Int) = some (p : Int) := by
  have hb := pick_bd a n (by omega)
  have h1 := Int.emod_nonneg a (show (n : Int) ≠ 0 by omega)
  have h2 := Int.emod_lt_of_pos a (show (0 : Int) < n by omega)
  refine ⟨(a % n).toNat, by omega, ?_⟩
  unfold conduitlow_Pick.f
  rw [if_neg (by omega), if_neg (by omega), show (((a % n).toNat : Nat) : Int) = a % n by omega]
  by_cases c : Int.tmod a n < 0
  · rw [if_pos c] at hb ⊢
    rw [hb, wrap64_id (by omega) (by omega)]
  · rw [if_neg c] at hb ⊢
    rw [hb]
theorem int_take (l : List Nat) (n : Nat) : (int l).take n = int (l.take n) := by simp [int, List.map_take]
theorem get_cut (v p : Nat) (hp : p < vCnt v) (h10 : vCnt v ≤ 10) : varint_Get.f (int ((venc v).take p)) 0 = some (0, 0, false) := by
  have hl : ∀ c ∈ (venc v).take p, c < 256 := fun c hc => venc_lt v c (List.mem_of_mem_take hc)
  have hlen : ((venc v).take p).length = p := by rw [List.length_take, venc_length]; omega
  unfold varint_Get.f
  rw [if_pos (isBytes_int hl), int_length, hlen, if_pos (by omega), if_pos (by omega)]
  have h := loop_dec _ hl 0 p 0 0 (by omega)
  rw [show min (p - (0 : Int).toNat) 10 = p by simp; omega]
  show (match vLoop (int ((venc v).take p)) 0 p 0 ((0 : Nat) : Int) with | some (n, m) => some (n, (0 : Int) + (m : Int), true) | none => some (0, 0, false)) = _
  rw [h, List.take_of_length_le (by rw [List.length_drop]; omega), Nat.add_zero, List.drop_zero, vdec_high _ (venc_cut v p hp)]
  rfl
theorem VarintOrder : conduitlaw03_VarintOrder.Pure := by
  intro a0 a1 a2 w0 w1 _
  have h0 := u64_of_wf w0
  have h1 := u64_of_wf w1
  obtain ⟨x, hx⟩ : ∃ x : Nat, mn a0 a1 = (x : Int) := ⟨(mn a0 a1).toNat, by unfold mn; split <;> omega⟩
  obtain ⟨y, hy⟩ : ∃ y : Nat, mx a0 a1 = (y : Int) := ⟨(mx a0 a1).toNat, by unfold mx; split <;> omega⟩
  have hxy : x ≤ y := by unfold mn at hx; unfold mx at hy; split at hx <;> split at hy <;> omega
  have hy64 : y < 18446744073709551616 := by unfold mx at hy; split at hy <;> omega
  have heq : (a0 = a1) ↔ x = y := by unfold mn at hx; unfold mx at hy; split at hx <;> split at hy <;> omega
  have px := put_venc [] x (by omega) (by simp)
  have py := put_venc [] y hy64 (by simp)
  rw [List.nil_append] at px py
  have lx := venc_length x
  have ly := venc_length y
  have cx := vCnt_pos x
  have cy := vCnt_le y hy64
  have cxy := vCnt_mono hxy
  have aw : conduitlaw03_awake.f = some true := by decide +kernel
  obtain ⟨p, hp, hpick⟩ := pick_nat a2 (vCnt y) (by omega) (by omega)
  refine ⟨1, ?_⟩
  unfold conduitlaw03_VarintOrder.f
  rw [hx, hy, px, py, Option.bind_some, Option.bind_some, int_length, int_length, lx, ly, if_neg (by omega), if_neg (by omega), decide_eq_false (by omega)]
  have same : conduitlow_SameBytes.f (int (venc x)) ((int (venc y)).take (vCnt x)) = some (a0 == a1) := by
    unfold conduitlow_SameBytes.f
    rw [int_take, same_text (int_byte (venc_lt x)) (int_byte (fun c hc => venc_lt y c (List.mem_of_mem_take hc)))]
    congr 1
    rw [Bool.eq_iff_iff, decide_eq_true_eq, beq_iff_eq, heq]
    constructor
    · intro e
      exact venc_prefix (by omega) (by omega) (Oct.int_inj e)
    · intro e
      subst e
      rw [List.take_of_length_le (by omega)]
  have hget := get_cut y p hp cy
  rw [conduitlaw03_VarintOrder.j0]
  rw [if_neg (by decide), int_length, int_length, lx, ly, if_pos (by omega), if_pos (by omega), Int.toNat_natCast, same, Option.bind_some, if_neg (by simp), hpick, Option.bind_some, if_pos (by omega), if_pos (by omega), Int.toNat_natCast, int_take, hget, Option.bind_some, if_neg (by decide), aw]
  rfl

end Go.Proofs.Ytonbbaimkpjcfaa.Pure
