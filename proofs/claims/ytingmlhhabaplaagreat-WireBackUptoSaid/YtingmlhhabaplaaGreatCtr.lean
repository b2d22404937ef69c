/- Structs among the laws' arguments, and what the laws are to answer. No conditions. -/
import Derived.Test.YtingmlhhabaplaaGreatEvLaw
import Derived.Test.YtingmlhhabaplaaGreatProg
namespace Go.Proofs.YtingmlhhabaplaaGreat.Ev
open Go Go.ChangeShapes Go.WideShapes
set_option maxRecDepth 100000
set_option linter.unusedVariables false
abbrev S46 : Type := Int × Int × Int × (List (List UInt8))
def pv46 (y : S46) : List PV := [.int .i64 y.1] ++ ([.int .i64 y.2.1] ++ ([.int .i64 y.2.2.1] ++ ([.sl 1 (y.2.2.2.map fun x => elOf [.sl 1 (bl x)])])))
def ok46 (y : S46) : Prop := (Lit.int .i64 y.1).wf = true ∧ (Lit.int .i64 y.2.1).wf = true ∧ (Lit.int .i64 y.2.2.1).wf = true ∧ (y.2.2.2.length * 24 ≤ 140737488351232 ∧ y.2.2.2.length ≤ 9223372036854775807 ∧ ∀ e7 ∈ y.2.2.2, (e7.length * 1 ≤ 140737488351232 ∧ e7.length ≤ 9223372036854775807 ∧ ∀ e2 ∈ e7, True))
def ms46 (y : S46) : Nat := 1 + 1 + 1 + ((y.2.2.2.map fun x => ((x.map fun x => 1).sum + 1)).sum + 1) + 1
theorem open46 : Opens Tryz.prog 46 4 pv46 ok46 ms46 := by
  have h := opens_struct Tryz.underlying46 (by kernel_rfl) (opensF_cons rfl (opens_int Tryz.underlying2 (by kernel_rfl)) (opensF_cons rfl (opens_int Tryz.underlying3 (by kernel_rfl)) (opensF_cons rfl (opens_int Tryz.underlying2 (by kernel_rfl)) (opensF_one rfl (opens_slice Tryz.underlying25 (by kernel_rfl) (opens_slice Tryz.underlying22 (by kernel_rfl) (opens_u8 Tryz.underlying5 (by kernel_rfl)) (B := 1) (by kernel_rfl) (by decide)) (B := 24) (by kernel_rfl) (by decide))))))
  exact opens_mono h (fun _ => rfl) (fun _ h => h) (fun _ => by first | exact Nat.le_refl _ | (simp only [ms46]; omega))
abbrev S48 : Type := UInt8 × S46 × Int
def pv48 (y : S48) : List PV := [bv y.1] ++ ((pv46 y.2.1) ++ ([.int .i64 y.2.2]))
def ok48 (y : S48) : Prop := True ∧ ok46 y.2.1 ∧ (Lit.int .i64 y.2.2).wf = true
def ms48 (y : S48) : Nat := 1 + ms46 y.2.1 + 1 + 1
theorem open48 : Opens Tryz.prog 48 6 pv48 ok48 ms48 := by
  have h := opens_struct Tryz.underlying48 (by kernel_rfl) (opensF_cons rfl (opens_u8 Tryz.underlying44 (by kernel_rfl)) (opensF_cons rfl open46 (opensF_one rfl (opens_int Tryz.underlying2 (by kernel_rfl)))))
  exact opens_mono h (fun _ => rfl) (fun _ h => h) (fun _ => by first | exact Nat.le_refl _ | (simp only [ms48]; omega))
abbrev S55 : Type := ByteArray × Int
def pv55 (y : S55) : List PV := [.str y.1] ++ ([.int .i64 y.2])
def ok55 (y : S55) : Prop := y.1.size ≤ 140737488351232 ∧ (Lit.int .i64 y.2).wf = true
def ms55 (y : S55) : Nat := (y.1.size + 1) + 1 + 1
theorem open55 : Opens Tryz.prog 55 2 pv55 ok55 ms55 := by
  have h := opens_struct Tryz.underlying55 (by kernel_rfl) (opensF_cons rfl (opens_string Tryz.underlying9 (by kernel_rfl)) (opensF_one rfl (opens_int Tryz.underlying3 (by kernel_rfl))))
  exact opens_mono h (fun _ => rfl) (fun _ h => h) (fun _ => by first | exact Nat.le_refl _ | (simp only [ms55]; omega))
abbrev S57 : Type := UInt8 × ByteArray × ByteArray × Int × (List ByteArray) × S55 × Int × Int × Int × Int
def pv57 (y : S57) : List PV := [bv y.1] ++ ([.str y.2.1] ++ ([.str y.2.2.1] ++ ([.int .i64 y.2.2.2.1] ++ ([.sl 1 (y.2.2.2.2.1.map fun x => elOf [.str x])] ++ ((pv55 y.2.2.2.2.2.1) ++ ([.int .i64 y.2.2.2.2.2.2.1] ++ ([.int .i64 y.2.2.2.2.2.2.2.1] ++ ([.int .i64 y.2.2.2.2.2.2.2.2.1] ++ ([.int .i64 y.2.2.2.2.2.2.2.2.2])))))))))
def ok57 (y : S57) : Prop := True ∧ y.2.1.size ≤ 140737488351232 ∧ y.2.2.1.size ≤ 140737488351232 ∧ (Lit.int .i64 y.2.2.2.1).wf = true ∧ (y.2.2.2.2.1.length * 16 ≤ 140737488351232 ∧ y.2.2.2.2.1.length ≤ 9223372036854775807 ∧ ∀ e11 ∈ y.2.2.2.2.1, e11.size ≤ 140737488351232) ∧ ok55 y.2.2.2.2.2.1 ∧ (Lit.int .i64 y.2.2.2.2.2.2.1).wf = true ∧ (Lit.int .i64 y.2.2.2.2.2.2.2.1).wf = true ∧ (Lit.int .i64 y.2.2.2.2.2.2.2.2.1).wf = true ∧ (Lit.int .i64 y.2.2.2.2.2.2.2.2.2).wf = true
def ms57 (y : S57) : Nat := 1 + (y.2.1.size + 1) + (y.2.2.1.size + 1) + 1 + ((y.2.2.2.2.1.map fun x => (x.size + 1)).sum + 1) + ms55 y.2.2.2.2.2.1 + 1 + 1 + 1 + 1 + 1
theorem open57 : Opens Tryz.prog 57 11 pv57 ok57 ms57 := by
  have h := opens_struct Tryz.underlying57 (by kernel_rfl) (opensF_cons rfl (opens_u8 Tryz.underlying52 (by kernel_rfl)) (opensF_cons rfl (opens_string Tryz.underlying9 (by kernel_rfl)) (opensF_cons rfl (opens_string Tryz.underlying9 (by kernel_rfl)) (opensF_cons rfl (opens_int Tryz.underlying3 (by kernel_rfl)) (opensF_cons rfl (opens_slice Tryz.underlying53 (by kernel_rfl) (opens_string Tryz.underlying9 (by kernel_rfl)) (B := 16) (by kernel_rfl) (by decide)) (opensF_cons rfl open55 (opensF_cons rfl (opens_int Tryz.underlying2 (by kernel_rfl)) (opensF_cons rfl (opens_int Tryz.underlying2 (by kernel_rfl)) (opensF_cons rfl (opens_int Tryz.underlying3 (by kernel_rfl)) (opensF_one rfl (opens_int Tryz.underlying3 (by kernel_rfl))))))))))))
  exact opens_mono h (fun _ => rfl) (fun _ h => h) (fun _ => by first | exact Nat.le_refl _ | (simp only [ms57]; omega))
abbrev S111 : Type := Int × Int × Int
def pv111 (y : S111) : List PV := [.int .i64 y.1] ++ ([.int .i64 y.2.1] ++ ([.int .i64 y.2.2]))
def ok111 (y : S111) : Prop := (Lit.int .i64 y.1).wf = true ∧ (Lit.int .i64 y.2.1).wf = true ∧ (Lit.int .i64 y.2.2).wf = true
def ms111 (y : S111) : Nat := 1 + 1 + 1 + 1
theorem open111 : Opens Tryz.prog 111 3 pv111 ok111 ms111 := by
  have h := opens_struct Tryz.underlying111 (by kernel_rfl) (opensF_cons rfl (opens_int Tryz.underlying2 (by kernel_rfl)) (opensF_cons rfl (opens_int Tryz.underlying3 (by kernel_rfl)) (opensF_one rfl (opens_int Tryz.underlying2 (by kernel_rfl)))))
  exact opens_mono h (fun _ => rfl) (fun _ h => h) (fun _ => by first | exact Nat.le_refl _ | (simp only [ms111]; omega))
abbrev S109 : Type := Int × Int × Int × (List S111)
def pv109 (y : S109) : List PV := [.int .i64 y.1] ++ ([.int .i64 y.2.1] ++ ([.int .i64 y.2.2.1] ++ ([.sl 3 (y.2.2.2.map fun x => elOf (pv111 x))])))
def ok109 (y : S109) : Prop := (Lit.int .i64 y.1).wf = true ∧ (Lit.int .i64 y.2.1).wf = true ∧ (Lit.int .i64 y.2.2.1).wf = true ∧ (y.2.2.2.length * 24 ≤ 140737488351232 ∧ y.2.2.2.length ≤ 9223372036854775807 ∧ ∀ e7 ∈ y.2.2.2, ok111 e7)
def ms109 (y : S109) : Nat := 1 + 1 + 1 + ((y.2.2.2.map ms111).sum + 1) + 1
theorem open109 : Opens Tryz.prog 109 4 pv109 ok109 ms109 := by
  have h := opens_struct Tryz.underlying109 (by kernel_rfl) (opensF_cons rfl (opens_int Tryz.underlying2 (by kernel_rfl)) (opensF_cons rfl (opens_int Tryz.underlying3 (by kernel_rfl)) (opensF_cons rfl (opens_int Tryz.underlying2 (by kernel_rfl)) (opensF_one rfl (opens_slice Tryz.underlying107 (by kernel_rfl) open111 (B := 24) (by kernel_rfl) (by decide))))))
  exact opens_mono h (fun _ => rfl) (fun _ h => h) (fun _ => by first | exact Nat.le_refl _ | (simp only [ms109]; omega))
abbrev S28 : Type := Int × Int × (List (List UInt8)) × (List S109)
def pv28 (y : S28) : List PV := [.int .i64 y.1] ++ ([.int .i64 y.2.1] ++ ([.sl 1 (y.2.2.1.map fun x => elOf [.sl 1 (bl x)])] ++ ([.sl 4 (y.2.2.2.map fun x => elOf (pv109 x))])))
def ok28 (y : S28) : Prop := (Lit.int .i64 y.1).wf = true ∧ (Lit.int .i64 y.2.1).wf = true ∧ (y.2.2.1.length * 24 ≤ 140737488351232 ∧ y.2.2.1.length ≤ 9223372036854775807 ∧ ∀ e7 ∈ y.2.2.1, (e7.length * 1 ≤ 140737488351232 ∧ e7.length ≤ 9223372036854775807 ∧ ∀ e2 ∈ e7, True)) ∧ (y.2.2.2.length * 48 ≤ 140737488351232 ∧ y.2.2.2.length ≤ 9223372036854775807 ∧ ∀ e7 ∈ y.2.2.2, ok109 e7)
def ms28 (y : S28) : Nat := 1 + 1 + ((y.2.2.1.map fun x => ((x.map fun x => 1).sum + 1)).sum + 1) + ((y.2.2.2.map ms109).sum + 1) + 1
theorem open28 : Opens Tryz.prog 28 4 pv28 ok28 ms28 := by
  have h := opens_struct Tryz.underlying28 (by kernel_rfl) (opensF_cons rfl (opens_int Tryz.underlying2 (by kernel_rfl)) (opensF_cons rfl (opens_int Tryz.underlying2 (by kernel_rfl)) (opensF_cons rfl (opens_slice Tryz.underlying25 (by kernel_rfl) (opens_slice Tryz.underlying22 (by kernel_rfl) (opens_u8 Tryz.underlying5 (by kernel_rfl)) (B := 1) (by kernel_rfl) (by decide)) (B := 24) (by kernel_rfl) (by decide)) (opensF_one rfl (opens_slice Tryz.underlying26 (by kernel_rfl) open109 (B := 48) (by kernel_rfl) (by decide))))))
  exact opens_mono h (fun _ => rfl) (fun _ h => h) (fun _ => by first | exact Nat.le_refl _ | (simp only [ms28]; omega))
abbrev S117 : Type := ByteArray × Int
def pv117 (y : S117) : List PV := [.str y.1] ++ ([.int .i64 y.2])
def ok117 (y : S117) : Prop := y.1.size ≤ 140737488351232 ∧ (Lit.int .i64 y.2).wf = true
def ms117 (y : S117) : Nat := (y.1.size + 1) + 1 + 1
theorem open117 : Opens Tryz.prog 117 2 pv117 ok117 ms117 := by
  have h := opens_struct Tryz.underlying117 (by kernel_rfl) (opensF_cons rfl (opens_string Tryz.underlying9 (by kernel_rfl)) (opensF_one rfl (opens_int Tryz.underlying3 (by kernel_rfl))))
  exact opens_mono h (fun _ => rfl) (fun _ h => h) (fun _ => by first | exact Nat.le_refl _ | (simp only [ms117]; omega))
abbrev S119 : Type := ByteArray × Int × Int
def pv119 (y : S119) : List PV := [.str y.1] ++ ([.int .i64 y.2.1] ++ ([.int .i64 y.2.2]))
def ok119 (y : S119) : Prop := y.1.size ≤ 140737488351232 ∧ (Lit.int .i64 y.2.1).wf = true ∧ (Lit.int .i64 y.2.2).wf = true
def ms119 (y : S119) : Nat := (y.1.size + 1) + 1 + 1 + 1
theorem open119 : Opens Tryz.prog 119 3 pv119 ok119 ms119 := by
  have h := opens_struct Tryz.underlying119 (by kernel_rfl) (opensF_cons rfl (opens_string Tryz.underlying9 (by kernel_rfl)) (opensF_cons rfl (opens_int Tryz.underlying2 (by kernel_rfl)) (opensF_one rfl (opens_int Tryz.underlying3 (by kernel_rfl)))))
  exact opens_mono h (fun _ => rfl) (fun _ h => h) (fun _ => by first | exact Nat.le_refl _ | (simp only [ms119]; omega))
abbrev S190 : Type := ByteArray × (List ByteArray)
def pv190 (y : S190) : List PV := [.str y.1] ++ ([.sl 1 (y.2.map fun x => elOf [.str x])])
def ok190 (y : S190) : Prop := y.1.size ≤ 140737488351232 ∧ (y.2.length * 16 ≤ 140737488351232 ∧ y.2.length ≤ 9223372036854775807 ∧ ∀ e3 ∈ y.2, e3.size ≤ 140737488351232)
def ms190 (y : S190) : Nat := (y.1.size + 1) + ((y.2.map fun x => (x.size + 1)).sum + 1) + 1
theorem open190 : Opens Tryz.prog 190 2 pv190 ok190 ms190 := by
  have h := opens_struct Tryz.underlying190 (by kernel_rfl) (opensF_cons rfl (opens_string Tryz.underlying9 (by kernel_rfl)) (opensF_one rfl (opens_slice Tryz.underlying53 (by kernel_rfl) (opens_string Tryz.underlying9 (by kernel_rfl)) (B := 16) (by kernel_rfl) (by decide))))
  exact opens_mono h (fun _ => rfl) (fun _ h => h) (fun _ => by first | exact Nat.le_refl _ | (simp only [ms190]; omega))
abbrev S192 : Type := S190 × Int × Bool
def pv192 (y : S192) : List PV := (pv190 y.1) ++ ([.int .i64 y.2.1] ++ ([.bool y.2.2]))
def ok192 (y : S192) : Prop := ok190 y.1 ∧ (Lit.int .i64 y.2.1).wf = true ∧ True
def ms192 (y : S192) : Nat := ms190 y.1 + 1 + 1 + 1
theorem open192 : Opens Tryz.prog 192 4 pv192 ok192 ms192 := by
  have h := opens_struct Tryz.underlying192 (by kernel_rfl) (opensF_cons rfl open190 (opensF_cons rfl (opens_int Tryz.underlying2 (by kernel_rfl)) (opensF_one rfl (opens_bool Tryz.underlying4 (by kernel_rfl)))))
  exact opens_mono h (fun _ => rfl) (fun _ h => h) (fun _ => by first | exact Nat.le_refl _ | (simp only [ms192]; omega))
abbrev S195 : Type := ByteArray × (List S55)
def pv195 (y : S195) : List PV := [.str y.1] ++ ([.sl 2 (y.2.map fun x => elOf (pv55 x))])
def ok195 (y : S195) : Prop := y.1.size ≤ 140737488351232 ∧ (y.2.length * 24 ≤ 140737488351232 ∧ y.2.length ≤ 9223372036854775807 ∧ ∀ e3 ∈ y.2, ok55 e3)
def ms195 (y : S195) : Nat := (y.1.size + 1) + ((y.2.map ms55).sum + 1) + 1
theorem open195 : Opens Tryz.prog 195 2 pv195 ok195 ms195 := by
  have h := opens_struct Tryz.underlying195 (by kernel_rfl) (opensF_cons rfl (opens_string Tryz.underlying9 (by kernel_rfl)) (opensF_one rfl (opens_slice Tryz.underlying68 (by kernel_rfl) open55 (B := 24) (by kernel_rfl) (by decide))))
  exact opens_mono h (fun _ => rfl) (fun _ h => h) (fun _ => by first | exact Nat.le_refl _ | (simp only [ms195]; omega))
abbrev S199 : Type := S55 × Int
def pv199 (y : S199) : List PV := (pv55 y.1) ++ ([.int .i64 y.2])
def ok199 (y : S199) : Prop := ok55 y.1 ∧ (Lit.int .i64 y.2).wf = true
def ms199 (y : S199) : Nat := ms55 y.1 + 1 + 1
theorem open199 : Opens Tryz.prog 199 3 pv199 ok199 ms199 := by
  have h := opens_struct Tryz.underlying199 (by kernel_rfl) (opensF_cons rfl open55 (opensF_one rfl (opens_int Tryz.underlying2 (by kernel_rfl))))
  exact opens_mono h (fun _ => rfl) (fun _ h => h) (fun _ => by first | exact Nat.le_refl _ | (simp only [ms199]; omega))
abbrev S124 : Type := ByteArray × Int × UInt8 × Int × (List S192) × (List S195) × (List S199)
def pv124 (y : S124) : List PV := [.str y.1] ++ ([.int .i64 y.2.1] ++ ([bv y.2.2.1] ++ ([.int .i64 y.2.2.2.1] ++ ([.sl 4 (y.2.2.2.2.1.map fun x => elOf (pv192 x))] ++ ([.sl 2 (y.2.2.2.2.2.1.map fun x => elOf (pv195 x))] ++ ([.sl 3 (y.2.2.2.2.2.2.map fun x => elOf (pv199 x))]))))))
def ok124 (y : S124) : Prop := y.1.size ≤ 140737488351232 ∧ (Lit.int .i64 y.2.1).wf = true ∧ True ∧ (Lit.int .i64 y.2.2.2.1).wf = true ∧ (y.2.2.2.2.1.length * 56 ≤ 140737488351232 ∧ y.2.2.2.2.1.length ≤ 9223372036854775807 ∧ ∀ e11 ∈ y.2.2.2.2.1, ok192 e11) ∧ (y.2.2.2.2.2.1.length * 40 ≤ 140737488351232 ∧ y.2.2.2.2.2.1.length ≤ 9223372036854775807 ∧ ∀ e13 ∈ y.2.2.2.2.2.1, ok195 e13) ∧ (y.2.2.2.2.2.2.length * 32 ≤ 140737488351232 ∧ y.2.2.2.2.2.2.length ≤ 9223372036854775807 ∧ ∀ e13 ∈ y.2.2.2.2.2.2, ok199 e13)
def ms124 (y : S124) : Nat := (y.1.size + 1) + 1 + 1 + 1 + ((y.2.2.2.2.1.map ms192).sum + 1) + ((y.2.2.2.2.2.1.map ms195).sum + 1) + ((y.2.2.2.2.2.2.map ms199).sum + 1) + 1
theorem open124 : Opens Tryz.prog 124 7 pv124 ok124 ms124 := by
  have h := opens_struct Tryz.underlying124 (by kernel_rfl) (opensF_cons rfl (opens_string Tryz.underlying9 (by kernel_rfl)) (opensF_cons rfl (opens_int Tryz.underlying3 (by kernel_rfl)) (opensF_cons rfl (opens_u8 Tryz.underlying67 (by kernel_rfl)) (opensF_cons rfl (opens_int Tryz.underlying2 (by kernel_rfl)) (opensF_cons rfl (opens_slice Tryz.underlying120 (by kernel_rfl) open192 (B := 56) (by kernel_rfl) (by decide)) (opensF_cons rfl (opens_slice Tryz.underlying121 (by kernel_rfl) open195 (B := 40) (by kernel_rfl) (by decide)) (opensF_one rfl (opens_slice Tryz.underlying122 (by kernel_rfl) open199 (B := 32) (by kernel_rfl) (by decide)))))))))
  exact opens_mono h (fun _ => rfl) (fun _ h => h) (fun _ => by first | exact Nat.le_refl _ | (simp only [ms124]; omega))
abbrev S70 : Type := Int × Int × Int × Int × UInt8 × (List S55)
def pv70 (y : S70) : List PV := [.int .i64 y.1] ++ ([.int .i64 y.2.1] ++ ([.int .i64 y.2.2.1] ++ ([.int .i64 y.2.2.2.1] ++ ([bv y.2.2.2.2.1] ++ ([.sl 2 (y.2.2.2.2.2.map fun x => elOf (pv55 x))])))))
def ok70 (y : S70) : Prop := (Lit.int .i64 y.1).wf = true ∧ (Lit.int .i64 y.2.1).wf = true ∧ (Lit.int .i64 y.2.2.1).wf = true ∧ (Lit.int .i64 y.2.2.2.1).wf = true ∧ True ∧ (y.2.2.2.2.2.length * 24 ≤ 140737488351232 ∧ y.2.2.2.2.2.length ≤ 9223372036854775807 ∧ ∀ e11 ∈ y.2.2.2.2.2, ok55 e11)
def ms70 (y : S70) : Nat := 1 + 1 + 1 + 1 + 1 + ((y.2.2.2.2.2.map ms55).sum + 1) + 1
theorem open70 : Opens Tryz.prog 70 6 pv70 ok70 ms70 := by
  have h := opens_struct Tryz.underlying70 (by kernel_rfl) (opensF_cons rfl (opens_int Tryz.underlying29 (by kernel_rfl)) (opensF_cons rfl (opens_int Tryz.underlying2 (by kernel_rfl)) (opensF_cons rfl (opens_int Tryz.underlying3 (by kernel_rfl)) (opensF_cons rfl (opens_int Tryz.underlying3 (by kernel_rfl)) (opensF_cons rfl (opens_u8 Tryz.underlying67 (by kernel_rfl)) (opensF_one rfl (opens_slice Tryz.underlying68 (by kernel_rfl) open55 (B := 24) (by kernel_rfl) (by decide))))))))
  exact opens_mono h (fun _ => rfl) (fun _ h => h) (fun _ => by first | exact Nat.le_refl _ | (simp only [ms70]; omega))
abbrev S130 : Type := Int × S70
def pv130 (y : S130) : List PV := [.int .i64 y.1] ++ ((pv70 y.2))
def ok130 (y : S130) : Prop := (Lit.int .i64 y.1).wf = true ∧ ok70 y.2
def ms130 (y : S130) : Nat := 1 + ms70 y.2 + 1
theorem open130 : Opens Tryz.prog 130 7 pv130 ok130 ms130 := by
  have h := opens_struct Tryz.underlying130 (by kernel_rfl) (opensF_cons rfl (opens_int Tryz.underlying3 (by kernel_rfl)) (opensF_one rfl open70))
  exact opens_mono h (fun _ => rfl) (fun _ h => h) (fun _ => by first | exact Nat.le_refl _ | (simp only [ms130]; omega))
abbrev S128 : Type := Int × Int × (List S130)
def pv128 (y : S128) : List PV := [.int .i64 y.1] ++ ([.int .i64 y.2.1] ++ ([.sl 7 (y.2.2.map fun x => elOf (pv130 x))]))
def ok128 (y : S128) : Prop := (Lit.int .i64 y.1).wf = true ∧ (Lit.int .i64 y.2.1).wf = true ∧ (y.2.2.length * 72 ≤ 140737488351232 ∧ y.2.2.length ≤ 9223372036854775807 ∧ ∀ e5 ∈ y.2.2, ok130 e5)
def ms128 (y : S128) : Nat := 1 + 1 + ((y.2.2.map ms130).sum + 1) + 1
theorem open128 : Opens Tryz.prog 128 3 pv128 ok128 ms128 := by
  have h := opens_struct Tryz.underlying128 (by kernel_rfl) (opensF_cons rfl (opens_int Tryz.underlying3 (by kernel_rfl)) (opensF_cons rfl (opens_int Tryz.underlying3 (by kernel_rfl)) (opensF_one rfl (opens_slice Tryz.underlying126 (by kernel_rfl) open130 (B := 72) (by kernel_rfl) (by decide)))))
  exact opens_mono h (fun _ => rfl) (fun _ h => h) (fun _ => by first | exact Nat.le_refl _ | (simp only [ms128]; omega))
abbrev S37 : Type := Int × (List S117) × (List S119) × (List S124) × (List S128)
def pv37 (y : S37) : List PV := [.int .i64 y.1] ++ ([.sl 2 (y.2.1.map fun x => elOf (pv117 x))] ++ ([.sl 3 (y.2.2.1.map fun x => elOf (pv119 x))] ++ ([.sl 7 (y.2.2.2.1.map fun x => elOf (pv124 x))] ++ ([.sl 3 (y.2.2.2.2.map fun x => elOf (pv128 x))]))))
def ok37 (y : S37) : Prop := (Lit.int .i64 y.1).wf = true ∧ (y.2.1.length * 24 ≤ 140737488351232 ∧ y.2.1.length ≤ 9223372036854775807 ∧ ∀ e5 ∈ y.2.1, ok117 e5) ∧ (y.2.2.1.length * 32 ≤ 140737488351232 ∧ y.2.2.1.length ≤ 9223372036854775807 ∧ ∀ e7 ∈ y.2.2.1, ok119 e7) ∧ (y.2.2.2.1.length * 112 ≤ 140737488351232 ∧ y.2.2.2.1.length ≤ 9223372036854775807 ∧ ∀ e9 ∈ y.2.2.2.1, ok124 e9) ∧ (y.2.2.2.2.length * 40 ≤ 140737488351232 ∧ y.2.2.2.2.length ≤ 9223372036854775807 ∧ ∀ e9 ∈ y.2.2.2.2, ok128 e9)
def ms37 (y : S37) : Nat := 1 + ((y.2.1.map ms117).sum + 1) + ((y.2.2.1.map ms119).sum + 1) + ((y.2.2.2.1.map ms124).sum + 1) + ((y.2.2.2.2.map ms128).sum + 1) + 1
theorem open37 : Opens Tryz.prog 37 5 pv37 ok37 ms37 := by
  have h := opens_struct Tryz.underlying37 (by kernel_rfl) (opensF_cons rfl (opens_int Tryz.underlying2 (by kernel_rfl)) (opensF_cons rfl (opens_slice Tryz.underlying32 (by kernel_rfl) open117 (B := 24) (by kernel_rfl) (by decide)) (opensF_cons rfl (opens_slice Tryz.underlying33 (by kernel_rfl) open119 (B := 32) (by kernel_rfl) (by decide)) (opensF_cons rfl (opens_slice Tryz.underlying34 (by kernel_rfl) open124 (B := 112) (by kernel_rfl) (by decide)) (opensF_one rfl (opens_slice Tryz.underlying35 (by kernel_rfl) open128 (B := 40) (by kernel_rfl) (by decide)))))))
  exact opens_mono h (fun _ => rfl) (fun _ h => h) (fun _ => by first | exact Nat.le_refl _ | (simp only [ms37]; omega))
abbrev S63 : Type := UInt8 × Int × Int × ByteArray × Int × S46 × Int × Int × Int × S57
def pv63 (y : S63) : List PV := [bv y.1] ++ ([.int .i64 y.2.1] ++ ([.int .i64 y.2.2.1] ++ ([.str y.2.2.2.1] ++ ([.int .i64 y.2.2.2.2.1] ++ ((pv46 y.2.2.2.2.2.1) ++ ([.int .i64 y.2.2.2.2.2.2.1] ++ ([.int .i64 y.2.2.2.2.2.2.2.1] ++ ([.int .i64 y.2.2.2.2.2.2.2.2.1] ++ ((pv57 y.2.2.2.2.2.2.2.2.2))))))))))
def ok63 (y : S63) : Prop := True ∧ (Lit.int .i64 y.2.1).wf = true ∧ (Lit.int .i64 y.2.2.1).wf = true ∧ y.2.2.2.1.size ≤ 140737488351232 ∧ (Lit.int .i64 y.2.2.2.2.1).wf = true ∧ ok46 y.2.2.2.2.2.1 ∧ (Lit.int .i64 y.2.2.2.2.2.2.1).wf = true ∧ (Lit.int .i64 y.2.2.2.2.2.2.2.1).wf = true ∧ (Lit.int .i64 y.2.2.2.2.2.2.2.2.1).wf = true ∧ ok57 y.2.2.2.2.2.2.2.2.2
def ms63 (y : S63) : Nat := 1 + 1 + 1 + (y.2.2.2.1.size + 1) + 1 + ms46 y.2.2.2.2.2.1 + 1 + 1 + 1 + ms57 y.2.2.2.2.2.2.2.2.2 + 1
theorem open63 : Opens Tryz.prog 63 23 pv63 ok63 ms63 := by
  have h := opens_struct Tryz.underlying63 (by kernel_rfl) (opensF_cons rfl (opens_u8 Tryz.underlying61 (by kernel_rfl)) (opensF_cons rfl (opens_int Tryz.underlying3 (by kernel_rfl)) (opensF_cons rfl (opens_int Tryz.underlying3 (by kernel_rfl)) (opensF_cons rfl (opens_string Tryz.underlying9 (by kernel_rfl)) (opensF_cons rfl (opens_int Tryz.underlying3 (by kernel_rfl)) (opensF_cons rfl open46 (opensF_cons rfl (opens_int Tryz.underlying2 (by kernel_rfl)) (opensF_cons rfl (opens_int Tryz.underlying3 (by kernel_rfl)) (opensF_cons rfl (opens_int Tryz.underlying3 (by kernel_rfl)) (opensF_one rfl open57))))))))))
  exact opens_mono h (fun _ => rfl) (fun _ h => h) (fun _ => by first | exact Nat.le_refl _ | (simp only [ms63]; omega))
abbrev S72 : Type := UInt8 × Int × Int × Int × Int × Int × Int × Int × Bool × (List (List UInt8)) × S70
def pv72 (y : S72) : List PV := [bv y.1] ++ ([.int .i64 y.2.1] ++ ([.int .i64 y.2.2.1] ++ ([.int .i64 y.2.2.2.1] ++ ([.int .i64 y.2.2.2.2.1] ++ ([.int .i64 y.2.2.2.2.2.1] ++ ([.int .i64 y.2.2.2.2.2.2.1] ++ ([.int .i64 y.2.2.2.2.2.2.2.1] ++ ([.bool y.2.2.2.2.2.2.2.2.1] ++ ([.sl 1 (y.2.2.2.2.2.2.2.2.2.1.map fun x => elOf [.sl 1 (bl x)])] ++ ((pv70 y.2.2.2.2.2.2.2.2.2.2)))))))))))
def ok72 (y : S72) : Prop := True ∧ (Lit.int .i64 y.2.1).wf = true ∧ (Lit.int .i64 y.2.2.1).wf = true ∧ (Lit.int .i64 y.2.2.2.1).wf = true ∧ (Lit.int .i64 y.2.2.2.2.1).wf = true ∧ (Lit.int .i64 y.2.2.2.2.2.1).wf = true ∧ (Lit.int .i64 y.2.2.2.2.2.2.1).wf = true ∧ (Lit.int .i64 y.2.2.2.2.2.2.2.1).wf = true ∧ True ∧ (y.2.2.2.2.2.2.2.2.2.1.length * 24 ≤ 140737488351232 ∧ y.2.2.2.2.2.2.2.2.2.1.length ≤ 9223372036854775807 ∧ ∀ e21 ∈ y.2.2.2.2.2.2.2.2.2.1, (e21.length * 1 ≤ 140737488351232 ∧ e21.length ≤ 9223372036854775807 ∧ ∀ e3 ∈ e21, True)) ∧ ok70 y.2.2.2.2.2.2.2.2.2.2
def ms72 (y : S72) : Nat := 1 + 1 + 1 + 1 + 1 + 1 + 1 + 1 + 1 + ((y.2.2.2.2.2.2.2.2.2.1.map fun x => ((x.map fun x => 1).sum + 1)).sum + 1) + ms70 y.2.2.2.2.2.2.2.2.2.2 + 1
theorem open72 : Opens Tryz.prog 72 16 pv72 ok72 ms72 := by
  have h := opens_struct Tryz.underlying72 (by kernel_rfl) (opensF_cons rfl (opens_u8 Tryz.underlying61 (by kernel_rfl)) (opensF_cons rfl (opens_int Tryz.underlying3 (by kernel_rfl)) (opensF_cons rfl (opens_int Tryz.underlying3 (by kernel_rfl)) (opensF_cons rfl (opens_int Tryz.underlying29 (by kernel_rfl)) (opensF_cons rfl (opens_int Tryz.underlying3 (by kernel_rfl)) (opensF_cons rfl (opens_int Tryz.underlying2 (by kernel_rfl)) (opensF_cons rfl (opens_int Tryz.underlying2 (by kernel_rfl)) (opensF_cons rfl (opens_int Tryz.underlying2 (by kernel_rfl)) (opensF_cons rfl (opens_bool Tryz.underlying4 (by kernel_rfl)) (opensF_cons rfl (opens_slice Tryz.underlying25 (by kernel_rfl) (opens_slice Tryz.underlying22 (by kernel_rfl) (opens_u8 Tryz.underlying5 (by kernel_rfl)) (B := 1) (by kernel_rfl) (by decide)) (B := 24) (by kernel_rfl) (by decide)) (opensF_one rfl open70)))))))))))
  exact opens_mono h (fun _ => rfl) (fun _ h => h) (fun _ => by first | exact Nat.le_refl _ | (simp only [ms72]; omega))
abbrev S153 : Type := Int × (List UInt8)
def pv153 (y : S153) : List PV := [.int .i64 y.1] ++ ([.sl 1 (bl y.2)])
def ok153 (y : S153) : Prop := (Lit.int .i64 y.1).wf = true ∧ (y.2.length * 1 ≤ 140737488351232 ∧ y.2.length ≤ 9223372036854775807 ∧ ∀ e3 ∈ y.2, True)
def ms153 (y : S153) : Nat := 1 + ((y.2.map fun x => 1).sum + 1) + 1
theorem open153 : Opens Tryz.prog 153 2 pv153 ok153 ms153 := by
  have h := opens_struct Tryz.underlying153 (by kernel_rfl) (opensF_cons rfl (opens_int Tryz.underlying3 (by kernel_rfl)) (opensF_one rfl (opens_slice Tryz.underlying22 (by kernel_rfl) (opens_u8 Tryz.underlying5 (by kernel_rfl)) (B := 1) (by kernel_rfl) (by decide))))
  exact opens_mono h (fun _ => rfl) (fun _ h => h) (fun _ => by first | exact Nat.le_refl _ | (simp only [ms153]; omega))
abbrev S79 : Type := ByteArray × UInt8 × Int × Int × Int × Int × Int × Int × Int × Bool × (List S153) × (List UInt8)
def pv79 (y : S79) : List PV := [.str y.1] ++ ([bv y.2.1] ++ ([.int .i64 y.2.2.1] ++ ([.int .i64 y.2.2.2.1] ++ ([.int .i64 y.2.2.2.2.1] ++ ([.int .i64 y.2.2.2.2.2.1] ++ ([.int .i64 y.2.2.2.2.2.2.1] ++ ([.int .i64 y.2.2.2.2.2.2.2.1] ++ ([.int .i64 y.2.2.2.2.2.2.2.2.1] ++ ([.bool y.2.2.2.2.2.2.2.2.2.1] ++ ([.sl 2 (y.2.2.2.2.2.2.2.2.2.2.1.map fun x => elOf (pv153 x))] ++ ([.sl 1 (bl y.2.2.2.2.2.2.2.2.2.2.2)])))))))))))
def ok79 (y : S79) : Prop := y.1.size ≤ 140737488351232 ∧ True ∧ (Lit.int .i64 y.2.2.1).wf = true ∧ (Lit.int .i64 y.2.2.2.1).wf = true ∧ (Lit.int .i64 y.2.2.2.2.1).wf = true ∧ (Lit.int .i64 y.2.2.2.2.2.1).wf = true ∧ (Lit.int .i64 y.2.2.2.2.2.2.1).wf = true ∧ (Lit.int .i64 y.2.2.2.2.2.2.2.1).wf = true ∧ (Lit.int .i64 y.2.2.2.2.2.2.2.2.1).wf = true ∧ True ∧ (y.2.2.2.2.2.2.2.2.2.2.1.length * 32 ≤ 140737488351232 ∧ y.2.2.2.2.2.2.2.2.2.2.1.length ≤ 9223372036854775807 ∧ ∀ e23 ∈ y.2.2.2.2.2.2.2.2.2.2.1, ok153 e23) ∧ (y.2.2.2.2.2.2.2.2.2.2.2.length * 1 ≤ 140737488351232 ∧ y.2.2.2.2.2.2.2.2.2.2.2.length ≤ 9223372036854775807 ∧ ∀ e23 ∈ y.2.2.2.2.2.2.2.2.2.2.2, True)
def ms79 (y : S79) : Nat := (y.1.size + 1) + 1 + 1 + 1 + 1 + 1 + 1 + 1 + 1 + 1 + ((y.2.2.2.2.2.2.2.2.2.2.1.map ms153).sum + 1) + ((y.2.2.2.2.2.2.2.2.2.2.2.map fun x => 1).sum + 1) + 1
theorem open79 : Opens Tryz.prog 79 12 pv79 ok79 ms79 := by
  have h := opens_struct Tryz.underlying79 (by kernel_rfl) (opensF_cons rfl (opens_string Tryz.underlying9 (by kernel_rfl)) (opensF_cons rfl (opens_u8 Tryz.underlying76 (by kernel_rfl)) (opensF_cons rfl (opens_int Tryz.underlying3 (by kernel_rfl)) (opensF_cons rfl (opens_int Tryz.underlying3 (by kernel_rfl)) (opensF_cons rfl (opens_int Tryz.underlying3 (by kernel_rfl)) (opensF_cons rfl (opens_int Tryz.underlying3 (by kernel_rfl)) (opensF_cons rfl (opens_int Tryz.underlying3 (by kernel_rfl)) (opensF_cons rfl (opens_int Tryz.underlying3 (by kernel_rfl)) (opensF_cons rfl (opens_int Tryz.underlying3 (by kernel_rfl)) (opensF_cons rfl (opens_bool Tryz.underlying4 (by kernel_rfl)) (opensF_cons rfl (opens_slice Tryz.underlying77 (by kernel_rfl) open153 (B := 32) (by kernel_rfl) (by decide)) (opensF_one rfl (opens_slice Tryz.underlying22 (by kernel_rfl) (opens_u8 Tryz.underlying5 (by kernel_rfl)) (B := 1) (by kernel_rfl) (by decide))))))))))))))
  exact opens_mono h (fun _ => rfl) (fun _ h => h) (fun _ => by first | exact Nat.le_refl _ | (simp only [ms79]; omega))
abbrev S84 : Type := S48 × S57 × S28 × S37 × S63 × S72 × S79
def pv84 (y : S84) : List PV := (pv48 y.1) ++ ((pv57 y.2.1) ++ ((pv28 y.2.2.1) ++ ((pv37 y.2.2.2.1) ++ ((pv63 y.2.2.2.2.1) ++ ((pv72 y.2.2.2.2.2.1) ++ ((pv79 y.2.2.2.2.2.2)))))))
def ok84 (y : S84) : Prop := ok48 y.1 ∧ ok57 y.2.1 ∧ ok28 y.2.2.1 ∧ ok37 y.2.2.2.1 ∧ ok63 y.2.2.2.2.1 ∧ ok72 y.2.2.2.2.2.1 ∧ ok79 y.2.2.2.2.2.2
def ms84 (y : S84) : Nat := ms48 y.1 + ms57 y.2.1 + ms28 y.2.2.1 + ms37 y.2.2.2.1 + ms63 y.2.2.2.2.1 + ms72 y.2.2.2.2.2.1 + ms79 y.2.2.2.2.2.2 + 1
theorem open84 : Opens Tryz.prog 84 77 pv84 ok84 ms84 := by
  have h := opens_struct Tryz.underlying84 (by kernel_rfl) (opensF_cons rfl open48 (opensF_cons rfl open57 (opensF_cons rfl open28 (opensF_cons rfl open37 (opensF_cons rfl open63 (opensF_cons rfl open72 (opensF_one rfl open79)))))))
  exact opens_mono h (fun _ => rfl) (fun _ h => h) (fun _ => by first | exact Nat.le_refl _ | (simp only [ms84]; omega))
abbrev lawWireReadsStates : Ctr := ⟨(List UInt8), 0, fun x => [.p false (.sl 1 (bl x))], fun _ => [], fun x => ((x.length * 1 ≤ 140737488351232 ∧ x.length ≤ 9223372036854775807 ∧ ∀ e1 ∈ x, True)), fun _ => isB true, fun _ => []⟩
abbrev lawWireReadsStatesU : Ctr := ⟨(List UInt8), 0, fun x => [.p false (.sl 1 (bl x))], fun _ => [], fun x => ((x.length * 1 ≤ 140737488351232 ∧ x.length ≤ 9223372036854775807 ∧ ∀ e1 ∈ x, True)) ∧ ((x.map fun x => 1).sum + 1) ≤ 1048576, fun _ => isB true, fun _ => []⟩
abbrev lawWireReads : Ctr := ⟨(List UInt8), 0, fun x => [.p false (.sl 1 (bl x))], fun _ => [], fun x => ((x.length * 1 ≤ 140737488351232 ∧ x.length ≤ 9223372036854775807 ∧ ∀ e1 ∈ x, True)), fun _ => isB true, fun _ => []⟩
abbrev lawWireReadsU : Ctr := ⟨(List UInt8), 0, fun x => [.p false (.sl 1 (bl x))], fun _ => [], fun x => ((x.length * 1 ≤ 140737488351232 ∧ x.length ≤ 9223372036854775807 ∧ ∀ e1 ∈ x, True)) ∧ ((x.map fun x => 1).sum + 1) ≤ 1048576, fun _ => isB true, fun _ => []⟩
abbrev lawWireApart : Ctr := ⟨S84 × S84, 0, fun x => [.agg ((pv84 x.1).map avOf), .agg ((pv84 x.2).map avOf)], fun _ => [], fun x => (ok84 x.1) ∧ (ok84 x.2), fun _ => isB true, fun _ => []⟩
abbrev lawWireApartU : Ctr := ⟨S84 × S84, 0, fun x => [.agg ((pv84 x.1).map avOf), .agg ((pv84 x.2).map avOf)], fun _ => [], fun x => (ok84 x.1) ∧ (ok84 x.2) ∧ ms84 x.1 + ms84 x.2 ≤ 1048576, fun _ => isB true, fun _ => []⟩
abbrev lawWireBack : Ctr := ⟨S84 × (List UInt8) × Int, 0, fun x => [.agg ((pv84 x.1).map avOf), .p false (.sl 1 (bl x.2.1)), .p true (.int .i64 x.2.2)], fun _ => [], fun x => (ok84 x.1) ∧ ((x.2.1.length * 1 ≤ 140737488351232 ∧ x.2.1.length ≤ 9223372036854775807 ∧ ∀ e5 ∈ x.2.1, True)) ∧ ((Lit.int .i64 x.2.2).wf = true), fun _ => isB true, fun _ => []⟩
abbrev lawWireBackU : Ctr := ⟨S84 × (List UInt8) × Int, 0, fun x => [.agg ((pv84 x.1).map avOf), .p false (.sl 1 (bl x.2.1)), .p true (.int .i64 x.2.2)], fun _ => [], fun x => (ok84 x.1) ∧ ((x.2.1.length * 1 ≤ 140737488351232 ∧ x.2.1.length ≤ 9223372036854775807 ∧ ∀ e5 ∈ x.2.1, True)) ∧ ((Lit.int .i64 x.2.2).wf = true) ∧ ms84 x.1 + ((x.2.1.map fun x => 1).sum + 1) + 1 ≤ 1048576, fun _ => isB true, fun _ => []⟩
end Go.Proofs.YtingmlhhabaplaaGreat.Ev
