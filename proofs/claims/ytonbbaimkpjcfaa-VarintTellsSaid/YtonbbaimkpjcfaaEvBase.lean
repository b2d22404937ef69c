/- The seat's own: the program follows the text's orders, its types are as told. No conditions. -/
import Derived.Test.YtonbbaimkpjcfaaEvPlain
import Derived.Test.YtonbbaimkpjcfaaEvTab
import Derived.Test.YtonbbaimkpjcfaaProg
namespace Go.Proofs.Ytonbbaimkpjcfaa.Ev
open Go
set_option maxRecDepth 100000
theorem mixed : Try.prog.follows .mixedOrders = true := by kernel_rfl
theorem tabOk_prog : tabOk Try.prog tab = true := by kernel_rfl
/-- What an operation asks, plain. -/
theorem dI {p q : Prop} (h : p := by first | exact Nat.le_of_ble_eq_true rfl | exact ⟨Nat.le_of_ble_eq_true rfl, rfl⟩ | exact rfl | decide | (simp [allP]; done)) (k : q) : p ∧ q := ⟨h, k⟩
theorem look_app {α : Type _} : ∀ (a b : List (Nat × α)) (k : Nat), look (a ++ b) k = match look a k with | some v => some v | none => look b k
  | [], b, k => rfl
  | (i, v) :: r, b, k => by
    show look ((i, v) :: (r ++ b)) k = _
    by_cases h : i = k
    · subst h
      rw [look_cons_same, look_cons_same]
    · rw [look_cons_ne _ _ h, look_cons_ne _ _ h]
      exact look_app r b k
theorem GamOk.app {P : Program} {a b : List (FuncId × Ctr)} (ha : GamOk P a) (hb : GamOk P b) : GamOk P (a ++ b) := by
  intro f c h
  rw [look_app] at h
  cases hf : look a f with
  | none => rw [hf] at h; exact hb f c h
  | some d =>
    rw [hf] at h
    obtain rfl := Option.some.inj h
    exact ha f d hf
end Go.Proofs.Ytonbbaimkpjcfaa.Ev
