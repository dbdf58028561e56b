/- What is asked of a valid project: its machines, its setup times, its numbers. -/
import Derived.Test.YtebfijjcmmlbjaaKitMd
import Derived.Test.YtebfijjcmmlbjaaPrj2
namespace Go.Proofs.Ytebfijjcmmlbjaa
open Go.ChangeShapes Go.WideShapes Go.ChangeAt Go.RowKit
set_option linter.unusedVariables false

theorem hasResource_any (p : Pj) (A L R S : Option Addr) (ca cl cr cs : Nat) (a : Int) (w : World) (hs : p.res.length ≤ 16777216) :
    Calls Try.prog 40 #[.agg #[.int .i64 p.dead, .slice A p.acts.length ca, .slice L p.links.length cl, .slice R p.res.length cr, .slice S p.stocks.length cs], .int .i64 a] w fun e w' => e = .returned (.bool (decide (0 ≤ a ∧ a ≤ (p.res.length : Int) - 1))) ∧ Below w.heap.size w w' := by
  have HB2 : Hid (∀ o, Below w.heap.size w (w.alloc o)) := fun o => (Below.refl _ _).alloc (Nat.le_refl _) _
  by_cases h : 0 ≤ a ∧ a ≤ (p.res.length : Int) - 1
  · rw [decide_eq_true h]
    go_enter Try.func40, Try.ntmps40
    go_wp2_with fail
    refine (within_yes _ h).mono ?_
    rintro e w1 ⟨rfl, rfl⟩
    go_wp2
    go_ret
    exact ⟨rfl, HB2.out _⟩
  · rw [decide_eq_false h]
    go_enter Try.func40, Try.ntmps40
    go_wp2_with fail
    refine (within_no _ h).mono ?_
    rintro e w1 ⟨rfl, rfl⟩
    go_wp2
    go_ret
    exact ⟨rfl, HB2.out _⟩
end Go.Proofs.Ytebfijjcmmlbjaa
