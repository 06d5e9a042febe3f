/- The walk of CellsActs. -/
import Derived.Test.YtlfaoibgmbbacaaActs
namespace Go.Proofs.Ytlfaoibgmbbacaa
open Go.RowKit
theorem cellsActs_calls {w : World} {A B : Option Addr} {cA cB : Nat} {plan : List Int} {l : List AC} (hA : Reads w A (plan.map numV)) (hB : Reads w B (flatA l)) (hl : ∀ x ∈ l, x.ok) (hpl : plan.length * 8 ≤ 140737488351232) (hpc : plan.length ≤ cA) (hn : l.length ≤ maxLen) :
    Calls Try.prog 7 #[.slice A plan.length cA, .slice B l.length cB] w fun e w' => e = .returned (.bool true) ∧ Kept [] w w' := by
  have HA := Lib.hid (acts_calls (cB := cB) hA hB hl hpl hpc hn)
  clear hA hB hl hpl hpc hn
  go_enter Try.func7, Try.ntmps7
  go_wp2_with fail
  refine HA.out.mono ?_
  rintro e w1 ⟨rfl, hk⟩
  have K1 := Lib.hid hk
  clear hk
  go_wp2_with fail
  refine (awake_calls w1).mono ?_
  rintro e w2 ⟨rfl, hk⟩
  have K2 := Lib.hid (K1.out.trans' hk)
  clear hk
  go_wp2
  go_ret
  exact ⟨rfl, K2.out⟩
end Go.Proofs.Ytlfaoibgmbbacaa
