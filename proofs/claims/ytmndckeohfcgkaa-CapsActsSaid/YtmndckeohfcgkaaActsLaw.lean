/- The walk of CapsActs. -/
import Derived.Test.YtmndckeohfcgkaaActs
namespace Go.Proofs.Ytmndckeohfcgkaa
open Go.RowKit
theorem capsActs_calls {w : World} {A : Option Addr} {cp : Nat} {l : List AC} (hA : Reads w A (flatA l)) (hl : ∀ x ∈ l, x.ok) (hn : l.length ≤ maxLen) (_ : l.length ≤ cp) (next : Int) (_ : (Lit.int .i64 next).wf = true) :
    Calls Try.prog 8 #[.int .i64 next, .slice A l.length cp] w fun e w' => e = .returned (.bool true) ∧ Kept [] w w' := by
  have HA := Lib.hid (acts_calls (cp := cp) next hA hl hn)
  clear hA hl hn
  go_enter Try.func8, Try.ntmps8
  go_wp2_with fail
  refine HA.out.mono ?_
  rintro e w1 ⟨rfl, hk⟩
  have K1 := Lib.hid hk
  clear hk
  go_wp2_with fail
  refine (awake_calls w1).mono ?_
  rintro e w2 ⟨rfl, hk⟩
  have K2 := Lib.hid (K1.out.trans' hk)
  clear hk
  go_wp2
  go_ret
  exact ⟨rfl, K2.out⟩
end Go.Proofs.Ytmndckeohfcgkaa
