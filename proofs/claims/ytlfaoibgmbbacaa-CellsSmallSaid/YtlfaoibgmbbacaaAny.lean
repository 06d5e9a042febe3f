/- A region that draws its order, by a condition that each operation keeps. -/
import Derived.Test.YtlfaoibgmbbacaaActsKit
namespace Go.Proofs.Ytlfaoibgmbbacaa
open Go.RowKit
theorem count_listed {l : Array Bool} {i : Nat} (h : l.getD i true = false) : (l.setIfInBounds i true).toList.count false + 1 = l.toList.count false := by
  have hlt : i < l.toList.length := by
    rcases Nat.lt_or_ge i l.size with h' | h'
    · simpa using h'
    · simp [Array.getD, Nat.not_lt.2 h'] at h
  have hv : l.toList[i] = false := by
    have h' : i < l.size := by simpa using hlt
    simpa [Array.getD, h'] using h
  have hp : 0 < l.toList.count false := List.count_pos_iff.2 (hv ▸ List.getElem_mem hlt)
  rw [Array.toList_setIfInBounds, List.count_set hlt, hv]
  have h1 : ((false : Bool) == false) = true := rfl
  have h2 : ((true : Bool) == false) = false := rfl
  rw [h1, h2, if_pos rfl, if_neg (by decide)]
  omega
theorem wpAny_keep {P : Program} {md : Region.Mode} {ops : Array Oper} {Q : Exit → Act → World → Prop} (I : Array Bool → Act → World → Prop)
    (hstep : ∀ listed a w i, I listed a w → i ∈ Region.ready md ops listed → wpOp P ops Q i (fun a' w' => I (listed.setIfInBounds i true) a' w') a w)
    (hdone : ∀ listed a w, I listed a w → Region.ready md ops listed = [] → Q .normal a w) :
    ∀ fuel listed a w, listed.toList.count false ≤ fuel → I listed a w → wpAny P md ops Q fuel listed a w := by
  intro fuel
  induction fuel with
  | zero =>
    intro listed a w hc hI
    have hr : Region.ready md ops listed = [] := by
      apply List.eq_nil_iff_forall_not_mem.2
      intro i hi
      have := count_listed (mem_ready.1 hi).1
      omega
    exact ⟨hr, hdone _ _ _ hI hr⟩
  | succ fuel ih =>
    intro listed a w hc hI
    refine ⟨fun hr => hdone _ _ _ hI hr, fun i hi => ?_⟩
    have := count_listed (mem_ready.1 hi).1
    exact wpOp_mono (fun a' w' h => ih _ _ _ (by omega) h) (hstep _ _ _ _ hI hi)
end Go.Proofs.Ytlfaoibgmbbacaa
