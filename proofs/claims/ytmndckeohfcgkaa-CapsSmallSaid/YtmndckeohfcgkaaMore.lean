/- More on what a law holds in the heap: a row that grows by an append. -/
import Derived.Test.YtmndckeohfcgkaaCopiesLaw
namespace Go.Proofs.Ytmndckeohfcgkaa
open Go.RowKit
section
variable {w0 w w' : World} {rs : List Res}
theorem St.append {v v' : Value} {e : TypeId} {size n m : Nat} {xs ys : List Value} (h : St w0 w (.row v e size n xs :: rs)) (hg : w.grownBy w' v.ownBlock) (ho : w'.ownsRow 0 e size v' (n + m) (xs ++ ys))
    (hloc : v'.ownBlock = v.ownBlock ∨ v'.ownBlock = some w.heap.size) : St w0 w' (.row v' e size (n + m) (xs ++ ys) :: rs) := by
  obtain ⟨F1, h1, h2⟩ := h.head
  obtain ⟨_, rfl⟩ := h1
  refine h2 (R' := .row _ _ _ _ _) (row_on ho) (Kept.grown hg (by simp)) fun b hb => ?_
  simp only [Option.mem_toList] at hb
  rcases hloc with e1 | e1
  · left; rw [← e1]; simpa using hb
  · right
    rw [hb] at e1
    simp only [Option.some.injEq] at e1
    omega
theorem St.rowNil (h : St w0 w rs) (e : TypeId) (size : Nat) : St w0 w (.row (.slice none 0 0) e size 0 [] :: rs) :=
  h.new (R := .row _ _ _ _ _) (G := []) (Kept.refl _ _) (row_on (World.ownsRow_nil w 0 e size)) (by simp)
theorem St.keptAlloc (h : St w0 w rs) (o : Obj) : St w0 (w.alloc o) rs := h.kept (Kept.alloc _ _ _)
end
end Go.Proofs.Ytmndckeohfcgkaa
