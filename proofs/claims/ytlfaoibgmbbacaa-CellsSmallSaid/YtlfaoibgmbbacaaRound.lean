/- A region that draws its order, within a round of a range over a function: it goes as outside a round where no operation of it is a defer statement. -/
import Derived.Test.YtlfaoibgmbbacaaHeap
import Derived.Sort.BigQuietIn
import Derived.OrdersIn
import Derived.RangeFuncCalls
namespace Go.Proofs.Ytlfaoibgmbbacaa
open Go.RowKit
variable {F : Fence} {n : Nat} {P : Program} {ops : Array Oper} {Q : Exit → Act → World → Prop} {md : Region.Mode}

def noDefer (o : Oper) : Bool := match o.op with
  | .defer _ => false
  | _ => true
theorem noDefer_spec {o : Oper} (h : noDefer o = true) : ∀ c, o.op ≠ .defer c := by
  intro c hc
  unfold noDefer at h
  rw [hc] at h
  cases h
theorem wpOpIn_round (l0 : Nat) (hro : F.round = none) (hnd : ops.toList.all noDefer = true) (i : Nat) {K K' : Act → World → Prop} (hK : ∀ a w, K a w → K' a w) (a : Act) (w : World)
    (h : wpOpIn F n P ops Q i K a w) : wpOpIn (F.inRound l0) n P ops Q i K' a w := by
  unfold wpOpIn at h ⊢
  cases ho : ops[i]? with
  | none => rw [ho] at h; exact hK _ _ h
  | some o =>
    rw [ho] at h
    simp only at h ⊢
    have hn := noDefer_spec (List.all_eq_true.1 hnd o (by
      have := Array.getElem?_eq_some_iff.1 ho
      rw [← this.2]
      exact Array.getElem_mem_toList _))
    split at h
    · rename_i hw
      rw [if_pos hw]
      refine ⟨h.1, ?_⟩
      have h2 := h.2
      have e1 : o.semAt F.round a.eval = execOp a.eval o := Oper.semAt_eq _ _ _ hn
      have e2 : o.semAt (F.inRound l0).round a.eval = execOp a.eval o := Oper.semAt_eq _ _ _ hn
      rw [e1] at h2
      rw [e2]
      cases hr : (execOp a.eval o).run P w with
      | ok x w' =>
        rw [hr] at h2
        cases x with
        | value v => exact hK _ _ h2
        | skip => exact hK _ _ h2
        | defer d => exact hK _ _ h2
        | enter f args =>
          refine ⟨h2.1, ?_⟩
          have h3 : CallsIn F (n - 1) P f args w' _ := h2.2
          refine CallsIn.inRound l0 (h3.mono ?_)
          intro e w''
          cases e with
          | returned v => exact hK _ _
          | panicked ch => exact id
          | outgrown => exact id
        | row row args =>
          refine ⟨h2.1, ?_⟩
          have h3 : RowsIn F (n - 1) P row args w' _ := h2.2
          exact RowsIn.mono (F := F) h3 fun v w'' hh => hK _ _ hh
        | round l f tmps assign body =>
          refine ⟨h2.1, ?_⟩
          have h3 : RoundIn F (n - 1) P l f tmps assign body w' _ := h2.2
          refine RoundIn.mono (F := F) h3 ?_
          intro e w''
          cases e with
          | returned v => exact hK _ _
          | panicked ch => exact id
          | outgrown => exact id
        | _ => exact h2
      | halt x w' =>
        rw [hr] at h2
        cases x <;> exact h2
    · rename_i hw
      rw [if_neg hw]
      exact ⟨h.1, hK _ _ h.2⟩
theorem wpAnyIn_round (l0 : Nat) (hro : F.round = none) (hnd : ops.toList.all noDefer = true) : ∀ (fuel : Nat) (listed : Array Bool) (a : Act) (w : World),
    wpAnyIn F n P md ops Q fuel listed a w → wpAnyIn (F.inRound l0) n P md ops Q fuel listed a w
  | 0, _, _, _, h => h
  | fuel + 1, listed, a, w, h => ⟨h.1, fun i hi => wpOpIn_round l0 hro hnd i (wpAnyIn_round l0 hro hnd fuel _) a w (h.2 i hi)⟩

theorem wpIn_region_quiet_round {id l0 : Nat} {a : Act} {w : World} {l : List Oper} (hro : F.round = none) (hm : P.follows .mixedOrders = true) (hB : Region.lexB .any l.toArray = true) (hnd : l.all noDefer = true)
    (h : wpQuietIn F n P l.toArray (fun w' => ∃ n, w' = w.drewN n) (fun a' => ∀ w', (∃ n, w' = w.drewN n) → Q .normal a' w') l a) : (Code.region id l.toArray true).wpIn (F.inRound l0) n P Q a w := by
  simp only [Region.lexB, Bool.and_eq_true] at hB
  refine wpIn_region_any hm (wpAnyIn_round l0 hro (by simpa using hnd) _ _ _ _ (wpAnyIn_of_quiet (C := fun w' => ∃ n, w' = w.drewN n) (Q := fun a' => ∀ w', (∃ n, w' = w.drewN n) → Q .normal a' w') hro (fun _ w' hw' h => h w' hw') _ _ _ _ ⟨1, rfl⟩ ?_))
  have := wpAnyQIn_lex (F := F) (n := n) (C := fun w' => ∃ n, w' = w.drewN n) (md := .any) hB.1 l 0 (Array.replicate l.toArray.size false) a (by simp) (by simpa using hB.2) h
  simpa using this
end Go.Proofs.Ytlfaoibgmbbacaa
