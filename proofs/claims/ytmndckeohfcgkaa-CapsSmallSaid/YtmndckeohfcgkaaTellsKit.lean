/- What the walk of Tells needs. -/
import Derived.Test.YtmndckeohfcgkaaRefRoot
import Derived.Shelf.SlSortCmp.QuietGrown
namespace Go.Proofs.Ytmndckeohfcgkaa
open Go.RowKit
open Go.Sort (grow alloc_eq_grow grow_empty grow_grow)
theorem Kept.growIt (F : List Nat) (w : World) (n : Nat) (os : Array Obj) : Kept F w (grow (w.drewN n) os) :=
  ⟨rfl, rfl, rfl, by simp [World.drewN], fun b hb _ => by
    show (w.heap ++ os)[b]? = _
    rw [Array.getElem?_append_left hb]⟩
set_option maxRecDepth 100000 in
theorem is_grown (W : World) (x1 x2 x3 x4 : Int) (n : Nat) (x6 : Bool) (hn : n ≤ 255) :
    Calls Try.prog 70 #[.agg #[.int .i64 x1, .int .i64 x2, .int .i64 x3, .int .i64 x4, .int .u8 (n : Int)], .agg #[.int .i64 x1, .int .i64 x2, .int .i64 x3, .int .i64 x4, .int .i64 (n : Int), .bool x6]] W fun e w' => e = .returned (.bool true) ∧ ∃ q os', w' = grow (W.drewN q) os' := by
  have h2 : (n : Int) ≤ 255 := by omega
  go_enter Try.func70, Try.ntmps70
  go_wp2
  go_ret
  exact ⟨by simp, 0, #[.cells #[.int .i64 x1, .int .i64 x2, .int .i64 x3, .int .i64 x4, .int .u8 (n : Int)] 34, .cells #[.int .i64 x1, .int .i64 x2, .int .i64 x3, .int .i64 x4, .int .i64 (n : Int), .bool x6] 104], by rw [alloc_eq_grow, alloc_eq_grow, grow_grow]; rfl⟩
theorem is_out (W : World) (x1 x2 x3 x4 : Int) (n : Nat) (x6 : Bool) (hn : n ≤ 255) :
    Calls Try.prog 70 #[.agg #[.int .i64 x1, .int .i64 x2, .int .i64 x3, .int .i64 x4, .int .u8 (n : Int)], .agg #[.int .i64 x1, .int .i64 x2, .int .i64 x3, .int .i64 x4, .int .i64 (n : Int), .bool x6]] W fun e w' => e = .returned (.bool true) ∧ Kept [] W w' := by
  refine (is_grown W x1 x2 x3 x4 n x6 hn).mono ?_
  rintro e w' ⟨rfl, q, os, rfl⟩
  exact ⟨rfl, Kept.growIt _ _ _ _⟩
/-- A cell of an own row is written. -/
theorem own_put {w : World} {base n cap size g : Nat} {e : TypeId} {xs : List Value} (h : w.ownsRow base e size (.slice (some ⟨g, 0, none⟩) n cap) n xs) (j : Nat) (y : Value) (hj : j < xs.length) :
    (w.setCell ⟨g, j, none⟩ y).ownsRow base e size (.slice (some ⟨g, 0, none⟩) n cap) n (xs.set j y) := by
  refine ⟨by rw [List.length_set]; exact h.1, ?_⟩
  rcases h.2 with ⟨e1, _⟩ | ⟨g', cap', cur, e1, hb, hg, hnc, hcm, hcs, ht⟩
  · cases e1
  · cases e1
    have hb' : Blk w g e cur := hg
    refine .inr ⟨g, cap, cur.setIfInBounds j y, rfl, hb, hb'.set_ j y, hnc, hcm, by simpa using hcs, ?_⟩
    rw [← ht, Array.toList_setIfInBounds, List.take_set]
theorem St.rowPut {w0 w : World} {rs : List Res} {g n cap size : Nat} {e : TypeId} {xs : List Value} (h : St w0 w (.row (.slice (some ⟨g, 0, none⟩) n cap) e size n xs :: rs)) (j : Nat) (y : Value) (hj : j < xs.length) :
    St w0 (w.setCell ⟨g, j, none⟩ y) (.row (.slice (some ⟨g, 0, none⟩) n cap) e size n (xs.set j y) :: rs) := by
  obtain ⟨F1, h1, h2⟩ := h.head
  obtain ⟨ho, rfl⟩ := h1
  exact h2 (R' := .row _ _ _ _ _) (row_on (own_put ho j y hj)) (Kept.setCell (by simp [Value.ownBlock]) _ _) fun b hb => .inl hb
theorem St.fresh1 {w0 w w' : World} {rs : List Res} {v : Value} {e : TypeId} {size n : Nat} {xs : List Value} (h : St w0 w rs) (ho : w'.ownsRow w.heap.size e size v n xs) (hk : Kept [] w w') : St w0 w' (.row v e size n xs :: rs) :=
  h.new (R := .row _ _ _ _ _) hk (row_on ho) fun b hb => (ho.lt b (by simpa using hb)).1
theorem grown_box (W : World) (n : Nat) (os : Array Obj) {g j : Nat} {t : TypeId} {cs : Array Value} {v : Value} (h : Blk W g t cs) (hv : cs[j]? = some v) : (grow (W.drewN n) os).cell? ⟨g, j, none⟩ = some v :=
  cell_grown h.lt (by rw [h.cell]; exact hv) n os
theorem St.over {w0 w : World} {rs : List Res} {A : Option Addr} {cap n : Nat} {xs : List Value} (h : St w0 w (.row (.slice A n cap) 3 1 n xs :: rs)) (hn : n ≤ 1024) :
    Calls Try.prog 71 #[.slice A n cap] w fun e w' => e = .returned (.tuple #[]) ∧ St w0 w' rs := by
  obtain ⟨F1, h1, h2⟩ := h.head
  obtain ⟨ho, rfl⟩ := h1
  refine (Over_calls ho hn).mono ?_
  rintro e w' ⟨rfl, hk⟩
  exact ⟨rfl, (h2 (R' := .rds []) (F' := []) ⟨by simp, by simp⟩ hk (by simp)).drop⟩
end Go.Proofs.Ytmndckeohfcgkaa
