/- The walks of Made and all of the laws on cells. -/
import Derived.Test.YtlfaoibgmbbacaaSt
namespace Go.Proofs.Ytlfaoibgmbbacaa
open Go.RowKit

def c0 : CM := { now := [[0, 0], [0, 0, 0], [], [0, 0, 0, 0]], marks := [] }
theorem lit_reads (w : World) (t : TypeId) (vs : List Value) : Reads (w.alloc (.cells vs.toArray t)) (some ⟨w.heap.size, 0, none⟩) vs :=
  .inr ⟨w.heap.size, 0, rfl, fun j u hu => by
    rw [Nat.zero_add, (Blk.new w t vs.toArray).cell j]
    simpa using hu⟩

theorem Made_calls (w : World) : Calls Try.prog 11 #[] w fun e w' => ∃ a, e = .returned (.tuple #[.pointer (some ⟨a, 0, none⟩), .bool true]) ∧ St w w' [.mem a c0] := by
  have hn := new_good (w := w.alloc (.cells #[.int .i64 2, .int .i64 3, .int .i64 0, .int .i64 4] 3)) (A := some ⟨w.heap.size, 0, none⟩) (c := 4) (l := [2, 3, 0, 4]) (lit_reads w 3 _) (by
    intro b off h
    simp only [Option.some.injEq, Addr.mk.injEq] at h
    simp; omega) (by simp) (by decide) (by decide)
  have HN := Lib.hid hn
  clear hn
  go_enter Try.func11, Try.ntmps11
  go_wp2_with (go_at_call 26; refine HN.out.mono ?_; rintro e w' ⟨a, F, rfl, h1, h2, h3⟩; have X1 := Lib.hid h1; have X2 := Lib.hid h2; have X3 := Lib.hid h3; clear h1 h2 h3)
  go_ret2
  exact ⟨a, rfl, ((St.nil w).kept (Kept.alloc _ _ _)).new (R := .mem a c0) X2.out X1.out X3.out⟩

theorem St.size {w0 w : World} {rs : List Res} {a : Nat} {c : CM} (h : St w0 w (.mem a c :: rs)) : c.now.length ≤ 16 ∧ ∀ xs ∈ c.now, xs.length ≤ 1024 := by
  obtain ⟨F, rv, rows, mv, tops, h, h2, h3, rfl⟩ := h.at
  rw [← h2]
  refine ⟨by simpa [nowOf] using h.few, fun xs hx => ?_⟩
  obtain ⟨r, hr, rfl⟩ := List.mem_map.1 hx
  exact h.short r hr
theorem flat_le {l : List (List Int)} (h : ∀ xs ∈ l, xs.length ≤ 1024) : l.flatten.length ≤ l.length * 1024 := by
  induction l with
  | nil => simp
  | cons x l ih =>
    have := h x (by simp)
    have := ih fun y hy => h y (by simp [hy])
    simp only [List.flatten_cons, List.length_append, List.length_cons]
    omega
/-- append(out, l...) onto a slice of one's own, a memory and a read slice beside it. -/
theorem St.appended {w0 w w1 : World} {rs : List Res} {R : Res} {v v' v2 : Value} {e e2 : TypeId} {size n n' size2 n2 : Nat} {xs xs' xs2 : List Value}
    (h : St w0 w (R :: .row v2 e2 size2 n2 xs2 :: .row v e size n xs :: rs)) (ho : w1.ownsRow 0 e size v' n' xs') (hg : w.grownBy w1 v.ownBlock) (hl : v'.ownBlock = v.ownBlock ∨ v'.ownBlock = some w.heap.size) :
    St w0 w1 (R :: .row v' e size n' xs' :: rs) := by
  obtain ⟨F1, h1, h2⟩ := h.swap.drop.swap.head
  refine (h2 (R' := .row v' e size n' xs') (row_on ho) (by rw [h1.2]; exact Kept.grown hg (by simp)) ?_).swap
  intro b hb
  rw [h1.2]
  simp only [Option.mem_toList] at hb ⊢
  rcases hl with hl | hl
  · exact .inl (hl ▸ hb)
  · rw [hb] at hl
    simp only [Option.some.injEq] at hl
    exact .inr (by omega)
/-- All values, one after the other. -/
def CM.flat (c : CM) : List Int := c.now.flatten
set_option maxRecDepth 100000 in
set_option maxHeartbeats 1000000 in
theorem all_law {w0 w : World} {rs : List Res} {a : Nat} {c : CM} (h : St w0 w (.mem a c :: rs)) :
    Calls Try.prog 13 #[.pointer (some ⟨a, 0, none⟩)] w fun e w' => ∃ A cap, e = .returned (.slice A c.flat.length cap) ∧ St w0 w' (.mem a c :: .row (.slice A c.flat.length cap) 2 1 c.flat.length (c.flat.map numV) :: rs) := by
  obtain ⟨i0, hi, hz0, hz1, hz2⟩ := info_parts info2
  have HP := Lib.hid h.plan
  have H0 := Lib.hid h
  clear h
  go_enter Try.func13, Try.ntmps13
  go_wp2_with (go_at_call 22; refine HP.out.mono ?_; rintro e w' ⟨A, cap, rfl, h1, h2⟩; have X1 := Lib.hid h1; have h16 := h2; clear h1 h2)
  go_loopw [3, 10] (fun v i wr => ∃ (k : Nat) (A0 : Option Addr) (cap0 : Nat), k ≤ c.now.length ∧ i = .int .i64 k ∧ v = .slice A0 (c.now.take k).flatten.length cap0 ∧
      St w0 wr (.mem a c :: .row (.slice A0 (c.now.take k).flatten.length cap0) 2 1 (c.now.take k).flatten.length ((c.now.take k).flatten.map numV) :: rs)) (fun _ i _ => c.now.length - (intOf i).toNat)
  case atStart =>
    refine ⟨0, none, 0, Nat.zero_le _, rfl, rfl, ?_⟩
    exact (X1.out.swap.drop.new (R := .row (.slice none 0 0) 2 1 0 []) (Kept.refl _ _) ⟨World.ownsRow_nil _ _ _ _, rfl⟩ (by simp [Value.ownBlock])).swap
  case round =>
    obtain ⟨k, A0, cap0, hk, rfl, rfl, hS⟩ := hrel
    by_cases hlt : k < c.now.length
    · obtain ⟨xs, hx⟩ : ∃ xs, c.now[k]? = some xs := ⟨_, List.getElem?_eq_getElem hlt⟩
      have hsz := hS.size.2
      have hfl : (c.now.take k).flatten.length ≤ 16384 := by
        have := flat_le (l := c.now.take k) fun y hy => hsz y (List.mem_of_mem_take hy)
        simp only [List.length_take] at this
        omega
      have e1 : (c.now.take (k + 1)).flatten = (c.now.take k).flatten ++ xs := by
        rw [List.take_add_one, hx]
        simp
      have HA := Lib.hid (hS.all hx)
      have E1 := Lib.hid e1
      clear hS hx e1 hsz X1
      generalize hF : (c.now.take k).flatten = fl at *
      clear hF
      go_wp2_with (first
        | (go_at_call 25; refine HA.out.mono ?_; rintro e w2 ⟨g, gc, rfl, h1, h2⟩; have Y1 := Lib.hid h1; have hxs := h2; clear h1 h2)
        | (at_builtin
           refine wpList_append_own_at _ rfl _ _ 28 rfl 0 2 i0 (.int .i64 0) 1 8 Try.underlying28 hi hz0 hz1 hz2 rfl (by decide) (.slice A0 fl.length cap0) fl.length (fl.map numV) rfl Y1.out.swap.drop.swap.row ⟨g, 0, none⟩ xs.length gc (xs.map numV) rfl (by simp) (Y1.out.swap.row.cells (g := g) rfl) (by simp [numV, Value.oneCell']) (by unfold maxLen; omega) (by omega) (Nat.zero_le _) ?_
           intro v' w3 hown' hgrow hnil hloc
           obtain ⟨A1, cap1, rfl⟩ := own_slice hown'
           have Z1 := Lib.hid hown'
           have Z2 := Lib.hid hgrow
           have Z3 := Lib.hid hloc
           clear hown' hgrow hnil hloc))
      go_roundw
      case rel =>
        refine ⟨k + 1, A1, cap1, by omega, by go_num, by rw [E1.out, List.length_append], ?_⟩
        rw [E1.out, List.length_append, List.map_append]
        exact Y1.out.appended Z1.out Z2.out Z3.out
      case measure => simp [intOf]; omega
    · obtain rfl : k = c.now.length := by omega
      have Y1 := Lib.hid hS
      clear hS X1
      go_wp2
      go_ret
      have := Y1.out
      rw [List.take_length] at this ⊢
      exact ⟨A0, cap0, rfl, this⟩
end Go.Proofs.Ytlfaoibgmbbacaa
