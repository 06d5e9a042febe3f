/- The walks of package rights: Right, Below, Hand. -/
import Derived.Test.YtmndckeohfcgkaaHeap
import Derived.Test.YtmndckeohfcgkaaProg
import Derived.Deep.RegionHeld
import Derived.BigRegion
import Derived.Lib.Hide

namespace Go.Proofs.Ytmndckeohfcgkaa
open Go.RowKit
open Go.ChangeMaps (setBlock)

theorem over_calls (m : Nat) (w : World) :
    Calls Try.prog 60 #[.int .u8 (m : Int)] w fun e w' => e = .returned (.bool (decide ((15 : Int) < m))) ∧ w = w' := by
  go_enter Try.func60, Try.ntmps60
  go_wp2
  go_ret
  exact ⟨rfl, rfl⟩

def oks (xs : List Nat) : Bool := xs.all fun x => decide (x ≤ 15)
set_option maxRecDepth 100000 in
theorem index75 {w : World} {b cp : Nat} {xs : List Nat} (hn : xs.length ≤ 8) (hc : ∀ (j x : Nat), xs[j]? = some x → w.cell? ⟨b, j, none⟩ = some (.int .u8 (x : Int))) :
    Calls Try.prog 75 #[.slice (some ⟨b, 0, none⟩) xs.length cp, .func (.func 60) #[] #[]] w fun e w' => (∃ r : Int, e = .returned (.int .i64 r) ∧ (decide (0 ≤ r) = !(oks xs))) ∧ w = w' := by
  have HC := Lib.hid hc
  clear hc
  go_enter Try.func75, Try.ntmps75
  go_wp2
  go_loopw [8] (fun i wr => ∃ k : Nat, k ≤ xs.length ∧ i = .int .i64 k ∧ oks (xs.take k) = true ∧ w = wr) (fun i _ => xs.length - (intOf i).toNat)
  case atStart => exact ⟨0, Nat.zero_le _, rfl, rfl, rfl⟩
  case round =>
    obtain ⟨k, hk, rfl, ho, rfl⟩ := hrel
    by_cases hlt : k < xs.length
    · obtain ⟨x, hx⟩ : ∃ x, xs[k]? = some x := ⟨_, List.getElem?_eq_getElem hlt⟩
      have hck := HC.out k x hx
      have hov := over_calls x w
      have ho2 : oks (xs.take (k + 1)) = decide (x ≤ 15) := by
        rw [List.take_add_one, hx]
        unfold oks at ho ⊢
        rw [List.all_append, ho]
        simp
      have hall : oks xs = (decide (x ≤ 15) && oks (xs.drop (k + 1))) := by
        conv => lhs; rw [← List.take_append_drop (k + 1) xs]
        unfold oks at ho2 ⊢
        rw [List.all_append, ho2]
      have H1 := Lib.hid hx
      have H2 := Lib.hid ho2
      have H3 := Lib.hid hall
      clear hx ho ho2 hall
      by_cases h : 15 < x
      · have e1 : decide ((15 : Int) < x) = true := by simp; omega
        rw [e1] at hov
        have HO := Lib.hid hov
        have H4 : Hid (oks xs = false) := Lib.hid (by rw [H3.out]; simp; omega)
        clear hov h e1
        go_wp2_with (go_at_call 60; refine HO.out.mono ?_; rintro e w' ⟨rfl, rfl⟩)
        go_ret
        exact ⟨⟨_, rfl, by rw [H4.out]; simp⟩, rfl⟩
      · have e1 : decide ((15 : Int) < x) = false := by simp; omega
        rw [e1] at hov
        have HO := Lib.hid hov
        have H4 : Hid (oks (xs.take (k + 1)) = true) := Lib.hid (by rw [H2.out]; simp; omega)
        clear hov h e1
        go_wp2_with (go_at_call 60; refine HO.out.mono ?_; rintro e w' ⟨rfl, rfl⟩)
        go_roundw
        case rel => exact ⟨k + 1, by omega, by go_num, H4.out, trivial⟩
        case measure => simp [intOf]; omega
    · obtain rfl : k = xs.length := by omega
      rw [List.take_length] at ho
      have HO := Lib.hid ho
      clear ho
      go_wp2
      go_ret
      exact ⟨⟨_, rfl, by rw [HO.out]; rfl⟩, rfl⟩
theorem contains59 {w : World} {b cp : Nat} {xs : List Nat} (hn : xs.length ≤ 8) (hc : ∀ (j x : Nat), xs[j]? = some x → w.cell? ⟨b, j, none⟩ = some (.int .u8 (x : Int))) :
    Calls Try.prog 59 #[.slice (some ⟨b, 0, none⟩) xs.length cp, .func (.func 60) #[] #[]] w fun e w' => e = .returned (.bool (!(oks xs))) ∧ w = w' := by
  have H := Lib.hid (index75 (cp := cp) hn hc)
  clear hc
  go_enter Try.func59, Try.ntmps59
  go_wp2_with (go_at_call 75; refine H.out.mono ?_; rintro e w' ⟨⟨r, rfl, hr⟩, rfl⟩; have HR := Lib.hid hr; clear hr)
  go_ret
  exact ⟨by rw [← HR.out]; rfl, rfl⟩
theorem right44 {w : World} {b cp : Nat} {xs : List Nat} (hn : xs.length ≤ 8) (hc : ∀ (j x : Nat), xs[j]? = some x → w.cell? ⟨b, j, none⟩ = some (.int .u8 (x : Int))) :
    Calls Try.prog 44 #[.slice (some ⟨b, 0, none⟩) xs.length cp] w fun e w' => e = .returned (.bool (oks xs)) ∧ w = w' := by
  have H := Lib.hid (contains59 (cp := cp) hn hc)
  clear hc
  go_enter Try.func44, Try.ntmps44
  go_wp2_with (go_at_call 59; refine H.out.mono ?_; rintro e w' ⟨rfl, rfl⟩)
  go_ret
  exact ⟨rfl, rfl⟩
theorem new_cells (w : World) (cs : Array Value) (t : TypeId) (i : Nat) : (w.alloc (.cells cs t)).cell? ⟨w.heap.size, i, none⟩ = cs[i]? := (Blk.new w t cs).cell i
theorem right_new (w : World) (xs : List Nat) (hn : xs.length ≤ 8) (cs : Array Value) (hcs : cs = (xs.map fun x : Nat => Value.int .u8 (x : Int)).toArray) (n : Nat) (hl : n = xs.length) (cp : Nat) :
    Calls Try.prog 44 #[.slice (some ⟨w.heap.size, 0, none⟩) n cp] (w.alloc (.cells cs 32)) fun e w' => e = .returned (.bool (oks xs)) ∧ w.alloc (.cells cs 32) = w' := by
  subst hl
  refine right44 hn fun j x hx => ?_
  rw [new_cells, hcs]
  simp [hx]
theorem Right_calls (w : World) (m : Nat) :
    Calls Try.prog 21 #[.int .u8 (m : Int)] w fun e w' => e = .returned (.bool (decide (m ≤ 15))) ∧ Kept [] w w' := by
  have H := Lib.hid (right_new w [m] (by simp) #[.int .u8 (m : Int)] rfl 1 rfl 1)
  have e : oks [m] = decide (m ≤ 15) := by simp [oks]
  rw [e] at H
  clear e
  go_enter Try.func21, Try.ntmps21
  go_wp2_with (go_at_call 44; refine H.out.mono ?_; rintro e w' ⟨rfl, rfl⟩)
  go_ret
  exact ⟨rfl, Kept.alloc _ _ _⟩
def sub (m o : Nat) : Bool := bits .andNot .u8 (m : Int) (o : Int) == 0
def belowB (m o : Nat) : Bool := decide (m ≤ 15 ∧ o ≤ 15) && sub m o
theorem Below_calls (w : World) (m o : Nat) :
    Calls Try.prog 23 #[.int .u8 (m : Int), .int .u8 (o : Int)] w fun e w' => e = .returned (.bool (belowB m o)) ∧ Kept [] w w' := by
  have H := Lib.hid (right_new w [m, o] (by simp) #[.int .u8 (m : Int), .int .u8 (o : Int)] rfl 2 rfl 2)
  have e : oks [m, o] = decide (m ≤ 15 ∧ o ≤ 15) := by simp [oks]
  rw [e] at H
  clear e
  unfold belowB sub
  by_cases h : m ≤ 15 ∧ o ≤ 15
  · have hd : decide (m ≤ 15 ∧ o ≤ 15) = true := by simp [h]
    rw [hd] at H ⊢
    rw [Bool.true_and]
    clear hd
    have G := Lib.hid h
    clear h
    go_enter Try.func23, Try.ntmps23
    go_wp2_with (go_at_call 44; refine H.out.mono ?_; rintro e w' ⟨rfl, rfl⟩)
    go_ret
    exact ⟨rfl, Kept.alloc _ _ _⟩
  · have hd : decide (m ≤ 15 ∧ o ≤ 15) = false := by simpa using h
    rw [hd] at H ⊢
    rw [Bool.false_and]
    clear hd h
    go_enter Try.func23, Try.ntmps23
    go_wp2_with (go_at_call 44; refine H.out.mono ?_; rintro e w' ⟨rfl, rfl⟩)
    go_ret
    exact ⟨rfl, Kept.alloc _ _ _⟩
def grants (m : Nat) : Bool := !(bits .and .u8 (m : Int) 4 == 0)
def handN (f t : Nat) : Int := if ¬ (f ≤ 15 ∧ t ≤ 15) then 220 else if (!grants f || !sub t f) = true then 221 else 0
theorem Hand_calls (w : World) (f t : Nat) :
    Calls Try.prog 46 #[.int .u8 (f : Int), .int .u8 (t : Int)] w fun e w' => e = .returned (.int .i64 (handN f t)) ∧ Kept [] w w' := by
  have H := Lib.hid (right_new w [f, t] (by simp) #[.int .u8 (f : Int), .int .u8 (t : Int)] rfl 2 rfl 2)
  have e : oks [f, t] = decide (f ≤ 15 ∧ t ≤ 15) := by simp [oks]
  rw [e] at H
  clear e
  by_cases h : f ≤ 15 ∧ t ≤ 15
  · have hd : decide (f ≤ 15 ∧ t ≤ 15) = true := by simp [h]
    rw [hd] at H
    clear hd
    have hb := Below_calls (w.alloc (.cells #[.int .u8 (f : Int), .int .u8 (t : Int)] 32)) t f
    have hbe : belowB t f = sub t f := by unfold belowB; simp [h]
    rw [hbe] at hb
    have HB := Lib.hid hb
    have G := Lib.hid h
    clear h hb hbe
    cases h4 : (bits .and .u8 (f : Int) 4 == 0) with
    | true =>
      have HR : Hid (handN f t = 221) := Lib.hid (by unfold handN grants; rw [if_neg (by simpa using G.out), h4]; rfl)
      rw [HR.out]
      go_enter Try.func46, Try.ntmps46
      go_wp2_with (go_at_call 44; refine H.out.mono ?_; rintro e w' ⟨rfl, rfl⟩)
      go_ret
      exact ⟨rfl, Kept.alloc _ _ _⟩
    | false =>
      cases hs : sub t f with
      | true =>
        rw [hs] at HB
        have HR : Hid (handN f t = 0) := Lib.hid (by unfold handN grants; rw [if_neg (by simpa using G.out), h4, hs]; rfl)
        rw [HR.out]
        go_enter Try.func46, Try.ntmps46
        go_wp2_with (first | (go_at_call 44; refine H.out.mono ?_; rintro e w' ⟨rfl, rfl⟩) | (go_at_call 23; refine HB.out.mono ?_; rintro e w' ⟨rfl, hk⟩; have HK := Lib.hid hk; clear hk))
        go_ret
        exact ⟨rfl, (Kept.alloc _ _ _).trans' HK.out⟩
      | false =>
        rw [hs] at HB
        have HR : Hid (handN f t = 221) := Lib.hid (by unfold handN grants; rw [if_neg (by simpa using G.out), h4, hs]; rfl)
        rw [HR.out]
        go_enter Try.func46, Try.ntmps46
        go_wp2_with (first | (go_at_call 44; refine H.out.mono ?_; rintro e w' ⟨rfl, rfl⟩) | (go_at_call 23; refine HB.out.mono ?_; rintro e w' ⟨rfl, hk⟩; have HK := Lib.hid hk; clear hk))
        go_ret
        exact ⟨rfl, (Kept.alloc _ _ _).trans' HK.out⟩
  · have hd : decide (f ≤ 15 ∧ t ≤ 15) = false := by simpa using h
    rw [hd] at H
    have HR : Hid (handN f t = 220) := Lib.hid (by unfold handN; rw [if_pos (by simpa using h)])
    rw [HR.out]
    clear hd h
    go_enter Try.func46, Try.ntmps46
    go_wp2_with (go_at_call 44; refine H.out.mono ?_; rintro e w' ⟨rfl, rfl⟩)
    go_ret
    exact ⟨rfl, Kept.alloc _ _ _⟩
end Go.Proofs.Ytmndckeohfcgkaa
