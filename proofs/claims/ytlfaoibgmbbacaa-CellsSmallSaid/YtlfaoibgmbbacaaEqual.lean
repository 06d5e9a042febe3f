/- The walks of slices.Equal at three types. -/
import Derived.Test.YtlfaoibgmbbacaaChanges
import Derived.Deep.QuietTactic
import Derived.BigQuiet
import Derived.Deep.RegionHeld
import Derived.BigRegion
namespace Go.Proofs.Ytlfaoibgmbbacaa
open Go.RowKit
open Go.ChangeMaps (setBlock)
theorem take_succ_eq {α : Type} {xs ys : List α} {k : Nat} {x y : α} (hx : xs[k]? = some x) (hy : ys[k]? = some y) (h : xs.take k = ys.take k) (e : x = y) : xs.take (k + 1) = ys.take (k + 1) := by
  rw [List.take_add_one, List.take_add_one, h, hx, hy, e]

set_option maxHeartbeats 1000000 in
theorem equal18 {w : World} {A B : Option Addr} {c d : Nat} {xs ys : List Int} (hA : Reads w A (xs.map numV)) (hB : Reads w B (ys.map numV)) (hx : xs.length ≤ maxLen) (hy : ys.length ≤ maxLen) :
    Calls Try.prog 18 #[.slice A xs.length c, .slice B ys.length d] w fun e w' => e = .returned (.bool (decide (xs = ys))) ∧ Kept [] w w' := by
  unfold maxLen at hx hy
  have HA := Lib.hid hA
  have HB := Lib.hid hB
  clear hA hB
  by_cases hl : xs.length = ys.length
  · generalize hn : xs.length = n at *
    have HN := Lib.hid hn
    have HL := Lib.hid hl
    have hq0 : ((n : Int) != (n : Int)) = false := by simp
    rw [← hl]
    clear hn hl
    go_enter Try.func18, Try.ntmps18
    go_wp2
    go_loopw [13] (fun i wr => ∃ k : Nat, k ≤ n ∧ i = .int .i64 k ∧ Kept [] w wr ∧ xs.take k = ys.take k) (fun i _ => n - (intOf i).toNat)
    case atStart => exact ⟨0, Nat.zero_le _, rfl, Kept.refl _ _, by simp⟩
    case round =>
      obtain ⟨k, hk, rfl, hK, hT⟩ := hrel
      by_cases hlt : k < n
      · have hkx : k < xs.length := by rw [HN.out]; exact hlt
        have hky : k < ys.length := by rw [← HL.out]; exact hlt
        have gx : xs[k]? = some xs[k] := List.getElem?_eq_getElem hkx
        have gy : ys[k]? = some ys[k] := List.getElem?_eq_getElem hky
        generalize xs[k] = x at gx
        generalize ys[k] = y at gy
        obtain ⟨b1, o1, rfl, hc1⟩ := HA.out.resolve_left (by intro e; simp at e; subst e; simp at hkx)
        obtain ⟨b2, o2, rfl, hc2⟩ := HB.out.resolve_left (by intro e; simp at e; subst e; simp at hky)
        have c1 := hK.cell (hc1 k (numV x) (by simp [gx])) (by simp)
        have c2 := hK.cell (hc2 k (numV y) (by simp [gy])) (by simp)
        simp only [numV] at c1 c2
        have HK := Lib.hid hK
        have HT := Lib.hid hT
        have GX := Lib.hid gx
        have GY := Lib.hid gy
        clear hK hT gx gy hc1 hc2
        by_cases e : x = y
        · have hq : (x != y) = false := by simp [e]
          have E := Lib.hid e
          clear e
          go_wp2
          go_region
          go_wp2
          go_roundw
          case rel => exact ⟨k + 1, by omega, by go_num, HK.out.trans' (Kept.drew _ _), take_succ_eq GX.out GY.out HT.out E.out⟩
          case measure => simp [intOf]; omega
        · have hq : (x != y) = true := by simp [e]
          have hne : xs ≠ ys := by
            rintro rfl
            exact e (by have := GX.out.symm.trans GY.out; simpa using this)
          have E := Lib.hid hne
          clear e hne
          go_wp2
          go_region
          go_wp2
          go_ret
          exact ⟨by rw [decide_eq_false E.out]; rfl, HK.out.trans' (Kept.drew _ _)⟩
      · obtain rfl : k = n := by omega
        have hxy : xs = ys := by
          rw [List.take_of_length_le (by rw [HN.out]; exact Nat.le_refl _), List.take_of_length_le (by rw [← HL.out]; exact Nat.le_refl _)] at hT
          exact hT
        have HK := Lib.hid hK
        have E := Lib.hid hxy
        clear hK hT hxy
        go_wp2
        go_ret
        exact ⟨by rw [decide_eq_true E.out]; rfl, HK.out⟩
  · have hq : ((xs.length : Int) != (ys.length : Int)) = true := by simpa using (by omega : ¬ (xs.length : Int) = ys.length)
    have hne : xs ≠ ys := fun e => hl (by rw [e])
    have E := Lib.hid hne
    clear hl hne
    go_enter Try.func18, Try.ntmps18
    go_wp2
    go_ret
    exact ⟨by rw [decide_eq_false E.out]; rfl, Kept.refl _ _⟩
set_option maxHeartbeats 1000000 in
theorem equal23 {w : World} {A B : Option Addr} {c d : Nat} {xs ys : List Int} (hA : Reads w A (xs.map numV)) (hB : Reads w B (ys.map numV)) (hx : xs.length ≤ maxLen) (hy : ys.length ≤ maxLen) :
    Calls Try.prog 23 #[.slice A xs.length c, .slice B ys.length d] w fun e w' => e = .returned (.bool (decide (xs = ys))) ∧ Kept [] w w' := by
  unfold maxLen at hx hy
  have HA := Lib.hid hA
  have HB := Lib.hid hB
  clear hA hB
  by_cases hl : xs.length = ys.length
  · generalize hn : xs.length = n at *
    have HN := Lib.hid hn
    have HL := Lib.hid hl
    have hq0 : ((n : Int) != (n : Int)) = false := by simp
    rw [← hl]
    clear hn hl
    go_enter Try.func23, Try.ntmps23
    go_wp2
    go_loopw [13] (fun i wr => ∃ k : Nat, k ≤ n ∧ i = .int .i64 k ∧ Kept [] w wr ∧ xs.take k = ys.take k) (fun i _ => n - (intOf i).toNat)
    case atStart => exact ⟨0, Nat.zero_le _, rfl, Kept.refl _ _, by simp⟩
    case round =>
      obtain ⟨k, hk, rfl, hK, hT⟩ := hrel
      by_cases hlt : k < n
      · have hkx : k < xs.length := by rw [HN.out]; exact hlt
        have hky : k < ys.length := by rw [← HL.out]; exact hlt
        have gx : xs[k]? = some xs[k] := List.getElem?_eq_getElem hkx
        have gy : ys[k]? = some ys[k] := List.getElem?_eq_getElem hky
        generalize xs[k] = x at gx
        generalize ys[k] = y at gy
        obtain ⟨b1, o1, rfl, hc1⟩ := HA.out.resolve_left (by intro e; simp at e; subst e; simp at hkx)
        obtain ⟨b2, o2, rfl, hc2⟩ := HB.out.resolve_left (by intro e; simp at e; subst e; simp at hky)
        have c1 := hK.cell (hc1 k (numV x) (by simp [gx])) (by simp)
        have c2 := hK.cell (hc2 k (numV y) (by simp [gy])) (by simp)
        simp only [numV] at c1 c2
        have HK := Lib.hid hK
        have HT := Lib.hid hT
        have GX := Lib.hid gx
        have GY := Lib.hid gy
        clear hK hT gx gy hc1 hc2
        by_cases e : x = y
        · have hq : (x != y) = false := by simp [e]
          have E := Lib.hid e
          clear e
          go_wp2
          go_region
          go_wp2
          go_roundw
          case rel => exact ⟨k + 1, by omega, by go_num, HK.out.trans' (Kept.drew _ _), take_succ_eq GX.out GY.out HT.out E.out⟩
          case measure => simp [intOf]; omega
        · have hq : (x != y) = true := by simp [e]
          have hne : xs ≠ ys := by
            rintro rfl
            exact e (by have := GX.out.symm.trans GY.out; simpa using this)
          have E := Lib.hid hne
          clear e hne
          go_wp2
          go_region
          go_wp2
          go_ret
          exact ⟨by rw [decide_eq_false E.out]; rfl, HK.out.trans' (Kept.drew _ _)⟩
      · obtain rfl : k = n := by omega
        have hxy : xs = ys := by
          rw [List.take_of_length_le (by rw [HN.out]; exact Nat.le_refl _), List.take_of_length_le (by rw [← HL.out]; exact Nat.le_refl _)] at hT
          exact hT
        have HK := Lib.hid hK
        have E := Lib.hid hxy
        clear hK hT hxy
        go_wp2
        go_ret
        exact ⟨by rw [decide_eq_true E.out]; rfl, HK.out⟩
  · have hq : ((xs.length : Int) != (ys.length : Int)) = true := by simpa using (by omega : ¬ (xs.length : Int) = ys.length)
    have hne : xs ≠ ys := fun e => hl (by rw [e])
    have E := Lib.hid hne
    clear hl hne
    go_enter Try.func23, Try.ntmps23
    go_wp2
    go_ret
    exact ⟨by rw [decide_eq_false E.out]; rfl, Kept.refl _ _⟩
theorem flatC_nil {l : List Ch} : flatC l = [] ↔ l = [] := by
  constructor
  · intro h
    have := flatC_len l
    rw [h] at this
    simp only [List.length_nil] at this
    exact List.eq_nil_of_length_eq_zero (by omega)
  · rintro rfl; rfl
theorem flatC_get {l : List Ch} {k i : Nat} {x : Ch} {u : Value} (h : l[k]? = some x) (hi : i < 4) (hu : (chV x)[i]? = some u) : (flatC l)[k * 4 + i]? = some u := by
  induction l generalizing k with
  | nil => simp at h
  | cons y l ih =>
    have e : flatC (y :: l) = chV y ++ flatC l := rfl
    rw [e]
    cases k with
    | zero =>
      simp only [List.getElem?_cons_zero, Option.some.injEq] at h
      subst h
      rw [Nat.zero_mul, Nat.zero_add, List.getElem?_append_left (by simpa [chV] using hi)]
      exact hu
    | succ k =>
      rw [List.getElem?_append_right (by simp [chV]; omega)]
      have : (k + 1) * 4 + i - (chV y).length = k * 4 + i := by simp [chV]; omega
      rw [this]
      exact ih (by simpa using h)
set_option maxHeartbeats 1000000 in
theorem equal19 {w : World} {A B : Option Addr} {c d : Nat} {xs ys : List Ch} (hA : Reads w A (flatC xs)) (hB : Reads w B (flatC ys)) (hx : xs.length ≤ maxLen) (hy : ys.length ≤ maxLen) :
    Calls Try.prog 19 #[.slice A xs.length c, .slice B ys.length d] w fun e w' => e = .returned (.bool (decide (xs = ys))) ∧ Kept [] w w' := by
  unfold maxLen at hx hy
  have HA := Lib.hid hA
  have HB := Lib.hid hB
  clear hA hB
  by_cases hl : xs.length = ys.length
  · generalize hn : xs.length = n at *
    have HN := Lib.hid hn
    have HL := Lib.hid hl
    have hq0 : ((n : Int) != (n : Int)) = false := by simp
    rw [← hl]
    clear hn hl
    go_enter Try.func19, Try.ntmps19
    go_wp2
    go_loopw [13] (fun i wr => ∃ k : Nat, k ≤ n ∧ i = .int .i64 k ∧ Kept [] w wr ∧ xs.take k = ys.take k) (fun i _ => n - (intOf i).toNat)
    case atStart => exact ⟨0, Nat.zero_le _, rfl, Kept.refl _ _, by simp⟩
    case round =>
      obtain ⟨k, hk, rfl, hK, hT⟩ := hrel
      by_cases hlt : k < n
      · have hkx : k < xs.length := by rw [HN.out]; exact hlt
        have hky : k < ys.length := by rw [← HL.out]; exact hlt
        have gx : xs[k]? = some xs[k] := List.getElem?_eq_getElem hkx
        have gy : ys[k]? = some ys[k] := List.getElem?_eq_getElem hky
        generalize xs[k] = x at gx
        generalize ys[k] = y at gy
        obtain ⟨b1, o1, rfl, hc1⟩ := HA.out.resolve_left (by intro e; rw [flatC_nil.1 e] at hkx; simp at hkx)
        obtain ⟨b2, o2, rfl, hc2⟩ := HB.out.resolve_left (by intro e; rw [flatC_nil.1 e] at hky; simp at hky)
        have c10 : wr.cell? ⟨b1, o1 + k * 4, none⟩ = _ := hK.cell (hc1 (k * 4 + 0) _ (flatC_get gx (by omega) rfl)) (by simp)
        have c11 : wr.cell? ⟨b1, o1 + k * 4 + 1, none⟩ = _ := hK.cell (hc1 (k * 4 + 1) _ (flatC_get gx (by omega) rfl)) (by simp)
        have c12 : wr.cell? ⟨b1, o1 + k * 4 + 2, none⟩ = _ := hK.cell (hc1 (k * 4 + 2) _ (flatC_get gx (by omega) rfl)) (by simp)
        have c13 : wr.cell? ⟨b1, o1 + k * 4 + 3, none⟩ = _ := hK.cell (hc1 (k * 4 + 3) _ (flatC_get gx (by omega) rfl)) (by simp)
        have c20 : wr.cell? ⟨b2, o2 + k * 4, none⟩ = _ := hK.cell (hc2 (k * 4 + 0) _ (flatC_get gy (by omega) rfl)) (by simp)
        have c21 : wr.cell? ⟨b2, o2 + k * 4 + 1, none⟩ = _ := hK.cell (hc2 (k * 4 + 1) _ (flatC_get gy (by omega) rfl)) (by simp)
        have c22 : wr.cell? ⟨b2, o2 + k * 4 + 2, none⟩ = _ := hK.cell (hc2 (k * 4 + 2) _ (flatC_get gy (by omega) rfl)) (by simp)
        have c23 : wr.cell? ⟨b2, o2 + k * 4 + 3, none⟩ = _ := hK.cell (hc2 (k * 4 + 3) _ (flatC_get gy (by omega) rfl)) (by simp)
        have HK := Lib.hid hK
        have HT := Lib.hid hT
        have GX := Lib.hid gx
        have GY := Lib.hid gy
        clear hK hT gx gy hc1 hc2
        by_cases e : x = y
        · subst e
          go_wp2
          go_region
          go_wp2
          go_roundw
          case rel => exact ⟨k + 1, by omega, by go_num, HK.out.trans' (Kept.drew _ _), take_succ_eq GX.out GY.out HT.out rfl⟩
          case measure => simp [intOf]; omega
        · have hne : xs ≠ ys := by
            rintro rfl
            exact e (by have := GX.out.symm.trans GY.out; simpa using this)
          have E := Lib.hid hne
          clear hne
          obtain ⟨⟨x1, x2⟩, x3, x4⟩ := x
          obtain ⟨⟨y1, y2⟩, y3, y4⟩ := y
          simp only at c10 c11 c12 c13 c20 c21 c22 c23
          by_cases e1 : x1 = y1
          · subst e1
            by_cases e2 : x2 = y2
            · subst e2
              by_cases e3 : x3 = y3
              · subst e3
                have e4 : ¬ x4 = y4 := fun h => e (by rw [h])
                clear e
                go_wp2
                go_region
                go_wp2
                go_ret
                exact ⟨by rw [decide_eq_false E.out]; rfl, HK.out.trans' (Kept.drew _ _)⟩
              · clear e
                go_wp2
                go_region
                go_wp2
                go_ret
                exact ⟨by rw [decide_eq_false E.out]; rfl, HK.out.trans' (Kept.drew _ _)⟩
            · have e2' : ¬ (x2 : Int) = y2 := by omega
              clear e
              go_wp2
              go_region
              go_wp2
              go_ret
              exact ⟨by rw [decide_eq_false E.out]; rfl, HK.out.trans' (Kept.drew _ _)⟩
          · have e1' : ¬ (x1 : Int) = y1 := by omega
            clear e
            go_wp2
            go_region
            go_wp2
            go_ret
            exact ⟨by rw [decide_eq_false E.out]; rfl, HK.out.trans' (Kept.drew _ _)⟩
      · obtain rfl : k = n := by omega
        have hxy : xs = ys := by
          rw [List.take_of_length_le (by rw [HN.out]; exact Nat.le_refl _), List.take_of_length_le (by rw [← HL.out]; exact Nat.le_refl _)] at hT
          exact hT
        have HK := Lib.hid hK
        have E := Lib.hid hxy
        clear hK hT hxy
        go_wp2
        go_ret
        exact ⟨by rw [decide_eq_true E.out]; rfl, HK.out⟩
  · have hq : ((xs.length : Int) != (ys.length : Int)) = true := by simpa using (by omega : ¬ (xs.length : Int) = ys.length)
    have hne : xs ≠ ys := fun e => hl (by rw [e])
    have E := Lib.hid hne
    clear hl hne
    go_enter Try.func19, Try.ntmps19
    go_wp2
    go_ret
    exact ⟨by rw [decide_eq_false E.out]; rfl, Kept.refl _ _⟩
end Go.Proofs.Ytlfaoibgmbbacaa
