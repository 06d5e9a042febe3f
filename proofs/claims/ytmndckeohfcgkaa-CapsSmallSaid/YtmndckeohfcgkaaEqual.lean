/- The walks of slices.Equal, SameInts, slices.Contains, slices.IsSorted. -/
import Derived.Test.YtmndckeohfcgkaaAll
import Derived.Deep.QuietTactic
import Derived.BigQuiet
import Derived.Deep.RegionHeld
import Derived.BigRegion
import Derived.Deep.RegionLaw
namespace Go.Proofs.Ytmndckeohfcgkaa
open Go.RowKit
open Go.ChangeMaps (setBlock)
def Reads (w : World) (A : Option Addr) (xs : List Value) : Prop :=
  xs = [] ∨ ∃ b off, A = some ⟨b, off, none⟩ ∧ ∀ j u, xs[j]? = some u → w.cell? ⟨b, off + j, none⟩ = some u
theorem Kept.reads {F : List Nat} {w w' : World} {A : Option Addr} {xs : List Value} (h : Kept F w w') (hr : Reads w A xs) (hn : ∀ b off, A = some ⟨b, off, none⟩ → b ∉ F) : Reads w' A xs := by
  rcases hr with rfl | ⟨b, off, rfl, hc⟩
  · exact .inl rfl
  · exact .inr ⟨b, off, rfl, fun j u hu => h.cell (hc j u hu) (hn b off rfl)⟩
theorem own_reads {w : World} {base n cap size : Nat} {e : TypeId} {A : Option Addr} {xs : List Value} (h : w.ownsRow base e size (.slice A n cap) n xs) : Reads w A xs := by
  rcases h.2 with ⟨hv, rfl⟩ | ⟨g, cap', cur, hv, hb, hg, h1, h2, h3, h4⟩
  · exact .inl (List.eq_nil_of_length_eq_zero (by simpa using h.1))
  · simp only [Value.slice.injEq, true_and] at hv
    obtain ⟨rfl, rfl⟩ := hv
    refine .inr ⟨g, 0, rfl, fun j u hu => ?_⟩
    rw [Nat.zero_add, (show Blk w g e cur from hg).cell j]
    rw [← h4, List.getElem?_take] at hu
    split at hu
    · simpa using hu
    · cases hu

theorem take_succ_eq {α : Type} {xs ys : List α} {k : Nat} {x y : α} (hx : xs[k]? = some x) (hy : ys[k]? = some y) (h : xs.take k = ys.take k) (e : x = y) : xs.take (k + 1) = ys.take (k + 1) := by
  rw [List.take_add_one, List.take_add_one, h, hx, hy, e]

set_option maxHeartbeats 1000000 in
theorem equal33 {w : World} {A B : Option Addr} {c d : Nat} {xs ys : List Int} (hA : Reads w A (xs.map intV)) (hB : Reads w B (ys.map intV)) (hx : xs.length ≤ maxLen) (hy : ys.length ≤ maxLen) :
    Calls Try.prog 33 #[.slice A xs.length c, .slice B ys.length d] w fun e w' => e = .returned (.bool (decide (xs = ys))) ∧ Kept [] w w' := by
  unfold maxLen at hx hy
  have HA := Lib.hid hA
  have HB := Lib.hid hB
  clear hA hB
  by_cases hl : xs.length = ys.length
  · generalize hn : xs.length = n at *
    have HN := Lib.hid hn
    have HL := Lib.hid hl
    have hq0 : ((n : Int) != (n : Int)) = false := by simp
    rw [← hl]
    clear hn hl
    go_enter Try.func33, Try.ntmps33
    go_wp2
    go_loopw [13] (fun i wr => ∃ k : Nat, k ≤ n ∧ i = .int .i64 k ∧ Kept [] w wr ∧ xs.take k = ys.take k) (fun i _ => n - (intOf i).toNat)
    case atStart => exact ⟨0, Nat.zero_le _, rfl, Kept.refl _ _, by simp⟩
    case round =>
      obtain ⟨k, hk, rfl, hK, hT⟩ := hrel
      by_cases hlt : k < n
      · have hkx : k < xs.length := by rw [HN.out]; exact hlt
        have hky : k < ys.length := by rw [← HL.out]; exact hlt
        have gx : xs[k]? = some xs[k] := List.getElem?_eq_getElem hkx
        have gy : ys[k]? = some ys[k] := List.getElem?_eq_getElem hky
        generalize xs[k] = x at gx
        generalize ys[k] = y at gy
        obtain ⟨b1, o1, rfl, hc1⟩ := HA.out.resolve_left (by intro e; simp at e; subst e; simp at hkx)
        obtain ⟨b2, o2, rfl, hc2⟩ := HB.out.resolve_left (by intro e; simp at e; subst e; simp at hky)
        have c1 := hK.cell (hc1 k (intV x) (by simp [gx])) (by simp)
        have c2 := hK.cell (hc2 k (intV y) (by simp [gy])) (by simp)
        simp only [intV] at c1 c2
        have HK := Lib.hid hK
        have HT := Lib.hid hT
        have GX := Lib.hid gx
        have GY := Lib.hid gy
        clear hK hT gx gy hc1 hc2
        by_cases e : x = y
        · have hq : (x != y) = false := by simp [e]
          have E := Lib.hid e
          clear e
          go_wp2
          go_region
          go_wp2
          go_roundw
          case rel => exact ⟨k + 1, by omega, by go_num, HK.out.trans' (Kept.drew _ _), take_succ_eq GX.out GY.out HT.out E.out⟩
          case measure => simp [intOf]; omega
        · have hq : (x != y) = true := by simp [e]
          have hne : xs ≠ ys := by
            rintro rfl
            exact e (by have := GX.out.symm.trans GY.out; simpa using this)
          have E := Lib.hid hne
          clear e hne
          go_wp2
          go_region
          go_wp2
          go_ret
          exact ⟨by rw [decide_eq_false E.out]; rfl, HK.out.trans' (Kept.drew _ _)⟩
      · obtain rfl : k = n := by omega
        have hxy : xs = ys := by
          rw [List.take_of_length_le (by rw [HN.out]; exact Nat.le_refl _), List.take_of_length_le (by rw [← HL.out]; exact Nat.le_refl _)] at hT
          exact hT
        have HK := Lib.hid hK
        have E := Lib.hid hxy
        clear hK hT hxy
        go_wp2
        go_ret
        exact ⟨by rw [decide_eq_true E.out]; rfl, HK.out⟩
  · have hq : ((xs.length : Int) != (ys.length : Int)) = true := by simpa using (by omega : ¬ (xs.length : Int) = ys.length)
    have hne : xs ≠ ys := fun e => hl (by rw [e])
    have E := Lib.hid hne
    clear hl hne
    go_enter Try.func33, Try.ntmps33
    go_wp2
    go_ret
    exact ⟨by rw [decide_eq_false E.out]; rfl, Kept.refl _ _⟩
set_option maxHeartbeats 1000000 in
theorem equal34 {w : World} {A B : Option Addr} {c d : Nat} {xs ys : List Int} (hA : Reads w A (xs.map intV)) (hB : Reads w B (ys.map intV)) (hx : xs.length ≤ maxLen) (hy : ys.length ≤ maxLen) :
    Calls Try.prog 34 #[.slice A xs.length c, .slice B ys.length d] w fun e w' => e = .returned (.bool (decide (xs = ys))) ∧ Kept [] w w' := by
  unfold maxLen at hx hy
  have HA := Lib.hid hA
  have HB := Lib.hid hB
  clear hA hB
  by_cases hl : xs.length = ys.length
  · generalize hn : xs.length = n at *
    have HN := Lib.hid hn
    have HL := Lib.hid hl
    have hq0 : ((n : Int) != (n : Int)) = false := by simp
    rw [← hl]
    clear hn hl
    go_enter Try.func34, Try.ntmps34
    go_wp2
    go_loopw [5] (fun i wr => ∃ k : Nat, k ≤ n ∧ i = .int .i64 k ∧ Kept [] w wr ∧ xs.take k = ys.take k) (fun i _ => n - (intOf i).toNat)
    case atStart => exact ⟨0, Nat.zero_le _, rfl, Kept.refl _ _, by simp⟩
    case round =>
      obtain ⟨k, hk, rfl, hK, hT⟩ := hrel
      by_cases hlt : k < n
      · have hkx : k < xs.length := by rw [HN.out]; exact hlt
        have hky : k < ys.length := by rw [← HL.out]; exact hlt
        have gx : xs[k]? = some xs[k] := List.getElem?_eq_getElem hkx
        have gy : ys[k]? = some ys[k] := List.getElem?_eq_getElem hky
        generalize xs[k] = x at gx
        generalize ys[k] = y at gy
        obtain ⟨b1, o1, rfl, hc1⟩ := HA.out.resolve_left (by intro e; simp at e; subst e; simp at hkx)
        obtain ⟨b2, o2, rfl, hc2⟩ := HB.out.resolve_left (by intro e; simp at e; subst e; simp at hky)
        have c1 := hK.cell (hc1 k (intV x) (by simp [gx])) (by simp)
        have c2 := hK.cell (hc2 k (intV y) (by simp [gy])) (by simp)
        simp only [intV] at c1 c2
        have HK := Lib.hid hK
        have HT := Lib.hid hT
        have GX := Lib.hid gx
        have GY := Lib.hid gy
        clear hK hT gx gy hc1 hc2
        by_cases e : x = y
        · have hq : (x != y) = false := by simp [e]
          have E := Lib.hid e
          clear e
          go_wp2
          go_region
          go_wp2
          go_roundw
          case rel => exact ⟨k + 1, by omega, by go_num, HK.out.trans' (Kept.drew _ _), take_succ_eq GX.out GY.out HT.out E.out⟩
          case measure => simp [intOf]; omega
        · have hq : (x != y) = true := by simp [e]
          have hne : xs ≠ ys := by
            rintro rfl
            exact e (by have := GX.out.symm.trans GY.out; simpa using this)
          have E := Lib.hid hne
          clear e hne
          go_wp2
          go_region
          go_wp2
          go_ret
          exact ⟨by rw [decide_eq_false E.out]; rfl, HK.out.trans' (Kept.drew _ _)⟩
      · obtain rfl : k = n := by omega
        have hxy : xs = ys := by
          rw [List.take_of_length_le (by rw [HN.out]; exact Nat.le_refl _), List.take_of_length_le (by rw [← HL.out]; exact Nat.le_refl _)] at hT
          exact hT
        have HK := Lib.hid hK
        have E := Lib.hid hxy
        clear hK hT hxy
        go_wp2
        go_ret
        exact ⟨by rw [decide_eq_true E.out]; rfl, HK.out⟩
  · have hq : ((xs.length : Int) != (ys.length : Int)) = true := by simpa using (by omega : ¬ (xs.length : Int) = ys.length)
    have hne : xs ≠ ys := fun e => hl (by rw [e])
    have E := Lib.hid hne
    clear hl hne
    go_enter Try.func34, Try.ntmps34
    go_wp2
    go_ret
    exact ⟨by rw [decide_eq_false E.out]; rfl, Kept.refl _ _⟩
theorem flatH_nil {l : List Hd} : flatH l = [] ↔ l = [] := by
  constructor
  · intro h
    have := flatH_len l
    rw [h] at this
    simp only [List.length_nil] at this
    exact List.eq_nil_of_length_eq_zero (by omega)
  · rintro rfl; rfl
set_option maxHeartbeats 1000000 in
theorem equal19 {w : World} {A B : Option Addr} {c d : Nat} {xs ys : List Hd} (hA : Reads w A (flatH xs)) (hB : Reads w B (flatH ys)) (hx : xs.length ≤ maxLen) (hy : ys.length ≤ maxLen) :
    Calls Try.prog 19 #[.slice A xs.length c, .slice B ys.length d] w fun e w' => e = .returned (.bool (decide (xs = ys))) ∧ Kept [] w w' := by
  unfold maxLen at hx hy
  have HA := Lib.hid hA
  have HB := Lib.hid hB
  clear hA hB
  by_cases hl : xs.length = ys.length
  · generalize hn : xs.length = n at *
    have HN := Lib.hid hn
    have HL := Lib.hid hl
    have hq0 : ((n : Int) != (n : Int)) = false := by simp
    rw [← hl]
    clear hn hl
    go_enter Try.func19, Try.ntmps19
    go_wp2
    go_loopw [13] (fun i wr => ∃ k : Nat, k ≤ n ∧ i = .int .i64 k ∧ Kept [] w wr ∧ xs.take k = ys.take k) (fun i _ => n - (intOf i).toNat)
    case atStart => exact ⟨0, Nat.zero_le _, rfl, Kept.refl _ _, by simp⟩
    case round =>
      obtain ⟨k, hk, rfl, hK, hT⟩ := hrel
      by_cases hlt : k < n
      · have hkx : k < xs.length := by rw [HN.out]; exact hlt
        have hky : k < ys.length := by rw [← HL.out]; exact hlt
        have gx : xs[k]? = some xs[k] := List.getElem?_eq_getElem hkx
        have gy : ys[k]? = some ys[k] := List.getElem?_eq_getElem hky
        generalize xs[k] = x at gx
        generalize ys[k] = y at gy
        obtain ⟨b1, o1, rfl, hc1⟩ := HA.out.resolve_left (by intro e; rw [flatH_nil.1 e] at hkx; simp at hkx)
        obtain ⟨b2, o2, rfl, hc2⟩ := HB.out.resolve_left (by intro e; rw [flatH_nil.1 e] at hky; simp at hky)
        have c10 : wr.cell? ⟨b1, o1 + k * 5, none⟩ = _ := hK.cell (hc1 (k * 5 + 0) _ (flatH_get gx (by omega) rfl)) (by simp)
        have c11 : wr.cell? ⟨b1, o1 + k * 5 + 1, none⟩ = _ := hK.cell (hc1 (k * 5 + 1) _ (flatH_get gx (by omega) rfl)) (by simp)
        have c12 : wr.cell? ⟨b1, o1 + k * 5 + 2, none⟩ = _ := hK.cell (hc1 (k * 5 + 2) _ (flatH_get gx (by omega) rfl)) (by simp)
        have c13 : wr.cell? ⟨b1, o1 + k * 5 + 3, none⟩ = _ := hK.cell (hc1 (k * 5 + 3) _ (flatH_get gx (by omega) rfl)) (by simp)
        have c14 : wr.cell? ⟨b1, o1 + k * 5 + 4, none⟩ = _ := hK.cell (hc1 (k * 5 + 4) _ (flatH_get gx (by omega) rfl)) (by simp)
        have c20 : wr.cell? ⟨b2, o2 + k * 5, none⟩ = _ := hK.cell (hc2 (k * 5 + 0) _ (flatH_get gy (by omega) rfl)) (by simp)
        have c21 : wr.cell? ⟨b2, o2 + k * 5 + 1, none⟩ = _ := hK.cell (hc2 (k * 5 + 1) _ (flatH_get gy (by omega) rfl)) (by simp)
        have c22 : wr.cell? ⟨b2, o2 + k * 5 + 2, none⟩ = _ := hK.cell (hc2 (k * 5 + 2) _ (flatH_get gy (by omega) rfl)) (by simp)
        have c23 : wr.cell? ⟨b2, o2 + k * 5 + 3, none⟩ = _ := hK.cell (hc2 (k * 5 + 3) _ (flatH_get gy (by omega) rfl)) (by simp)
        have c24 : wr.cell? ⟨b2, o2 + k * 5 + 4, none⟩ = _ := hK.cell (hc2 (k * 5 + 4) _ (flatH_get gy (by omega) rfl)) (by simp)
        have HK := Lib.hid hK
        have HT := Lib.hid hT
        have GX := Lib.hid gx
        have GY := Lib.hid gy
        clear hK hT gx gy hc1 hc2
        by_cases e : x = y
        · subst e
          go_wp2
          go_region
          go_wp2
          go_roundw
          case rel => exact ⟨k + 1, by omega, by go_num, HK.out.trans' (Kept.drew _ _), take_succ_eq GX.out GY.out HT.out rfl⟩
          case measure => simp [intOf]; omega
        · have hne : xs ≠ ys := by
            rintro rfl
            exact e (by have := GX.out.symm.trans GY.out; simpa using this)
          have E := Lib.hid hne
          clear hne
          obtain ⟨x1, x2, x3, x4, x5⟩ := x
          obtain ⟨y1, y2, y3, y4, y5⟩ := y
          simp only at c10 c11 c12 c13 c14 c20 c21 c22 c23 c24
          by_cases e1 : x1 = y1
          · subst e1
            by_cases e2 : x2 = y2
            · subst e2
              by_cases e3 : x3 = y3
              · subst e3
                by_cases e4 : x4 = y4
                · subst e4
                  have e5 : ¬ (x5 : Int) = y5 := fun h => e (by rw [show x5 = y5 by omega])
                  clear e
                  go_wp2
                  go_region
                  go_wp2
                  go_ret
                  exact ⟨by rw [decide_eq_false E.out]; rfl, HK.out.trans' (Kept.drew _ _)⟩
                · clear e
                  go_wp2
                  go_region
                  go_wp2
                  go_ret
                  exact ⟨by rw [decide_eq_false E.out]; rfl, HK.out.trans' (Kept.drew _ _)⟩
              · clear e
                go_wp2
                go_region
                go_wp2
                go_ret
                exact ⟨by rw [decide_eq_false E.out]; rfl, HK.out.trans' (Kept.drew _ _)⟩
            · clear e
              go_wp2
              go_region
              go_wp2
              go_ret
              exact ⟨by rw [decide_eq_false E.out]; rfl, HK.out.trans' (Kept.drew _ _)⟩
          · clear e
            go_wp2
            go_region
            go_wp2
            go_ret
            exact ⟨by rw [decide_eq_false E.out]; rfl, HK.out.trans' (Kept.drew _ _)⟩
      · obtain rfl : k = n := by omega
        have hxy : xs = ys := by
          rw [List.take_of_length_le (by rw [HN.out]; exact Nat.le_refl _), List.take_of_length_le (by rw [← HL.out]; exact Nat.le_refl _)] at hT
          exact hT
        have HK := Lib.hid hK
        have E := Lib.hid hxy
        clear hK hT hxy
        go_wp2
        go_ret
        exact ⟨by rw [decide_eq_true E.out]; rfl, HK.out⟩
  · have hq : ((xs.length : Int) != (ys.length : Int)) = true := by simpa using (by omega : ¬ (xs.length : Int) = ys.length)
    have hne : xs ≠ ys := fun e => hl (by rw [e])
    have E := Lib.hid hne
    clear hl hne
    go_enter Try.func19, Try.ntmps19
    go_wp2
    go_ret
    exact ⟨by rw [decide_eq_false E.out]; rfl, Kept.refl _ _⟩
set_option maxRecDepth 100000 in
theorem index42 {w : World} {A : Option Addr} {cp : Nat} {x : Int} {xs : List Int} (hA : Reads w A (xs.map intV)) (hn : xs.length ≤ 1024) :
    Calls Try.prog 42 #[.slice A xs.length cp, .int .i64 x] w fun e w' => (∃ r : Int, e = .returned (.int .i64 r) ∧ (decide (0 ≤ r) = xs.contains x)) ∧ w = w' := by
  have HA := Lib.hid hA
  clear hA
  go_enter Try.func42, Try.ntmps42
  go_wp2
  go_loopw [8] (fun i wr => ∃ k : Nat, k ≤ xs.length ∧ i = .int .i64 k ∧ (xs.take k).contains x = false ∧ w = wr) (fun i _ => xs.length - (intOf i).toNat)
  case atStart => exact ⟨0, Nat.zero_le _, rfl, rfl, rfl⟩
  case round =>
    obtain ⟨k, hk, rfl, ho, rfl⟩ := hrel
    by_cases hlt : k < xs.length
    · obtain ⟨y, hy⟩ : ∃ y, xs[k]? = some y := ⟨_, List.getElem?_eq_getElem hlt⟩
      obtain ⟨b1, o1, rfl, hc1⟩ := HA.out.resolve_left (by intro e; simp at e; subst e; simp at hlt)
      have hck := hc1 k (intV y) (by simp [hy])
      simp only [intV] at hck
      have H1 := Lib.hid hy
      have H2 := Lib.hid ho
      clear hy ho hc1
      by_cases h : x = y
      · have e1 : (x == y) = true := by simp [h]
        have H4 : Hid (xs.contains x = true) := Lib.hid (by rw [h]; simpa using List.mem_of_getElem? H1.out)
        clear h
        go_wp2
        go_ret
        exact ⟨⟨_, rfl, by rw [H4.out]; simp⟩, rfl⟩
      · have e1 : (x == y) = false := by simp [h]
        have H4 : Hid ((xs.take (k + 1)).contains x = false) := Lib.hid (by
          rw [List.take_add_one, H1.out]
          have := H2.out
          simp only [List.contains_eq_mem, decide_eq_false_iff_not, List.mem_append, Option.toList_some, List.mem_singleton] at this ⊢
          exact fun hh => hh.elim this h)
        clear h
        go_wp2
        go_roundw
        case rel => exact ⟨k + 1, by omega, by go_num, H4.out, trivial⟩
        case measure => simp [intOf]; omega
    · obtain rfl : k = xs.length := by omega
      rw [List.take_length] at ho
      have HO := Lib.hid ho
      clear ho
      go_wp2
      go_ret
      exact ⟨⟨_, rfl, by rw [HO.out]; rfl⟩, rfl⟩
theorem contains16 {w : World} {A : Option Addr} {cp : Nat} {x : Int} {xs : List Int} (hA : Reads w A (xs.map intV)) (hn : xs.length ≤ 1024) :
    Calls Try.prog 16 #[.slice A xs.length cp, .int .i64 x] w fun e w' => e = .returned (.bool (xs.contains x)) ∧ w = w' := by
  have H := Lib.hid (index42 (cp := cp) (x := x) hA hn)
  clear hA
  go_enter Try.func16, Try.ntmps16
  go_wp2_with (go_at_call 42; refine H.out.mono ?_; rintro e w' ⟨⟨r, rfl, hr⟩, rfl⟩; have HR := Lib.hid hr; clear hr)
  go_ret
  exact ⟨by rw [← HR.out]; rfl, rfl⟩
theorem nan58 (w : World) (x : Int) : Calls Try.prog 58 #[.int .i64 x] w fun e w' => e = .returned (.bool false) ∧ w = w' := by
  go_enter Try.func58, Try.ntmps58
  go_wp2
  go_ret
  exact ⟨by simp, rfl⟩
theorem less43 (w : World) (x y : Int) : Calls Try.prog 43 #[.int .i64 x, .int .i64 y] w fun e w' => e = .returned (.bool (decide (x < y))) ∧ w = w' := by
  go_enter Try.func43, Try.ntmps43
  go_wp2_with (go_at_call 58; refine (nan58 _ _).mono ?_; rintro e w' ⟨rfl, rfl⟩)
  go_ret
  exact ⟨rfl, rfl⟩
set_option maxRecDepth 100000 in
set_option maxHeartbeats 1000000 in
theorem sorted18 {w : World} {A : Option Addr} {cp : Nat} {xs : List Int} (hA : Reads w A (xs.map intV)) (hn : xs.length ≤ 1024) (hs : xs.Pairwise (· ≤ ·)) :
    Calls Try.prog 18 #[.slice A xs.length cp] w fun e w' => e = .returned (.bool true) ∧ Kept [] w w' := by
  have HA := Lib.hid hA
  have HS := Lib.hid hs
  clear hA hs
  go_enter Try.func18, Try.ntmps18
  go_wp2
  go_loopw [3] (fun i wr => ∃ k : Int, k < xs.length ∧ -1 ≤ k ∧ i = .int .i64 k ∧ Kept [] w wr) (fun i _ => (intOf i + 1).toNat)
  case atStart => exact ⟨(xs.length : Int) - 1, by omega, by omega, by go_num, Kept.refl _ _⟩
  case round =>
    obtain ⟨k, hk, hk0, rfl, hK⟩ := hrel
    by_cases hlt : 0 < k
    · obtain ⟨j, rfl⟩ : ∃ j : Nat, k = (j : Int) + 1 := ⟨(k - 1).toNat, by omega⟩
      have hj : j + 1 < xs.length := by omega
      obtain ⟨x, hx⟩ : ∃ x, xs[j]? = some x := ⟨_, List.getElem?_eq_getElem (by omega)⟩
      obtain ⟨y, hy⟩ : ∃ y, xs[j + 1]? = some y := ⟨_, List.getElem?_eq_getElem hj⟩
      have hxy : x ≤ y := by
        have := List.pairwise_iff_getElem.1 HS.out j (j + 1) (by omega) hj (by omega)
        rw [List.getElem?_eq_getElem (by omega)] at hx hy
        simp only [Option.some.injEq] at hx hy
        omega
      obtain ⟨b1, o1, rfl, hc1⟩ := HA.out.resolve_left (by intro e; simp at e; subst e; simp at hj)
      have c1 := (hK.trans' (Kept.drew [] _)).cell (hc1 j (intV x) (by simp [hx])) (by simp)
      have c2 := (hK.trans' (Kept.drew [] _)).cell (hc1 (j + 1) (intV y) (by simp [hy])) (by simp)
      simp only [intV] at c1 c2
      have hl := less43 wr.drew y x
      rw [show decide (y < x) = false by simp; omega] at hl
      have HL := Lib.hid hl
      have HK := Lib.hid hK
      clear hl hK hx hy hxy hc1
      have hj0 : (0 : Int) ≤ (j : Int) + 1 := by omega
      have hj1 : (j : Int) + 1 < xs.length := by omega
      have hj2 : (j : Int) < xs.length := by omega
      have hj3 : IntKind.i64.wrap (j : Int) = j := wrap_small _ (by omega) (by omega)
      go_wp2
      go_region_law (first
        | (go_simp; go_at_call 43; refine HL.out.mono ?_; rintro e w' ⟨rfl, rfl⟩))
      all_goals
        go_wp2
        go_roundw
        case rel => exact ⟨(j : Int), by omega, by omega, by go_num, HK.out.trans' (Kept.drew _ _)⟩
        case measure => simp [intOf]; omega
    · have HK := Lib.hid hK
      clear hK
      go_wp2
      go_ret
      exact ⟨rfl, HK.out⟩
end Go.Proofs.Ytmndckeohfcgkaa
