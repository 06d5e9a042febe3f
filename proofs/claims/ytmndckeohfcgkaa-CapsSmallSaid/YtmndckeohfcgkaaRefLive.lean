/- The reference of layer 23: what a table is; Live, Places. -/
import Derived.Test.YtmndckeohfcgkaaAwake
import Derived.Test.YtmndckeohfcgkaaMore
namespace Go.Proofs.Ytmndckeohfcgkaa
open Go.RowKit
structure RH where
  serial : Int
  parent : Int
  port : Int
  holder : Int
  rights : Int
  gone : Bool
def RH.cells (h : RH) : List Value := [.int .i64 h.serial, .int .i64 h.parent, .int .i64 h.port, .int .i64 h.holder, .int .i64 h.rights, .bool h.gone]
def RH.val (h : RH) : Value := .agg #[.int .i64 h.serial, .int .i64 h.parent, .int .i64 h.port, .int .i64 h.holder, .int .i64 h.rights, .bool h.gone]
def noRH : RH := ⟨0, 0, 0, 0, 0, false⟩
def flatR (l : List RH) : List Value := l.flatMap RH.cells
theorem flatR_len (l : List RH) : (flatR l).length = l.length * 6 := by
  induction l with
  | nil => rfl
  | cons x l ih => simp only [flatR, List.flatMap_cons, List.length_append, List.length_cons] at ih ⊢; rw [ih]; simp [RH.cells]; omega
theorem flatR_get {l : List RH} {k i : Nat} {x : RH} {u : Value} (h : l[k]? = some x) (hi : i < 6) (hu : x.cells[i]? = some u) : (flatR l)[k * 6 + i]? = some u := by
  induction l generalizing k with
  | nil => simp at h
  | cons y l ih =>
    have e : flatR (y :: l) = y.cells ++ flatR l := rfl
    rw [e]
    cases k with
    | zero =>
      simp only [List.getElem?_cons_zero, Option.some.injEq] at h
      subst h
      rw [List.getElem?_append_left (by simp [RH.cells]; omega)]
      simpa using hu
    | succ k =>
      simp only [List.getElem?_cons_succ] at h
      rw [List.getElem?_append_right (by simp [RH.cells]; omega), show (k + 1) * 6 + i - y.cells.length = k * 6 + i by simp [RH.cells]; omega]
      exact ih h
theorem flatR_nil {l : List RH} : flatR l = [] ↔ l = [] := by
  constructor
  · intro h
    have := flatR_len l
    rw [h] at this
    simp only [List.length_nil] at this
    exact List.eq_nil_of_length_eq_zero (by omega)
  · rintro rfl; rfl
theorem rh_cells {w wr : World} {b o : Nat} {l : List RH} {k : Nat} {x : RH} (hK : Kept [] w wr) (hc : ∀ j u, (flatR l)[j]? = some u → w.cell? ⟨b, o + j, none⟩ = some u) (hx : l[k]? = some x) :
    wr.cell? ⟨b, o + k * 6, none⟩ = some (.int .i64 x.serial) ∧ wr.cell? ⟨b, o + k * 6 + 1, none⟩ = some (.int .i64 x.parent) ∧ wr.cell? ⟨b, o + k * 6 + 2, none⟩ = some (.int .i64 x.port) ∧ wr.cell? ⟨b, o + k * 6 + 3, none⟩ = some (.int .i64 x.holder) ∧ wr.cell? ⟨b, o + k * 6 + 4, none⟩ = some (.int .i64 x.rights) ∧ wr.cell? ⟨b, o + k * 6 + 5, none⟩ = some (.bool x.gone) :=
  ⟨hK.cell (hc (k * 6 + 0) _ (flatR_get hx (by omega) rfl)) (by simp), hK.cell (hc (k * 6 + 1) _ (flatR_get hx (by omega) rfl)) (by simp), hK.cell (hc (k * 6 + 2) _ (flatR_get hx (by omega) rfl)) (by simp),
   hK.cell (hc (k * 6 + 3) _ (flatR_get hx (by omega) rfl)) (by simp), hK.cell (hc (k * 6 + 4) _ (flatR_get hx (by omega) rfl)) (by simp), hK.cell (hc (k * 6 + 5) _ (flatR_get hx (by omega) rfl)) (by simp)⟩
theorem info104 : (Try.prog.info? 104).map (fun i => (i.zero, i.size, i.bytes)) = some (some (.agg #[.int .i64 0, .int .i64 0, .int .i64 0, .int .i64 0, .int .i64 0, .bool false]), 6, 48) := by kernel_rfl
def liveR (l : List RH) : List RH := l.filter fun h => !h.gone
def placesR (l : List RH) (who : Int) : List RH := l.filter fun h => h.holder == who
theorem liveR_le (l : List RH) : (liveR l).length ≤ l.length := List.length_filter_le _ _
theorem placesR_le (l : List RH) (who : Int) : (placesR l who).length ≤ l.length := List.length_filter_le _ _
theorem filter_take {α : Type} {p : α → Bool} {l : List α} {k : Nat} {x : α} (hx : l[k]? = some x) : (l.take (k + 1)).filter p = (l.take k).filter p ++ if p x then [x] else [] := by
  rw [List.take_add_one, hx, List.filter_append, Option.toList_some, List.filter_cons, List.filter_nil]
set_option maxHeartbeats 1000000 in
theorem RLive_calls {w : World} {A : Option Addr} {cap : Nat} {nx : Int} {l : List RH} (hA : Reads w A (flatR l)) (hn : l.length ≤ 1024) :
    Calls Try.prog 69 #[.agg #[.int .i64 nx, .slice A l.length cap]] w fun e w' => ∃ R q, e = .returned (.slice R (liveR l).length q) ∧ w'.ownsRow w.heap.size 104 6 (.slice R (liveR l).length q) (liveR l).length (flatR (liveR l)) ∧ Kept [] w w' := by
  have HA := Lib.hid hA
  obtain ⟨i0, hi, hz0, hz1, hz2⟩ := info_parts info104
  generalize hv : w.alloc (.cells #[.int .i64 nx, .slice A l.length cap] 88) = w1
  have hk1 : Kept [] w w1 := by rw [← hv]; exact Kept.alloc _ _ _
  have hb1 : Blk w1 w.heap.size 88 #[.int .i64 nx, .slice A l.length cap] := by rw [← hv]; exact Blk.new _ _ _
  have K1 := Lib.hid hk1
  have B1 := Lib.hid hb1
  have HV := Lib.hid hv
  have hv' : w.alloc (.cells #[.int .i64 nx, .slice A l.length cap] 88) = w1 := hv
  clear hA hk1 hb1 hv
  go_enter Try.func69, Try.ntmps69
  go_wp2
  clear hv'
  go_loopw [3, 4] (fun o i wr => ∃ (k : Nat), k ≤ l.length ∧ i = .int .i64 k ∧ wr.ownsRow w1.heap.size 104 6 o (liveR (l.take k)).length (flatR (liveR (l.take k))) ∧ Kept [] w1 wr) (fun _ i _ => l.length - (intOf i).toNat)
  case atStart => exact ⟨0, Nat.zero_le _, rfl, World.ownsRow_nil _ _ _ _, Kept.refl _ _⟩
  case round =>
    obtain ⟨k, hk, rfl, hO, hK⟩ := hrel
    obtain ⟨R, q, rfl⟩ := own_slice hO
    have hb := hK.blk B1.out (by simp)
    have d0 : wr.cell? ⟨w.heap.size, 0, none⟩ = some (.int .i64 nx) := hb.cell 0
    have d1 : wr.cell? ⟨w.heap.size, 1, none⟩ = some (.slice A l.length cap) := hb.cell 1
    clear hb
    by_cases hlt : k < l.length
    · obtain ⟨x, hx⟩ : ∃ x, l[k]? = some x := ⟨_, List.getElem?_eq_getElem hlt⟩
      obtain ⟨b1, o1, rfl, hc1⟩ := HA.out.resolve_left (by intro e; rw [flatR_nil.1 e] at hx; simp at hx)
      obtain ⟨c0, c1, c2, c3, c4, c5⟩ := rh_cells (K1.out.trans' hK) hc1 hx
      have hlv : (liveR (l.take k)).length ≤ 1024 := by
        have := liveR_le (l.take k)
        rw [List.length_take] at this
        omega
      have hft := filter_take (p := fun h : RH => !h.gone) hx
      have hcn := cell_row_new wr x.cells 104
      have HC := Lib.hid hcn
      have X1 := Lib.hid hO
      have X2 := Lib.hid hK
      have HF := Lib.hid hft
      have X4 : Hid (∀ b, (Value.slice R (liveR (l.take k)).length q).ownBlock = some b → w1.heap.size ≤ b) := Lib.hid fun b hb => (hO.lt b hb).1
      have hx4 := hK.size
      clear hO hK hx hcn hft hc1
      obtain ⟨x1, x2, x3, x4, x5, x6⟩ := x
      simp only at c0 c1 c2 c3 c4 c5
      cases x6 with
      | true =>
        have he : liveR (l.take (k + 1)) = liveR (l.take k) := by
          have := HF.out
          simpa [liveR] using this
        have HE := Lib.hid he
        clear he
        go_wp2
        go_roundw
        case rel => exact ⟨k + 1, by omega, by go_num, by rw [HE.out]; exact X1.out, X2.out⟩
        case measure => simp [intOf]; omega
      | false =>
        have he : liveR (l.take (k + 1)) = liveR (l.take k) ++ [⟨x1, x2, x3, x4, x5, false⟩] := by
          have := HF.out
          simpa [liveR] using this
        have HE := Lib.hid he
        clear he
        go_wp2_with (at_builtin
                     refine wpList_append_own_at _ rfl _ _ 86 rfl w1.heap.size 104 i0 (.agg #[.int .i64 0, .int .i64 0, .int .i64 0, .int .i64 0, .int .i64 0, .bool false]) 6 48 Try.underlying86 hi hz0 hz1 hz2 rfl (by decide) (.slice R (liveR (l.take k)).length q) (liveR (l.take k)).length (flatR (liveR (l.take k))) rfl (X1.out.alloc _) ⟨wr.heap.size, 0, none⟩ 1 1 [.int .i64 x1, .int .i64 x2, .int .i64 x3, .int .i64 x4, .int .i64 x5, .bool false] rfl rfl HC.out (by simp [Value.oneCell']) (by unfold maxLen; omega) (by omega) (by simp; omega) ?_
                     intro v' w2 hown' hgrow hnil hloc
                     have Y2 := Lib.hid hown'
                     have Y3 := Lib.hid hgrow
                     clear hown' hgrow hnil hloc)
        go_roundw
        case rel =>
          refine ⟨k + 1, by omega, by go_num, ?_, ?_⟩
          · rw [HE.out, List.length_append]
            have : flatR (liveR (l.take k) ++ [⟨x1, x2, x3, x4, x5, false⟩]) = flatR (liveR (l.take k)) ++ [.int .i64 x1, .int .i64 x2, .int .i64 x3, .int .i64 x4, .int .i64 x5, .bool false] := by simp [flatR, RH.cells]
            rw [this]
            exact Y2.out
          · refine X2.out.trans ((Kept.alloc (Value.slice R (liveR (l.take k)).length q).ownBlock.toList _ _).trans' (Kept.grown Y3.out (by simp))) fun b hb => .inr (X4.out b (by simpa using hb))
        case measure => simp [intOf]; omega
    · obtain rfl : k = l.length := by omega
      rw [List.take_length] at hO
      have X1 := Lib.hid hO
      have X2 := Lib.hid hK
      clear hO hK
      generalize hN : l.length = n at *
      rw [show liveR (l.take n) = liveR l by rw [List.take_of_length_le (by omega)]]
      go_wp2
      go_ret
      exact ⟨R, q, rfl, own_base X1.out K1.out.size, K1.out.trans' X2.out⟩
set_option maxRecDepth 100000 in
set_option maxHeartbeats 1000000 in
theorem RPlaces_calls {w : World} {A : Option Addr} {cap : Nat} {nx : Int} {l : List RH} (who : Int) (hA : Reads w A (flatR l)) (hn : l.length ≤ 1024) :
    Calls Try.prog 72 #[.agg #[.int .i64 nx, .slice A l.length cap], .int .i64 who] w fun e w' => ∃ R q, e = .returned (.slice R (placesR l who).length q) ∧ w'.ownsRow w.heap.size 104 6 (.slice R (placesR l who).length q) (placesR l who).length (flatR (placesR l who)) ∧ Kept [] w w' := by
  have HA := Lib.hid hA
  obtain ⟨i0, hi, hz0, hz1, hz2⟩ := info_parts info104
  generalize hv : w.alloc (.cells #[.int .i64 nx, .slice A l.length cap] 88) = w1
  have hk1 : Kept [] w w1 := by rw [← hv]; exact Kept.alloc _ _ _
  have hb1 : Blk w1 w.heap.size 88 #[.int .i64 nx, .slice A l.length cap] := by rw [← hv]; exact Blk.new _ _ _
  have K1 := Lib.hid hk1
  have B1 := Lib.hid hb1
  have HV := Lib.hid hv
  have hv' : w.alloc (.cells #[.int .i64 nx, .slice A l.length cap] 88) = w1 := hv
  clear hA hk1 hb1 hv
  go_enter Try.func72, Try.ntmps72
  go_wp2
  clear hv'
  go_loopw [5, 6] (fun o i wr => ∃ (k : Nat), k ≤ l.length ∧ i = .int .i64 k ∧ wr.ownsRow w1.heap.size 104 6 o (placesR (l.take k) who).length (flatR (placesR (l.take k) who)) ∧ Kept [] w1 wr) (fun _ i _ => l.length - (intOf i).toNat)
  case atStart => exact ⟨0, Nat.zero_le _, rfl, World.ownsRow_nil _ _ _ _, Kept.refl _ _⟩
  case round =>
    obtain ⟨k, hk, rfl, hO, hK⟩ := hrel
    obtain ⟨R, q, rfl⟩ := own_slice hO
    have hb := hK.blk B1.out (by simp)
    have d0 : wr.cell? ⟨w.heap.size, 0, none⟩ = some (.int .i64 nx) := hb.cell 0
    have d1 : wr.cell? ⟨w.heap.size, 1, none⟩ = some (.slice A l.length cap) := hb.cell 1
    clear hb
    by_cases hlt : k < l.length
    · obtain ⟨x, hx⟩ : ∃ x, l[k]? = some x := ⟨_, List.getElem?_eq_getElem hlt⟩
      obtain ⟨b1, o1, rfl, hc1⟩ := HA.out.resolve_left (by intro e; rw [flatR_nil.1 e] at hx; simp at hx)
      obtain ⟨c0, c1, c2, c3, c4, c5⟩ := rh_cells (K1.out.trans' hK) hc1 hx
      have hlv : (placesR (l.take k) who).length ≤ 1024 := by
        have := placesR_le (l.take k) who
        rw [List.length_take] at this
        omega
      have hft := filter_take (p := fun h : RH => h.holder == who) hx
      have hcn := cell_row_new wr x.cells 104
      have HC := Lib.hid hcn
      have X1 := Lib.hid hO
      have X2 := Lib.hid hK
      have HF := Lib.hid hft
      have X4 : Hid (∀ b, (Value.slice R (placesR (l.take k) who).length q).ownBlock = some b → w1.heap.size ≤ b) := Lib.hid fun b hb => (hO.lt b hb).1
      have hx4 := hK.size
      clear hO hK hx hcn hft hc1
      obtain ⟨x1, x2, x3, x4, x5, x6⟩ := x
      simp only at c0 c1 c2 c3 c4 c5
      by_cases e : x4 = who
      case neg =>
        have e' : (x4 == who) = false := by simp [e]
        have he : placesR (l.take (k + 1)) who = placesR (l.take k) who := by
          have := HF.out
          simpa [placesR, e'] using this
        have HE := Lib.hid he
        clear he e'
        go_wp2
        go_roundw
        case rel => exact ⟨k + 1, by omega, by go_num, by rw [HE.out]; exact X1.out, X2.out⟩
        case measure => simp [intOf]; omega
      case pos =>
        subst x4
        have e' : (who == who) = true := by simp
        have he : placesR (l.take (k + 1)) who = placesR (l.take k) who ++ [⟨x1, x2, x3, who, x5, x6⟩] := by
          have := HF.out
          simpa [placesR, e'] using this
        have HE := Lib.hid he
        clear he e'
        go_wp2_with (at_builtin
                     refine wpList_append_own_at _ rfl _ _ 86 rfl w1.heap.size 104 i0 (.agg #[.int .i64 0, .int .i64 0, .int .i64 0, .int .i64 0, .int .i64 0, .bool false]) 6 48 Try.underlying86 hi hz0 hz1 hz2 rfl (by decide) (.slice R (placesR (l.take k) who).length q) (placesR (l.take k) who).length (flatR (placesR (l.take k) who)) rfl (X1.out.alloc _) ⟨wr.heap.size, 0, none⟩ 1 1 [.int .i64 x1, .int .i64 x2, .int .i64 x3, .int .i64 who, .int .i64 x5, .bool x6] rfl rfl HC.out (by simp [Value.oneCell']) (by unfold maxLen; omega) (by omega) (by simp; omega) ?_
                     intro v' w2 hown' hgrow hnil hloc
                     have Y2 := Lib.hid hown'
                     have Y3 := Lib.hid hgrow
                     clear hown' hgrow hnil hloc)
        go_roundw
        case rel =>
          refine ⟨k + 1, by omega, by go_num, ?_, ?_⟩
          · rw [HE.out, List.length_append]
            have : flatR (placesR (l.take k) who ++ [⟨x1, x2, x3, who, x5, x6⟩]) = flatR (placesR (l.take k) who) ++ [.int .i64 x1, .int .i64 x2, .int .i64 x3, .int .i64 who, .int .i64 x5, .bool x6] := by simp [flatR, RH.cells]
            rw [this]
            exact Y2.out
          · refine X2.out.trans ((Kept.alloc (Value.slice R (placesR (l.take k) who).length q).ownBlock.toList _ _).trans' (Kept.grown Y3.out (by simp))) fun b hb => .inr (X4.out b (by simpa using hb))
        case measure => simp [intOf]; omega
    · obtain rfl : k = l.length := by omega
      rw [List.take_length] at hO
      have X1 := Lib.hid hO
      have X2 := Lib.hid hK
      clear hO hK
      generalize hN : l.length = n at *
      rw [show placesR (l.take n) who = placesR l who by rw [List.take_of_length_le (by omega)]]
      go_wp2
      go_ret
      exact ⟨R, q, rfl, own_base X1.out K1.out.size, K1.out.trans' X2.out⟩
end Go.Proofs.Ytmndckeohfcgkaa
