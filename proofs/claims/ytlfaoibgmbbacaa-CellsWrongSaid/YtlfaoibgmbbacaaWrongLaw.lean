/- The walk of CellsWrong. -/
import Derived.Test.YtlfaoibgmbbacaaAloneLaw
namespace Go.Proofs.Ytlfaoibgmbbacaa
open Go.RowKit

def low (a b : Int) : Int := if b < a then b else a
def high (a b : Int) : Int := if b > a then b else a
theorem low_le (a b : Int) : low a b ≤ b := by unfold low; split <;> omega
theorem le_high (a b : Int) : b ≤ high a b := by unfold high; split <;> omega
theorem min_low (ats : Array TypeId) (ty : TypeId) (a b : Int) : Builtin.min_ ats ty #[.int .i64 a, .int .i64 b] = pure (.int .i64 (low a b)) := rfl
theorem max_high (ats : Array TypeId) (ty : TypeId) (a b : Int) : Builtin.max_ ats ty #[.int .i64 a, .int .i64 b] = pure (.int .i64 (high a b)) := rfl
theorem make17 (W : World) : (Instr.makeSlice 44 (.int .i64 17) (.int .i64 17)).run Try.prog W =
    .ok (.slice (some ⟨W.heap.size, 0, none⟩) 17 17) (W.alloc (.cells (Array.replicate 17 (.int .i64 0)) 3)) := by
  obtain ⟨i0, hi, hz0, hz1, hz2⟩ := info_parts info3
  have := run_makeSlice (P := Try.prog) W 44 3 i0 (.int .i64 0) Try.underlying44 hi hz0 .i64 .i64 17 17 (by omega) (by omega) (by rw [hz1]; decide) (by rw [hz2]; decide) (by omega)
  simpa [hz1, Value.cells, madeCells_zero] using this
theorem four_reads (w : World) (o : Obj) (l1 l2 l3 l4 : Array Value) :
    Reads (((((w.alloc (.cells l1 3)).alloc (.cells l2 3)).alloc (.cells l3 3)).alloc (.cells l4 3)).alloc o) (some ⟨w.heap.size, 0, none⟩) l1.toList ∧
    Reads (((((w.alloc (.cells l1 3)).alloc (.cells l2 3)).alloc (.cells l3 3)).alloc (.cells l4 3)).alloc o) (some ⟨w.heap.size + 1, 0, none⟩) l2.toList ∧
    Reads (((((w.alloc (.cells l1 3)).alloc (.cells l2 3)).alloc (.cells l3 3)).alloc (.cells l4 3)).alloc o) (some ⟨w.heap.size + 1 + 1, 0, none⟩) l3.toList ∧
    Reads (((((w.alloc (.cells l1 3)).alloc (.cells l2 3)).alloc (.cells l3 3)).alloc (.cells l4 3)).alloc o) (some ⟨w.heap.size + 1 + 1 + 1, 0, none⟩) l4.toList := by
  have key : ∀ (w : World) (l : Array Value), Reads (w.alloc (.cells l 3)) (some ⟨w.heap.size, 0, none⟩) l.toList := fun w l => lit_reads w 3 l.toList
  have sz : ∀ (w : World) (o : Obj), (w.alloc o).heap.size = w.heap.size + 1 := fun w o => by simp
  have up : ∀ {w : World} {A : Option Addr} {xs : List Value} (o : Obj), Reads w A xs → Reads (w.alloc o) A xs := fun o h => (Kept.alloc [] _ o).reads h (by simp)
  have k2 := key (w.alloc (.cells l1 3)) l2
  have k3 := key ((w.alloc (.cells l1 3)).alloc (.cells l2 3)) l3
  have k4 := key (((w.alloc (.cells l1 3)).alloc (.cells l2 3)).alloc (.cells l3 3)) l4
  rw [sz] at k2
  rw [sz, sz] at k3
  rw [sz, sz, sz] at k4
  exact ⟨up _ (up _ (up _ (up _ (key w l1)))), up _ (up _ (up _ k2)), up _ (up _ k3), up _ k4⟩
theorem right_bad {w : World} {A : Option Addr} {c : Nat} {l : List Int} (hr : Reads w A (l.map numV)) (hn : l.length ≤ maxLen) (hb : rightB l = false) :
    Calls Try.prog 27 #[.slice A l.length c] w fun e w' => e = .returned (.bool false) ∧ w = w' := by
  have h := Right_calls (c := c) hr hn
  rw [hb] at h
  exact h
attribute [local go_sem] min_low max_high make17

set_option maxRecDepth 100000 in
set_option maxHeartbeats 4000000 in
theorem cellsWrong_calls {w : World} {A : Option Addr} {cA : Nat} {l : List Sm} (hA : Reads w A (flatS l)) (lA : ∀ x ∈ l, x.ok) (nA : l.length ≤ maxLen) (kA : l.length ≤ cA)
    (n : Int) (wn : Lit.wf (.int .i64 n) = true) (m : Int) (wm : Lit.wf (.int .i64 m) = true) (x : Int) (wx : Lit.wf (.int .u8 x) = true) :
    Calls Try.prog 6 #[.slice A l.length cA, .int .i64 n, .int .i64 m, .int .u8 x] w fun e w' => e = .returned (.bool true) ∧ Kept [] w w' := by
  simp [Lit.wf, IntKind.min, IntKind.max, IntKind.signed, IntKind.bits] at wx
  obtain ⟨z, rfl⟩ : ∃ n : Nat, x = n := ⟨x.toNat, by omega⟩
  obtain ⟨q, hq, hq4⟩ : ∃ q : Nat, (z : Int) % 4 = q ∧ q < 4 := ⟨z % 4, by omega, by omega⟩
  have HA := Lib.hid hA
  have LA := Lib.hid lA
  have NA := Lib.hid nA
  have KA := Lib.hid kA
  have HQ := Lib.hid hq
  have WN := Lib.hid wn
  have WM := Lib.hid wm
  clear hA lA nA kA hq wn wm
  go_enter Try.func6, Try.ntmps6
  go_wp2_with fail
  refine (awake_calls w).mono ?_
  rintro e w1 ⟨rfl, hk⟩
  have K1 := Lib.hid hk
  clear hk
  go_wp2_with fail
  refine (Made_calls w1).mono ?_
  rintro e w2 ⟨a, rfl, hs⟩
  have S0 : Hid (St w w2 [.mem a c0]) := hs.from K1.out
  clear hs
  go_wp2_with fail
  refine (do_calls S0.out c0_ok HA.out LA.out NA.out KA.out true 0).mono ?_
  rintro e w3 ⟨rfl, hs⟩
  have ok1 := doAll_ok c0_ok true 0 (l.take 60)
  generalize doAll true 0 c0 (l.take 60) = c1 at hs ok1
  have OK1 := Lib.hid ok1
  have S1 := Lib.hid hs
  clear hs ok1
  go_wp2_with fail
  refine (all9 S1.out OK1.out.1).mono ?_
  rintro e w6 ⟨A2, p2, rfl, hs⟩
  have S2 := Lib.hid hs
  clear hs
  go_wp2_with fail
  refine S2.out.marks.mono ?_
  rintro e w' ⟨rfl, rfl⟩
  go_wp2_with fail
  have S3 := Lib.hid (S2.out.blkNew 3 #[.int .i64 (low n 0), .int .i64 (high n 5)])
  generalize w6.heap.size = L at *
  have hn4 : c1.now.length = 4 := by have := congrArg List.length OK1.out.1; simpa [lens] using this
  have LD1 : Hid (∀ o i : Int, o < 1 ∨ 4 < o → c1.load o i = (0, 211)) := Lib.hid (by
    intro o i h
    unfold CM.load
    rw [if_pos (by omega)])
  have LD2 : Hid (∀ i : Int, i < 0 ∨ 4 ≤ i → c1.load (1 + (z : Int) % 4) i = (0, 212)) := Lib.hid (by
    intro i h
    obtain ⟨xs, hx, hp⟩ := planOf_at OK1.out.1 hq4
    have hlen : xs.length ≤ 4 := by
      match q, hq4 with
      | 0, _ | 1, _ | 2, _ | 3, _ => simp [planOf] at hp; omega
    have et : ((1 + (q : Int)) - 1).toNat = q := by omega
    rw [HQ.out]
    unfold CM.load
    rw [if_neg (by omega)]
    simp only [et, hx, Option.getD_some]
    rw [if_pos (by omega)])
  have ST1 : Hid (∀ o i v : Int, (c1.load o i).2 ≠ 0 → c1.store o i v = c1) := Lib.hid (by
    intro o i v h
    unfold CM.store
    rw [if_neg h])
  have HN4 : Hid (c1.now.length = 4) := hn4
  clear hn4 S0 S1 S2 K1
  go_loopw [54] (fun i wr => ∃ k : Nat, k ≤ 2 ∧ i = .int .i64 k ∧ St w wr [.blk L 3 #[.int .i64 (low n 0), .int .i64 (high n 5)], .mem a c1, .row (.slice A2 9 p2) 2 1 9 (c1.now.flatten.map numV)]) (fun i _ => 2 - (intOf i).toNat)
  case atStart => exact ⟨0, by omega, rfl, S3.out⟩
  case round =>
    obtain ⟨k, hk, rfl, hS⟩ := hrel
    clear S3
    by_cases hlt : k < 2
    · obtain ⟨o, ho, hc⟩ : ∃ o : Int, (o < 1 ∨ 4 < o) ∧ wr.cell? ⟨L, k, none⟩ = some (.int .i64 o) := by
        match k, hlt with
        | 0, _ => exact ⟨low n 0, .inl (by have := low_le n 0; omega), (hS.blk.cell 0).trans rfl⟩
        | 1, _ => exact ⟨high n 5, .inr (by have := le_high n 5; omega), (hS.blk.cell 1).trans rfl⟩
      have HO := Lib.hid ho
      have S4 := Lib.hid hS.swap
      clear hS ho
      go_wp2_with (first
        | (go_at_call 21; refine (S4.out.load o 0 (LD1.out o 0 HO.out)).mono ?_; rintro e w' ⟨rfl, rfl⟩)
        | (go_at_call 24; refine (S4.out.store o 0 1 (LD1.out o 0 HO.out) (ST1.out o 0 1 (by rw [LD1.out o 0 HO.out]; decide))).mono ?_; rintro e w' ⟨rfl, hs⟩; have S7 := Lib.hid hs; clear hs)
        | (go_at_call 25; refine (S7.out.allOut (o := o) (by rw [HN4.out]; have := HO.out; omega)).mono ?_; rintro e w' ⟨rfl, rfl⟩))
      go_roundw
      case rel => exact ⟨k + 1, by omega, by go_num, S7.out.swap⟩
      case measure => simp [intOf]; omega
    · obtain rfl : k = 2 := by omega
      rw [show ((2 : Nat) : Int) = 2 from rfl]
      have S4 := Lib.hid (hS.drop.blkNew 3 #[.int .i64 (low m (-1)), .int .i64 (high m 4)])
      clear hS
      go_wp2_with fail
      generalize hL2 : wr.heap.size = L2 at *
      clear hL2
      go_loopw [93] (fun i wr => ∃ k : Nat, k ≤ 2 ∧ i = .int .i64 k ∧ St w wr [.blk L2 3 #[.int .i64 (low m (-1)), .int .i64 (high m 4)], .mem a c1, .row (.slice A2 9 p2) 2 1 9 (c1.now.flatten.map numV)]) (fun i _ => 2 - (intOf i).toNat)
      case atStart => exact ⟨0, by omega, rfl, S4.out⟩
      case round =>
        obtain ⟨k, hk, rfl, hS⟩ := hrel
        clear S4
        by_cases hlt : k < 2
        · obtain ⟨o, ho, hc⟩ : ∃ o : Int, (o < 0 ∨ 4 ≤ o) ∧ wr.cell? ⟨L2, k, none⟩ = some (.int .i64 o) := by
            match k, hlt with
            | 0, _ => exact ⟨low m (-1), .inl (by have := low_le m (-1); omega), (hS.blk.cell 0).trans rfl⟩
            | 1, _ => exact ⟨high m 4, .inr (by have := le_high m 4; omega), (hS.blk.cell 1).trans rfl⟩
          have HO := Lib.hid ho
          have S4 := Lib.hid hS.swap
          clear hS ho
          go_wp2_with (first
            | (go_at_call 21; refine (S4.out.load (1 + (z : Int) % 4) o (LD2.out o HO.out)).mono ?_; rintro e w' ⟨rfl, rfl⟩)
            | (go_at_call 24; refine (S4.out.store (1 + (z : Int) % 4) o 1 (LD2.out o HO.out) (ST1.out (1 + (z : Int) % 4) o 1 (by rw [LD2.out o HO.out]; decide))).mono ?_; rintro e w' ⟨rfl, hs⟩; have S7 := Lib.hid hs; clear hs))
          go_roundw
          case rel => exact ⟨k + 1, by omega, by go_num, S7.out.swap⟩
          case measure => simp [intOf]; omega
        · obtain rfl : k = 2 := by omega
          rw [show ((2 : Nat) : Int) = 2 from rfl]
          have S4 := Lib.hid hS.drop
          clear hS
          obtain rfl | rfl | rfl | rfl : q = 0 ∨ q = 1 ∨ q = 2 ∨ q = 3 := by omega
          · have hz : (z : Int) % 4 = 0 := HQ.out
            have HB : Hid (rightB ([1, low n (-1)]) = false) := Lib.hid (by have := low_le n (-1); unfold rightB fits fits; rw [if_neg (by decide), if_pos (by omega)]; rfl)
            go_wp2_with fail
            refine (new_bad (l := [1, low n (-1)]) (four_reads wr _ _ _ _ _).1 (by simp only [List.length_cons, List.length_nil, List.length_replicate]; decide) HB.out).mono ?_
            rintro e w' ⟨rfl, rfl⟩
            go_wp2_with fail
            refine (right_bad (l := [1, low n (-1)]) (four_reads wr _ _ _ _ _).1 (by simp only [List.length_cons, List.length_nil, List.length_replicate]; decide) HB.out).mono ?_
            rintro e w' ⟨rfl, rfl⟩
            go_wp2_with fail
            refine (all9 (((((S4.out.alloc _).alloc _).alloc _).alloc _).alloc _) OK1.out.1).mono ?_
            rintro e w8 ⟨A3, p3, rfl, hs⟩
            have S6 := Lib.hid hs
            clear hs
            have e9 : c1.now.flatten.length = 9 := Four.flat9 OK1.out.1
            have E9 := Lib.hid e9
            clear e9
            go_wp2_with fail
            have Q := (equal18 (xs := c1.now.flatten) (ys := c1.now.flatten) (c := p3) (d := p2) (own_reads S6.out.swap.row) (own_reads S6.out.drop.drop.row) (by rw [E9.out]; decide) (by rw [E9.out]; decide))
            rw [E9.out] at Q
            refine Q.mono ?_
            rintro e w9 ⟨rfl, hk⟩
            have S7 := Lib.hid (S6.out.kept hk)
            have hd : decide (c1.now.flatten = c1.now.flatten) = true := by simp
            rw [hd]
            clear hk hd Q
            go_wp2_with fail
            refine S7.out.marks.mono ?_
            rintro e w' ⟨rfl, rfl⟩
            go_wp2
            go_ret
            exact ⟨rfl, S7.out.whole⟩
          · have hz : (z : Int) % 4 = 1 := HQ.out
            have HB : Hid (rightB ([high n 1025]) = false) := Lib.hid (by have := le_high n 1025; unfold rightB fits; rw [if_pos (by omega)]; rfl)
            go_wp2_with fail
            refine (new_bad (l := [high n 1025]) (four_reads wr _ _ _ _ _).2.1 (by simp only [List.length_cons, List.length_nil, List.length_replicate]; decide) HB.out).mono ?_
            rintro e w' ⟨rfl, rfl⟩
            go_wp2_with fail
            refine (right_bad (l := [high n 1025]) (four_reads wr _ _ _ _ _).2.1 (by simp only [List.length_cons, List.length_nil, List.length_replicate]; decide) HB.out).mono ?_
            rintro e w' ⟨rfl, rfl⟩
            go_wp2_with fail
            refine (all9 (((((S4.out.alloc _).alloc _).alloc _).alloc _).alloc _) OK1.out.1).mono ?_
            rintro e w8 ⟨A3, p3, rfl, hs⟩
            have S6 := Lib.hid hs
            clear hs
            have e9 : c1.now.flatten.length = 9 := Four.flat9 OK1.out.1
            have E9 := Lib.hid e9
            clear e9
            go_wp2_with fail
            have Q := (equal18 (xs := c1.now.flatten) (ys := c1.now.flatten) (c := p3) (d := p2) (own_reads S6.out.swap.row) (own_reads S6.out.drop.drop.row) (by rw [E9.out]; decide) (by rw [E9.out]; decide))
            rw [E9.out] at Q
            refine Q.mono ?_
            rintro e w9 ⟨rfl, hk⟩
            have S7 := Lib.hid (S6.out.kept hk)
            have hd : decide (c1.now.flatten = c1.now.flatten) = true := by simp
            rw [hd]
            clear hk hd Q
            go_wp2_with fail
            refine S7.out.marks.mono ?_
            rintro e w' ⟨rfl, rfl⟩
            go_wp2
            go_ret
            exact ⟨rfl, S7.out.whole⟩
          · have hz : (z : Int) % 4 = 2 := HQ.out
            have HB : Hid (rightB ([1024, 1]) = false) := Lib.hid (by decide)
            go_wp2_with fail
            refine (new_bad (l := [1024, 1]) (four_reads wr _ _ _ _ _).2.2.1 (by simp only [List.length_cons, List.length_nil, List.length_replicate]; decide) HB.out).mono ?_
            rintro e w' ⟨rfl, rfl⟩
            go_wp2_with fail
            refine (right_bad (l := [1024, 1]) (four_reads wr _ _ _ _ _).2.2.1 (by simp only [List.length_cons, List.length_nil, List.length_replicate]; decide) HB.out).mono ?_
            rintro e w' ⟨rfl, rfl⟩
            go_wp2_with fail
            refine (all9 (((((S4.out.alloc _).alloc _).alloc _).alloc _).alloc _) OK1.out.1).mono ?_
            rintro e w8 ⟨A3, p3, rfl, hs⟩
            have S6 := Lib.hid hs
            clear hs
            have e9 : c1.now.flatten.length = 9 := Four.flat9 OK1.out.1
            have E9 := Lib.hid e9
            clear e9
            go_wp2_with fail
            have Q := (equal18 (xs := c1.now.flatten) (ys := c1.now.flatten) (c := p3) (d := p2) (own_reads S6.out.swap.row) (own_reads S6.out.drop.drop.row) (by rw [E9.out]; decide) (by rw [E9.out]; decide))
            rw [E9.out] at Q
            refine Q.mono ?_
            rintro e w9 ⟨rfl, hk⟩
            have S7 := Lib.hid (S6.out.kept hk)
            have hd : decide (c1.now.flatten = c1.now.flatten) = true := by simp
            rw [hd]
            clear hk hd Q
            go_wp2_with fail
            refine S7.out.marks.mono ?_
            rintro e w' ⟨rfl, rfl⟩
            go_wp2
            go_ret
            exact ⟨rfl, S7.out.whole⟩
          · have hz : (z : Int) % 4 = 3 := HQ.out
            have HB : Hid (rightB (List.replicate 17 0) = false) := Lib.hid (by decide)
            go_wp2_with fail
            refine (new_bad (l := List.replicate 17 0) (four_reads wr _ _ _ _ _).2.2.2 (by simp only [List.length_cons, List.length_nil, List.length_replicate]; decide) HB.out).mono ?_
            rintro e w' ⟨rfl, rfl⟩
            go_wp2_with fail
            refine (right_bad (l := List.replicate 17 0) (four_reads wr _ _ _ _ _).2.2.2 (by simp only [List.length_cons, List.length_nil, List.length_replicate]; decide) HB.out).mono ?_
            rintro e w' ⟨rfl, rfl⟩
            go_wp2_with fail
            refine (all9 (((((S4.out.alloc _).alloc _).alloc _).alloc _).alloc _) OK1.out.1).mono ?_
            rintro e w8 ⟨A3, p3, rfl, hs⟩
            have S6 := Lib.hid hs
            clear hs
            have e9 : c1.now.flatten.length = 9 := Four.flat9 OK1.out.1
            have E9 := Lib.hid e9
            clear e9
            go_wp2_with fail
            have Q := (equal18 (xs := c1.now.flatten) (ys := c1.now.flatten) (c := p3) (d := p2) (own_reads S6.out.swap.row) (own_reads S6.out.drop.drop.row) (by rw [E9.out]; decide) (by rw [E9.out]; decide))
            rw [E9.out] at Q
            refine Q.mono ?_
            rintro e w9 ⟨rfl, hk⟩
            have S7 := Lib.hid (S6.out.kept hk)
            have hd : decide (c1.now.flatten = c1.now.flatten) = true := by simp
            rw [hd]
            clear hk hd Q
            go_wp2_with fail
            refine S7.out.marks.mono ?_
            rintro e w' ⟨rfl, rfl⟩
            go_wp2
            go_ret
            exact ⟨rfl, S7.out.whole⟩
end Go.Proofs.Ytlfaoibgmbbacaa
