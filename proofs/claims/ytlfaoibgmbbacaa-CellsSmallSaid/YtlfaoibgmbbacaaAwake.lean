/- The walk of the examples of the chapter (awake of the laws on cells). -/
import Derived.Test.YtlfaoibgmbbacaaMade
namespace Go.Proofs.Ytlfaoibgmbbacaa
open Go.RowKit
theorem same19 {w : World} {A B : Option Addr} {c d : Nat} {xs : List Ch} (hA : Reads w A (flatC xs)) (hB : Reads w B (flatC xs)) (hx : xs.length ≤ maxLen) :
    Calls Try.prog 19 #[.slice A xs.length c, .slice B xs.length d] w fun e w' => e = .returned (.bool true) ∧ Kept [] w w' := by
  refine (equal19 hA hB hx hx).mono ?_
  rintro e w' ⟨rfl, h⟩
  exact ⟨by simp, h⟩
set_option maxRecDepth 100000 in
set_option maxHeartbeats 4000000 in
theorem awake_calls (w : World) : Calls Try.prog 10 #[] w fun e w' => e = .returned (.bool true) ∧ Kept [] w w' := by
  have hn := new_good (w := w.alloc (.cells #[.int .i64 2, .int .i64 3] 3)) (A := some ⟨w.heap.size, 0, none⟩) (c := 2) (l := [2, 3]) (lit_reads w 3 _) (by
    intro b off h
    simp only [Option.some.injEq, Addr.mk.injEq] at h
    simp; omega) (by simp) (by decide) (by decide)
  have HN := Lib.hid hn
  clear hn
  go_enter Try.func10, Try.ntmps10
  go_wp2_with fail
  refine HN.out.mono ?_
  rintro e w0 ⟨a, F, rfl, h1, h2, h3⟩
  have S0 : Hid (St w w0 [.mem a { now := [[0, 0], [0, 0, 0]], marks := [] }]) := ((St.nil w).kept (Kept.alloc _ _ _)).new (R := .mem a _) h2 h1 h3
  clear h1 h2 h3
  go_wp2_with fail
  refine (S0.out.store 1 0 5 (r := (0, 0)) (c' := { now := [[5, 0], [0, 0, 0]], marks := [] }) (by rfl) (by rfl)).mono ?_
  rintro e w1 ⟨rfl, hs⟩
  have S1 := Lib.hid hs
  clear hs
  go_wp2_with fail
  refine (S1.out.mark (r := (1, 0)) (c' := { now := [[5, 0], [0, 0, 0]], marks := [[[5, 0], [0, 0, 0]]] }) (by rfl) (by rfl)).mono ?_
  rintro e w2 ⟨rfl, hs⟩
  have S2 := Lib.hid hs
  clear hs
  go_wp2_with fail
  refine (S2.out.store 1 0 7 (r := (5, 0)) (c' := { now := [[7, 0], [0, 0, 0]], marks := [[[5, 0], [0, 0, 0]]] }) (by rfl) (by rfl)).mono ?_
  rintro e w3 ⟨rfl, hs⟩
  have S3 := Lib.hid hs
  clear hs
  go_wp2_with fail
  refine (S3.out.store 2 2 9 (r := (0, 0)) (c' := { now := [[7, 0], [0, 0, 9]], marks := [[[5, 0], [0, 0, 0]]] }) (by rfl) (by rfl)).mono ?_
  rintro e w4 ⟨rfl, hs⟩
  have S4 := Lib.hid hs
  clear hs
  go_wp2_with fail
  refine (S4.out.changes (l := [((0, 0), 5, 7), ((1, 2), 0, 9)]) (by rfl)).mono ?_
  rintro e w5 ⟨A1, cap1, rfl, hs⟩
  have S5 := Lib.hid hs
  clear hs
  go_wp2_with fail
  refine (S5.out.mark (r := (2, 0)) (c' := { now := [[7, 0], [0, 0, 9]], marks := [[[5, 0], [0, 0, 0]], [[7, 0], [0, 0, 9]]] }) (by rfl) (by rfl)).mono ?_
  rintro e w6 ⟨rfl, hs⟩
  have S6 := Lib.hid hs
  clear hs
  go_wp2_with fail
  refine (S6.out.store 1 0 5 (r := (7, 0)) (c' := { now := [[5, 0], [0, 0, 9]], marks := [[[5, 0], [0, 0, 0]], [[7, 0], [0, 0, 9]]] }) (by rfl) (by rfl)).mono ?_
  rintro e w7 ⟨rfl, hs⟩
  have S7 := Lib.hid hs
  clear hs
  go_wp2_with fail
  refine (S7.out.changes (l := [((0, 0), 7, 5)]) (by rfl)).mono ?_
  rintro e w8 ⟨A2, cap2, rfl, hs⟩
  have S8 := Lib.hid hs
  clear hs
  go_wp2_with fail
  refine (S8.out.keep (r := (1, 0)) (c' := { now := [[5, 0], [0, 0, 9]], marks := [[[5, 0], [0, 0, 0]]] }) (by rfl) (by rfl)).mono ?_
  rintro e w9 ⟨rfl, hs⟩
  have S9 := Lib.hid hs
  clear hs
  go_wp2_with fail
  refine (S9.out.changes (l := [((1, 2), 0, 9)]) (by rfl)).mono ?_
  rintro e w10 ⟨A3, cap3, rfl, hs⟩
  have S10 := Lib.hid hs
  clear hs
  go_wp2_with fail
  refine (S10.out.back (r := (1, 0)) (c' := { now := [[5, 0], [0, 0, 0]], marks := [] }) (by rfl) (by rfl)).mono ?_
  rintro e w11 ⟨rfl, hs⟩
  have S11 := Lib.hid hs
  clear hs
  go_wp2_with fail
  refine (S11.out.load 2 2 (r := (0, 0)) (by rfl)).mono ?_
  rintro e w' ⟨rfl, rfl⟩
  go_wp2_with fail
  refine (S11.out.load 1 0 (r := (5, 0)) (by rfl)).mono ?_
  rintro e w' ⟨rfl, rfl⟩
  go_wp2_with fail
  refine (S11.out.load 1 2 (r := (0, 212)) (by rfl)).mono ?_
  rintro e w' ⟨rfl, rfl⟩
  go_wp2_with fail
  refine (S11.out.load 3 0 (r := (0, 211)) (by rfl)).mono ?_
  rintro e w' ⟨rfl, rfl⟩
  go_wp2_with fail
  refine (S11.out.back (r := (0, 213)) (c' := { now := [[5, 0], [0, 0, 0]], marks := [] }) (by rfl) (by rfl)).mono ?_
  rintro e w12 ⟨rfl, hs⟩
  have S12 := Lib.hid hs
  clear hs
  go_wp2_with fail
  have T12 := S12.out.kept (Kept.alloc _ _ (.cells [.int .i64 1, .int .i64 0, .int .i64 5, .int .i64 7, .int .i64 2, .int .i64 2, .int .i64 0, .int .i64 9].toArray 39))
  refine (same19 (xs := [((0, 0), 5, 7), ((1, 2), 0, 9)]) (own_reads T12.swap.drop.swap.drop.swap.row) (lit_reads _ 39 [.int .i64 1, .int .i64 0, .int .i64 5, .int .i64 7, .int .i64 2, .int .i64 2, .int .i64 0, .int .i64 9]) (by unfold maxLen; decide)).mono ?_
  rintro e w13 ⟨rfl, hk⟩
  have S13 := Lib.hid (T12.kept hk)
  clear hk T12
  go_wp2_with fail
  have T13 := S13.out.kept (Kept.alloc _ _ (.cells [.int .i64 1, .int .i64 0, .int .i64 7, .int .i64 5].toArray 39))
  refine (same19 (xs := [((0, 0), 7, 5)]) (own_reads T13.swap.drop.swap.row) (lit_reads _ 39 [.int .i64 1, .int .i64 0, .int .i64 7, .int .i64 5]) (by unfold maxLen; decide)).mono ?_
  rintro e w14 ⟨rfl, hk⟩
  have S14 := Lib.hid (T13.kept hk)
  clear hk T13
  go_wp2_with fail
  have T14 := S14.out.kept (Kept.alloc _ _ (.cells [.int .i64 2, .int .i64 2, .int .i64 0, .int .i64 9].toArray 39))
  refine (same19 (xs := [((1, 2), 0, 9)]) (own_reads T14.swap.row) (lit_reads _ 39 [.int .i64 2, .int .i64 2, .int .i64 0, .int .i64 9]) (by unfold maxLen; decide)).mono ?_
  rintro e w15 ⟨rfl, hk⟩
  have S15 := Lib.hid (T14.kept hk)
  clear hk T14
  go_wp2
  go_ret
  exact ⟨rfl, S15.out.whole⟩
end Go.Proofs.Ytlfaoibgmbbacaa
