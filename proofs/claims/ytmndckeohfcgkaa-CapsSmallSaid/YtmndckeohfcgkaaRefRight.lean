/- The reference of layer 22: Right, Below. -/
import Derived.Test.YtmndckeohfcgkaaRefHas
namespace Go.Proofs.Ytmndckeohfcgkaa
open Go.RowKit
set_option maxRecDepth 100000 in
theorem RRight_calls (w : World) (m : Nat) (hm : m ≤ 255) :
    Calls Try.prog 63 #[.int .i64 (m : Int)] w fun e w' => e = .returned (.bool (decide (m ≤ 15))) ∧ Kept [] w w' := by
  have H := Lib.hid (RBits_calls w m hm)
  have hm0 : ¬ (m : Int) < 0 := by omega
  generalize decide (m ≤ 15) = ok at *
  unfold bitsTo at H
  go_enter Try.func63, Try.ntmps63
  go_wp2_with fail
  refine H.out.mono ?_
  rintro e w1 ⟨rfl, hk⟩
  have X := Lib.hid hk
  have hm1 : (0 : Int) ≤ m := by omega
  have hm2 : decide ((0 : Int) ≤ m) = true := decide_eq_true hm1
  clear hk H
  cases ok with
  | true =>
    go_wp2
    go_ret
    exact ⟨rfl, X.out.trans' (Kept.alloc _ _ _)⟩
  | false =>
    go_wp2
    go_ret
    exact ⟨rfl, X.out.trans' (Kept.alloc _ _ _)⟩
def impR (m o j : Nat) : Bool := !bitR m j || bitR o j
def allImp (m o k : Nat) : Bool := (List.range k).all (impR m o)
theorem allImp_succ (m o k : Nat) : allImp m o (k + 1) = (allImp m o k && impR m o k) := by
  unfold allImp
  rw [List.range_succ, List.all_append]
  simp
theorem allImp_no {m o k : Nat} (hk : k < 4) (h : impR m o k = false) : allImp m o 4 = false := by
  unfold allImp
  rw [List.all_eq_false]
  exact ⟨k, List.mem_range.2 hk, by simp [h]⟩
theorem sub_bits : ∀ m < 16, ∀ o < 16, sub m o = allImp m o 4 := by decide
set_option maxRecDepth 100000 in
set_option maxHeartbeats 1000000 in
theorem RBelowB_calls (w : World) (m o : Nat) (hm : m ≤ 255) (ho : o ≤ 255) :
    Calls Try.prog 87 #[.int .i64 (m : Int), .int .i64 (o : Int)] w fun e w' => e = .returned (.bool (belowB m o)) ∧ Kept [] w w' := by
  have H1 := Lib.hid (RBits_calls w m hm)
  have H2 : Hid (∀ W, Calls Try.prog 86 #[.int .i64 (o : Int)] W fun e w' => e = .returned (.tuple #[.agg (bitsTo o 4), .bool (decide (o ≤ 15))]) ∧ Kept [] W w') := Lib.hid fun W => RBits_calls W o ho
  have hbb : belowB m o = if m ≤ 15 then (if o ≤ 15 then allImp m o 4 else false) else false := by
    unfold belowB
    by_cases h1 : m ≤ 15
    · by_cases h2 : o ≤ 15
      · simp [h1, h2, sub_bits m (by omega) o (by omega)]
      · simp [h1, h2]
    · simp [h1]
  generalize hr : belowB m o = r at *
  have HR := Lib.hid hbb
  have e1 : bitsTo m 4 = #[.bool (bitR m 0), .bool (bitR m 1), .bool (bitR m 2), .bool (bitR m 3)] := by simp [bitsTo]
  have e2 : bitsTo o 4 = #[.bool (bitR o 0), .bool (bitR o 1), .bool (bitR o 2), .bool (bitR o 3)] := by simp [bitsTo]
  rw [e1] at H1
  rw [e2] at H2
  clear hbb e1 e2 hr
  go_enter Try.func87, Try.ntmps87
  go_wp2_with fail
  refine H1.out.mono ?_
  rintro e w1 ⟨rfl, hk⟩
  have s1 := ((St.nil w).kept hk).alloc 129 #[.bool (bitR m 0), .bool (bitR m 1), .bool (bitR m 2), .bool (bitR m 3)]
  have S1 := Lib.hid s1
  clear hk s1 H1
  have H3 := Lib.hid (H2.out (w1.alloc (.cells #[.bool (bitR m 0), .bool (bitR m 1), .bool (bitR m 2), .bool (bitR m 3)] 129)))
  go_wp2_with fail
  refine H3.out.mono ?_
  rintro e w2 ⟨rfl, hk⟩
  have s2 := (S1.out.kept hk).alloc 129 #[.bool (bitR o 0), .bool (bitR o 1), .bool (bitR o 2), .bool (bitR o 3)]
  have f0 : (w2.alloc (.cells #[.bool (bitR o 0), .bool (bitR o 1), .bool (bitR o 2), .bool (bitR o 3)] 129)).cell? ⟨w1.heap.size, 0, none⟩ = some (.bool (bitR m 0)) := s2.blk1.cell 0
  have f1 : (w2.alloc (.cells #[.bool (bitR o 0), .bool (bitR o 1), .bool (bitR o 2), .bool (bitR o 3)] 129)).cell? ⟨w1.heap.size, 1, none⟩ = some (.bool (bitR m 1)) := s2.blk1.cell 1
  have f2 : (w2.alloc (.cells #[.bool (bitR o 0), .bool (bitR o 1), .bool (bitR o 2), .bool (bitR o 3)] 129)).cell? ⟨w1.heap.size, 2, none⟩ = some (.bool (bitR m 2)) := s2.blk1.cell 2
  have f3 : (w2.alloc (.cells #[.bool (bitR o 0), .bool (bitR o 1), .bool (bitR o 2), .bool (bitR o 3)] 129)).cell? ⟨w1.heap.size, 3, none⟩ = some (.bool (bitR m 3)) := s2.blk1.cell 3
  have g0 : (w2.alloc (.cells #[.bool (bitR o 0), .bool (bitR o 1), .bool (bitR o 2), .bool (bitR o 3)] 129)).cell? ⟨w2.heap.size, 0, none⟩ = some (.bool (bitR o 0)) := s2.blk0.cell 0
  have g1 : (w2.alloc (.cells #[.bool (bitR o 0), .bool (bitR o 1), .bool (bitR o 2), .bool (bitR o 3)] 129)).cell? ⟨w2.heap.size, 1, none⟩ = some (.bool (bitR o 1)) := s2.blk0.cell 1
  have g2 : (w2.alloc (.cells #[.bool (bitR o 0), .bool (bitR o 1), .bool (bitR o 2), .bool (bitR o 3)] 129)).cell? ⟨w2.heap.size, 2, none⟩ = some (.bool (bitR o 2)) := s2.blk0.cell 2
  have g3 : (w2.alloc (.cells #[.bool (bitR o 0), .bool (bitR o 1), .bool (bitR o 2), .bool (bitR o 3)] 129)).cell? ⟨w2.heap.size, 3, none⟩ = some (.bool (bitR o 3)) := s2.blk0.cell 3
  have S2 := Lib.hid s2
  clear hk s2 H3 H2
  generalize hw3 : w2.alloc (.cells #[.bool (bitR o 0), .bool (bitR o 1), .bool (bitR o 2), .bool (bitR o 3)] 129) = w3 at *
  by_cases h1 : m ≤ 15
  · by_cases h2 : o ≤ 15
    · have HR2 : Hid (r = allImp m o 4) := Lib.hid (by rw [HR.out, if_pos h1, if_pos h2])
      go_wp2
      clear hw3
      go_loopw [9] (fun i wr => ∃ k : Nat, k ≤ 4 ∧ i = .int .i64 k ∧ allImp m o k = true ∧ wr = w3) (fun i _ => 4 - (intOf i).toNat)
      case atStart => exact ⟨0, by omega, rfl, rfl, rfl⟩
      case round =>
        obtain ⟨k, hk, rfl, hI, rfl⟩ := hrel
        have hlt : k = 0 ∨ k = 1 ∨ k = 2 ∨ k = 3 ∨ k = 4 := by omega
        have HI := Lib.hid hI
        clear hI
        rcases hlt with rfl | rfl | rfl | rfl | rfl
        · cases hb1 : bitR m 0 with
          | false =>
            rw [hb1] at f0
            have hi : allImp m o (0 + 1) = true := by rw [allImp_succ, HI.out]; simp [impR, hb1]
            have HJ := Lib.hid hi
            clear hi
            go_wp2
            go_roundw
            case rel => exact ⟨0 + 1, by omega, rfl, HJ.out, trivial⟩
            case measure => simp [intOf]
          | true =>
            rw [hb1] at f0
            cases hb2 : bitR o 0 with
            | true =>
              rw [hb2] at g0
              have hi : allImp m o (0 + 1) = true := by rw [allImp_succ, HI.out]; simp [impR, hb2]
              have HJ := Lib.hid hi
              clear hi
              go_wp2
              go_roundw
              case rel => exact ⟨0 + 1, by omega, rfl, HJ.out, trivial⟩
              case measure => simp [intOf]
            | false =>
              rw [hb2] at g0
              have hi : allImp m o 4 = false := allImp_no (k := 0) (by omega) (by simp [impR, hb1, hb2])
              have HJ := Lib.hid hi
              clear hi
              go_wp2
              go_ret
              exact ⟨by rw [HR2.out, HJ.out]; rfl, S2.out.whole⟩
        · cases hb1 : bitR m 1 with
          | false =>
            rw [hb1] at f1
            have hi : allImp m o (1 + 1) = true := by rw [allImp_succ, HI.out]; simp [impR, hb1]
            have HJ := Lib.hid hi
            clear hi
            go_wp2
            go_roundw
            case rel => exact ⟨1 + 1, by omega, rfl, HJ.out, trivial⟩
            case measure => simp [intOf]
          | true =>
            rw [hb1] at f1
            cases hb2 : bitR o 1 with
            | true =>
              rw [hb2] at g1
              have hi : allImp m o (1 + 1) = true := by rw [allImp_succ, HI.out]; simp [impR, hb2]
              have HJ := Lib.hid hi
              clear hi
              go_wp2
              go_roundw
              case rel => exact ⟨1 + 1, by omega, rfl, HJ.out, trivial⟩
              case measure => simp [intOf]
            | false =>
              rw [hb2] at g1
              have hi : allImp m o 4 = false := allImp_no (k := 1) (by omega) (by simp [impR, hb1, hb2])
              have HJ := Lib.hid hi
              clear hi
              go_wp2
              go_ret
              exact ⟨by rw [HR2.out, HJ.out]; rfl, S2.out.whole⟩
        · cases hb1 : bitR m 2 with
          | false =>
            rw [hb1] at f2
            have hi : allImp m o (2 + 1) = true := by rw [allImp_succ, HI.out]; simp [impR, hb1]
            have HJ := Lib.hid hi
            clear hi
            go_wp2
            go_roundw
            case rel => exact ⟨2 + 1, by omega, rfl, HJ.out, trivial⟩
            case measure => simp [intOf]
          | true =>
            rw [hb1] at f2
            cases hb2 : bitR o 2 with
            | true =>
              rw [hb2] at g2
              have hi : allImp m o (2 + 1) = true := by rw [allImp_succ, HI.out]; simp [impR, hb2]
              have HJ := Lib.hid hi
              clear hi
              go_wp2
              go_roundw
              case rel => exact ⟨2 + 1, by omega, rfl, HJ.out, trivial⟩
              case measure => simp [intOf]
            | false =>
              rw [hb2] at g2
              have hi : allImp m o 4 = false := allImp_no (k := 2) (by omega) (by simp [impR, hb1, hb2])
              have HJ := Lib.hid hi
              clear hi
              go_wp2
              go_ret
              exact ⟨by rw [HR2.out, HJ.out]; rfl, S2.out.whole⟩
        · cases hb1 : bitR m 3 with
          | false =>
            rw [hb1] at f3
            have hi : allImp m o (3 + 1) = true := by rw [allImp_succ, HI.out]; simp [impR, hb1]
            have HJ := Lib.hid hi
            clear hi
            go_wp2
            go_roundw
            case rel => exact ⟨3 + 1, by omega, rfl, HJ.out, trivial⟩
            case measure => simp [intOf]
          | true =>
            rw [hb1] at f3
            cases hb2 : bitR o 3 with
            | true =>
              rw [hb2] at g3
              have hi : allImp m o (3 + 1) = true := by rw [allImp_succ, HI.out]; simp [impR, hb2]
              have HJ := Lib.hid hi
              clear hi
              go_wp2
              go_roundw
              case rel => exact ⟨3 + 1, by omega, rfl, HJ.out, trivial⟩
              case measure => simp [intOf]
            | false =>
              rw [hb2] at g3
              have hi : allImp m o 4 = false := allImp_no (k := 3) (by omega) (by simp [impR, hb1, hb2])
              have HJ := Lib.hid hi
              clear hi
              go_wp2
              go_ret
              exact ⟨by rw [HR2.out, HJ.out]; rfl, S2.out.whole⟩
        · go_wp2
          go_ret
          exact ⟨by rw [HR2.out, HI.out]; rfl, S2.out.whole⟩
    · have HR2 : Hid (r = false) := Lib.hid (by rw [HR.out, if_pos h1, if_neg h2])
      go_wp2
      go_ret
      exact ⟨by rw [HR2.out]; rfl, S2.out.whole⟩
  · have HR2 : Hid (r = false) := Lib.hid (by rw [HR.out, if_neg h1])
    go_wp2
    go_ret
    exact ⟨by rw [HR2.out]; rfl, S2.out.whole⟩
end Go.Proofs.Ytmndckeohfcgkaa
