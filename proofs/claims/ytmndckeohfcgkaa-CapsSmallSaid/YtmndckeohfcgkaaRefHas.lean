/- The reference of layer 22: has. -/
import Derived.Test.YtmndckeohfcgkaaRefClose
namespace Go.Proofs.Ytmndckeohfcgkaa
open Go.RowKit
def bitR (m j : Nat) : Bool := m / 2 ^ j % 2 == 1
def bitsTo (m k : Nat) : Array Value := #[.bool (decide (0 < k) && bitR m 0), .bool (decide (1 < k) && bitR m 1), .bool (decide (2 < k) && bitR m 2), .bool (decide (3 < k) && bitR m 3)]
theorem info129 : (Try.prog.info? 129).map (·.size) = some 4 := by kernel_rfl
theorem load129 {w : World} {g : Nat} {e : TypeId} {a b c d : Value} (hb : Blk w g e #[a, b, c, d]) (h1 : a.oneCell' = true) (h2 : b.oneCell' = true) (h3 : c.oneCell' = true) (h4 : d.oneCell' = true) : (loadVar 129 ⟨g, 0, none⟩).run Try.prog w = .ok (.agg #[a, b, c, d]) w :=
  run_loadVar_row w g e 129 #[a, b, c, d] (0, 0) _ hb Try.underlying129 rfl info129
theorem results_c129 {fn : Func} {t u : Tmp} {tmps : Array Value} {w : World} {g : Nat} {e : TypeId} {a b c d : Value} (h : fn.results = #[.cell t 129, .tmp u]) (ht : tmps.getD t undef = .pointer (some ⟨g, 0, none⟩))
    (hb : Blk w g e #[a, b, c, d]) (h1 : a.oneCell' = true) (h2 : b.oneCell' = true) (h3 : c.oneCell' = true) (h4 : d.oneCell' = true) : (results fn tmps).run Try.prog w = .ok (.tuple #[.agg #[a, b, c, d], tmps.getD u undef]) w := by
  have hl := load129 hb h1 h2 h3 h4
  simp only [results, h]
  simp only [Array.getD_eq_getD_getElem?] at ht
  simp [Sem.run_bind, Result.andThen, ht, asAddr, hl]
theorem set4 {W : World} {g : Nat} {t : TypeId} {x0 x1 x2 x3 : Value} (hb : Blk W g t #[x0, x1, x2, x3]) (y0 y1 y2 y3 : Value) :
    Blk ((((W.setCell ⟨g, 0, none⟩ y0).setCell ⟨g, 1, none⟩ y1).setCell ⟨g, 2, none⟩ y2).setCell ⟨g, 3, none⟩ y3) g t #[y0, y1, y2, y3] ∧
    Kept [g] W ((((W.setCell ⟨g, 0, none⟩ y0).setCell ⟨g, 1, none⟩ y1).setCell ⟨g, 2, none⟩ y2).setCell ⟨g, 3, none⟩ y3) :=
  ⟨(((hb.set_ 0 y0).set_ 1 y1).set_ 2 y2).set_ 3 y3, (((Kept.setCell (by simp) _ _).trans' (Kept.setCell (by simp) _ _)).trans' (Kept.setCell (by simp) _ _)).trans' (Kept.setCell (by simp) _ _)⟩
theorem mod_int (d : Nat) : ((d : Int) % 2 == 1) = (d % 2 == 1) := by
  rcases Nat.mod_two_eq_zero_or_one d with h | h
  · have : (d : Int) % 2 = 0 := by omega
    simp [h, this]
  · have : (d : Int) % 2 = 1 := by omega
    simp [h, this]
set_option maxRecDepth 100000 in
set_option maxHeartbeats 1000000 in
theorem RBits_calls (w : World) (m : Nat) (hm : m ≤ 255) :
    Calls Try.prog 86 #[.int .i64 (m : Int)] w fun e w' => e = .returned (.tuple #[.agg (bitsTo m 4), .bool (decide (m ≤ 15))]) ∧ Kept [] w w' := by
  generalize hv : (w.alloc (.cells #[.bool false, .bool false, .bool false, .bool false] 129)) = w1
  generalize hv2 : (w1.alloc (.cells #[.bool false, .bool false, .bool false, .bool false] 129)) = w2
  have HSZ : Hid (w1.heap.size = w.heap.size + 1 ∧ w2.heap.size = w.heap.size + 2) := Lib.hid (by rw [← hv2, ← hv]; simp)
  have hk1 : Kept [] w w1 := by rw [← hv]; exact Kept.alloc _ _ _
  have hk2 : Kept [] w1 w2 := by rw [← hv2]; exact Kept.alloc _ _ _
  have hb1 : Blk w1 w.heap.size 129 #[.bool false, .bool false, .bool false, .bool false] := by rw [← hv]; exact Blk.new _ _ _
  have hb2 : Blk w2 w1.heap.size 129 #[.bool false, .bool false, .bool false, .bool false] := by rw [← hv2]; exact Blk.new _ _ _
  have B1 := Lib.hid (hk2.blk hb1 (by simp))
  have B2 := Lib.hid hb2
  have K2 := Lib.hid (hk1.trans' hk2)
  clear hk1 hk2 hb1 hb2
  go_enter Try.func86, Try.ntmps86
  go_wp2
  clear hv hv2
  go_loopw [0, 5] (fun v i wr => ∃ k : Nat, k ≤ 4 ∧ i = .int .i64 k ∧ v = .int .i64 ((m / 2 ^ k : Nat) : Int) ∧ Blk wr w.heap.size 129 #[.bool false, .bool false, .bool false, .bool false] ∧ Blk wr w1.heap.size 129 (bitsTo m k) ∧ Kept [] w wr) (fun _ i _ => 4 - (intOf i).toNat)
  case atStart => exact ⟨0, by omega, rfl, by simp, B1.out, by simpa [bitsTo] using B2.out, K2.out⟩
  case round =>
    obtain ⟨k, hk, rfl, rfl, hB1, hB2, hK⟩ := hrel
    have hlt : k = 0 ∨ k = 1 ∨ k = 2 ∨ k = 3 ∨ k = 4 := by omega
    have hq : ((m / 2 ^ k : Nat) : Int) ≤ 255 := by
      have := Nat.div_le_self m (2 ^ k)
      omega
    generalize hd : m / 2 ^ k = d at *
    have hbit : bitR m k = (d % 2 == 1) := by unfold bitR; rw [hd]
    have hdd : m / 2 ^ (k + 1) = d / 2 := by rw [Nat.pow_succ, ← Nat.div_div_eq_div_mul, hd]
    have f0 : wr.cell? ⟨w1.heap.size, 0, none⟩ = some (.bool (decide (0 < k) && bitR m 0)) := hB2.cell 0
    have f1 : wr.cell? ⟨w1.heap.size, 1, none⟩ = some (.bool (decide (1 < k) && bitR m 1)) := hB2.cell 1
    have f2 : wr.cell? ⟨w1.heap.size, 2, none⟩ = some (.bool (decide (2 < k) && bitR m 2)) := hB2.cell 2
    have f3 : wr.cell? ⟨w1.heap.size, 3, none⟩ = some (.bool (decide (3 < k) && bitR m 3)) := hB2.cell 3
    have z := hB2.frozen
    have X1 := Lib.hid hB1
    have X2 := Lib.hid hB2
    have X3 := Lib.hid hK
    have HBIT := Lib.hid hbit
    have HDD := Lib.hid hdd
    have HD := Lib.hid hd
    clear hB1 hB2 hK hbit hdd hd
    rcases hlt with rfl | rfl | rfl | rfl | rfl
    · go_wp2
      go_roundw
      case rel =>
        have hm : w1.heap.size ∈ [w1.heap.size] := by simp
        have ks : Kept [w1.heap.size] wr (wr.setCell ⟨w1.heap.size, 0, none⟩ (.bool ((d : Int) % 2 == 1))) := Kept.setCell hm _ _
        have hb := X2.out.set_ 0 (.bool ((d : Int) % 2 == 1))
        have hbi : ((d : Int) % 2 == 1) = bitR m 0 := (mod_int d).trans HBIT.out.symm
        refine ⟨1, by omega, rfl, ?_, ks.blk X1.out (by have := HSZ.out; simp; omega), ?_, X3.out.trans ks (fun b hb => .inr (by have := HSZ.out; simp at hb; omega))⟩
        · rw [show m / 2 ^ 1 = d / 2 from HDD.out]; simp
        · rw [hbi] at hb ⊢
          simpa [bitsTo] using hb
      case measure => simp [intOf]
    · go_wp2
      go_roundw
      case rel =>
        have hm : w1.heap.size ∈ [w1.heap.size] := by simp
        have ks : Kept [w1.heap.size] wr (wr.setCell ⟨w1.heap.size, 1, none⟩ (.bool ((d : Int) % 2 == 1))) := Kept.setCell hm _ _
        have hb := X2.out.set_ 1 (.bool ((d : Int) % 2 == 1))
        have hbi : ((d : Int) % 2 == 1) = bitR m 1 := (mod_int d).trans HBIT.out.symm
        refine ⟨2, by omega, rfl, ?_, ks.blk X1.out (by have := HSZ.out; simp; omega), ?_, X3.out.trans ks (fun b hb => .inr (by have := HSZ.out; simp at hb; omega))⟩
        · rw [show m / 2 ^ 2 = d / 2 from HDD.out]; simp
        · rw [hbi] at hb ⊢
          simpa [bitsTo] using hb
      case measure => simp [intOf]
    · go_wp2
      go_roundw
      case rel =>
        have hm : w1.heap.size ∈ [w1.heap.size] := by simp
        have ks : Kept [w1.heap.size] wr (wr.setCell ⟨w1.heap.size, 2, none⟩ (.bool ((d : Int) % 2 == 1))) := Kept.setCell hm _ _
        have hb := X2.out.set_ 2 (.bool ((d : Int) % 2 == 1))
        have hbi : ((d : Int) % 2 == 1) = bitR m 2 := (mod_int d).trans HBIT.out.symm
        refine ⟨3, by omega, rfl, ?_, ks.blk X1.out (by have := HSZ.out; simp; omega), ?_, X3.out.trans ks (fun b hb => .inr (by have := HSZ.out; simp at hb; omega))⟩
        · rw [show m / 2 ^ 3 = d / 2 from HDD.out]; simp
        · rw [hbi] at hb ⊢
          simpa [bitsTo] using hb
      case measure => simp [intOf]
    · go_wp2
      go_roundw
      case rel =>
        have hm : w1.heap.size ∈ [w1.heap.size] := by simp
        have ks : Kept [w1.heap.size] wr (wr.setCell ⟨w1.heap.size, 3, none⟩ (.bool ((d : Int) % 2 == 1))) := Kept.setCell hm _ _
        have hb := X2.out.set_ 3 (.bool ((d : Int) % 2 == 1))
        have hbi : ((d : Int) % 2 == 1) = bitR m 3 := (mod_int d).trans HBIT.out.symm
        refine ⟨4, by omega, rfl, ?_, ks.blk X1.out (by have := HSZ.out; simp; omega), ?_, X3.out.trans ks (fun b hb => .inr (by have := HSZ.out; simp at hb; omega))⟩
        · rw [show m / 2 ^ 4 = d / 2 from HDD.out]; simp
        · rw [hbi] at hb ⊢
          simpa [bitsTo] using hb
      case measure => simp [intOf]
    · have e0 : wr.cell? ⟨w.heap.size, 0, none⟩ = some (.bool false) := X1.out.cell 0
      have e1 : wr.cell? ⟨w.heap.size, 1, none⟩ = some (.bool false) := X1.out.cell 1
      have e2 : wr.cell? ⟨w.heap.size, 2, none⟩ = some (.bool false) := X1.out.cell 2
      have e3 : wr.cell? ⟨w.heap.size, 3, none⟩ = some (.bool false) := X1.out.cell 3
      have z1 := X1.out.frozen
      have hd0 : ((d : Int) == 0) = decide (m ≤ 15) := by
        have hdd := HD.out
        by_cases h : m ≤ 15
        · have h0 : d = 0 := by rw [← hdd]; exact Nat.div_eq_of_lt (by omega)
          simp [h, h0]
        · have h2 : 1 ≤ m / 2 ^ 4 := (Nat.le_div_iff_mul_le (by decide)).2 (by omega)
          have h3 : ¬ d = 0 := by omega
          simp [h, h3]
      go_wp2
      obtain ⟨q1, q2⟩ := set4 X1.out (.bool (bitR m 0)) (.bool (bitR m 1)) (.bool (bitR m 2)) (.bool (bitR m 3))
      refine bodyPost_ret (results_c129 rfl rfl q1 rfl rfl rfl rfl) rfl ?_
      exact ⟨rfl, X3.out.trans q2 (fun b hb => .inr (by simp at hb; omega))⟩
end Go.Proofs.Ytmndckeohfcgkaa
