/- The walk of CellsSmall. -/
import Derived.Test.YtlfaoibgmbbacaaNils
import Derived.Test.YtlfaoibgmbbacaaPlans
import Derived.Test.YtlfaoibgmbbacaaActs
import Derived.StillTailTactics
import Derived.Deep.RegionHeld3
import Derived.Deep.CutRange
import Derived.Deep.CutBlock
namespace Go.Proofs.Ytlfaoibgmbbacaa
open Go.RowKit
def some8 : List AC := [⟨0, 1, 0, 1⟩, ⟨0, 1, 0, 0⟩, ⟨0, 2, 0, 1⟩, ⟨4, 0, 0, 0⟩, ⟨5, 0, 0, 0⟩, ⟨6, 0, 0, 0⟩, ⟨0, 2, 0, -1⟩, ⟨7, 2, 0, 0⟩]
theorem some8_ok : ∀ x ∈ some8, x.ok := by unfold some8 AC.ok; decide
theorem some_cell {wr : World} {g i : Nat} {x : AC} (h : Blk wr g 59 (flatA some8).toArray) (hx : some8[i]? = some x) :
    wr.cell? ⟨g, i * 4, none⟩ = some (.int .u8 (x.kind : Int)) ∧ wr.cell? ⟨g, i * 4 + 1, none⟩ = some (.int .i64 x.owner) ∧ wr.cell? ⟨g, i * 4 + 2, none⟩ = some (.int .i64 x.index) ∧ wr.cell? ⟨g, i * 4 + 3, none⟩ = some (.int .i64 x.value) := by
  have key : ∀ j u, j < 4 → (acV x)[j]? = some u → wr.cell? ⟨g, i * 4 + j, none⟩ = some u := fun j u hj hu => by
    rw [h.cell, List.getElem?_toArray]
    exact flatA_get hx hj hu
  exact ⟨key 0 _ (by omega) rfl, key 1 _ (by omega) rfl, key 2 _ (by omega) rfl, key 3 _ (by omega) rfl⟩
def numbers : List Int := [-9223372036854775808, -1, 0, 1, 2, 3, 4, 9223372036854775807]
theorem flatA_two (l k : List AC) : flatA (l ++ k) = flatA l ++ flatA k := by simp [flatA]
theorem flatA_one (l : List AC) : ∀ u ∈ flatA l, u.oneCell' = true := by
  intro u hu
  simp only [flatA, acV, List.mem_flatMap, List.mem_cons, List.not_mem_nil, or_false] at hu
  obtain ⟨x, _, rfl | rfl | rfl | rfl⟩ := hu <;> rfl
theorem info59 : (Try.prog.info? 59).map (fun i => (i.zero, i.size, i.bytes)) = some (some (.agg #[.int .u8 0, .int .i64 0, .int .i64 0, .int .i64 0]), 4, 32) := by kernel_rfl
theorem add_at (b o j : Nat) : (⟨b, o, none⟩ : Addr).add j = ⟨b, o + j, none⟩ := by unfold Addr.add; split <;> simp_all
theorem blk_cells {w : World} {g : Nat} {t : TypeId} {cs : List Value} (h : Blk w g t cs.toArray) : ∀ j u, cs[j]? = some u → w.cell? ((⟨g, 0, none⟩ : Addr).add j) = some u := by
  intro j u hj
  rw [add_at, h.cell, Nat.zero_add, List.getElem?_toArray, hj]
theorem two_ok (n m : Int) : ∀ x ∈ ([⟨0, n, m, n⟩, ⟨7, n, m, 0⟩] : List AC), x.ok := by
  intro x hx
  simp only [List.mem_cons, List.not_mem_nil, or_false] at hx
  rcases hx with rfl | rfl <;> (unfold AC.ok; simp)
theorem St.litRow {w0 w : World} {rs : List Res} (h : St w0 w rs) (e : TypeId) (size n : Nat) (hs : 0 < size) (hn : n ≤ maxLen) (cs : List Value) (hl : cs.length = n * size) : St w0 (w.alloc (.cells cs.toArray e)) (.row (.slice (some ⟨w.heap.size, 0, none⟩) n n) e size n cs :: rs) :=
  h.new (R := .row _ _ _ _ _) (Kept.alloc _ _ _) (row_on (base := 0) ⟨hl, .inr ⟨w.heap.size, n, cs.toArray, rfl, Nat.zero_le _, Blk.new _ _ _, Nat.le_refl _, hn, by simpa using hl, by rw [List.take_of_length_le (by simpa using Nat.le_of_eq hl)]⟩⟩) (by simp [Value.ownBlock])
theorem St.rowNil {w0 w : World} {rs : List Res} (h : St w0 w rs) (e : TypeId) (size : Nat) : St w0 w (.row (.slice none 0 0) e size 0 [] :: rs) :=
  h.new (R := .row _ _ _ _ _) (Kept.refl _ _) (row_on (base := 0) (World.ownsRow_nil _ _ _ _)) (by simp [Value.ownBlock])
theorem halves {w : World} {A : Option Addr} {cap : Nat} {lst : List AC} (h : w.ownsRow 0 59 4 (.slice A lst.length cap) lst.length (flatA lst)) (hl : lst.length = 128) :
    ∃ b cap', Value.slice A lst.length cap = .slice (some ⟨b, 0, none⟩) lst.length cap' ∧ 128 ≤ cap' ∧ Reads w (some ⟨b, 0, none⟩) (flatA (lst.take 64)) ∧ Reads w (some ⟨b, 256, none⟩) (flatA (lst.drop 64)) ∧ Reads w (some ⟨b, 0, none⟩) (flatA (lst.take 70)) := by
  rcases h.2 with ⟨_, h0⟩ | ⟨b, cap', cur, hv, _, _, hcap, _⟩
  · omega
  refine ⟨b, cap', hv, by omega, ?_⟩
  have hr := own_reads h
  have hc : ∀ j u, (flatA lst)[j]? = some u → w.cell? ⟨b, j, none⟩ = some u := by
    intro j u hj
    rcases hr with h0 | ⟨b2, off, e1, hc⟩
    · rw [h0] at hj; simp at hj
    · simp only [Value.slice.injEq] at hv
      rw [hv.1] at e1
      simp only [Option.some.injEq, Addr.mk.injEq] at e1
      obtain ⟨rfl, rfl, _⟩ := e1
      have := hc j u hj
      rwa [Nat.zero_add] at this
  have pre : ∀ n, Reads w (some ⟨b, 0, none⟩) (flatA (lst.take n)) := fun n => .inr ⟨b, 0, rfl, fun j u hj => by
    rw [Nat.zero_add]
    refine hc j u ?_
    rw [← List.take_append_drop n lst, flatA_two, List.getElem?_append_left (by have := List.getElem?_eq_some_iff.1 hj; exact this.1)]
    exact hj⟩
  refine ⟨pre 64, .inr ⟨b, 256, rfl, fun j u hj => ?_⟩, pre 70⟩
  refine hc _ u ?_
  rw [← List.take_append_drop 64 lst, flatA_two, List.getElem?_append_right (by rw [flatA_len]; simp; omega), flatA_len]
  rw [show 256 + j - (lst.take 64).length * 4 = j by simp; omega]
  exact hj
def noA : AC := ⟨0, 0, 0, 0⟩
def markA : AC := ⟨4, 0, 0, 0⟩
theorem make65 (W : World) : (Instr.makeSlice 56 (.int .i64 65) (.int .i64 65)).run Try.prog W =
    .ok (.slice (some ⟨W.heap.size, 0, none⟩) 65 65) (W.alloc (.cells (flatA (List.replicate 65 noA)).toArray 59)) := by
  obtain ⟨i0, hi, hz0, hz1, hz2⟩ := info_parts info59
  have := run_makeSlice (P := Try.prog) W 56 59 i0 (.agg #[.int .u8 0, .int .i64 0, .int .i64 0, .int .i64 0]) Try.underlying56 hi hz0 .i64 .i64 65 65 (by omega) (by omega) (by rw [hz1]; decide) (by rw [hz2]; decide) (by omega)
  rw [hz1] at this
  refine this.trans ?_
  have e : madeCells (Value.agg #[.int .u8 0, .int .i64 0, .int .i64 0, .int .i64 0]).cells (Int.toNat 65 * 4) = (flatA (List.replicate 65 noA)).toArray := by kernel_rfl
  rw [e]
  rfl
theorem flatA_set : ∀ (l : List AC) (k : Nat), ((((flatA l).set (k * 4) (.int .u8 4)).set (k * 4 + 1) (.int .i64 0)).set (k * 4 + 2) (.int .i64 0)).set (k * 4 + 3) (.int .i64 0) = flatA (l.set k markA)
  | [], k => by simp [flatA]
  | x :: l, 0 => by simp [flatA, acV, markA]
  | x :: l, k + 1 => by
    have := flatA_set l k
    simp only [flatA, List.set_cons_succ, List.flatMap_cons] at this ⊢
    rw [← this, show (k + 1) * 4 = k * 4 + 4 by omega]
    simp [acV, List.set]
theorem three_ok : ∀ x ∈ ([⟨5, 0, 0, 0⟩, markA, markA] : List AC), x.ok := by unfold AC.ok markA; decide
theorem fifteen : ∀ (us : List Value), us.length = 15 → ∃ q0 q1 q2 q3 q4 q5 q6 q7 q8 q9 q10 q11 q12 q13 q14 : Value, us = [q0, q1, q2, q3, q4, q5, q6, q7, q8, q9, q10, q11, q12, q13, q14]
  | [q0, q1, q2, q3, q4, q5, q6, q7, q8, q9, q10, q11, q12, q13, q14], _ => ⟨q0, q1, q2, q3, q4, q5, q6, q7, q8, q9, q10, q11, q12, q13, q14, rfl⟩
set_option maxRecDepth 100000 in
set_option maxHeartbeats 8000000 in
theorem cellsSmall_calls (w : World) : Calls Try.prog 8 #[] w fun e w' => e = .returned (.bool true) ∧ Kept [] w w' := by
  have hx : Hid (St w (w.alloc (.cells #[.int .u8 0, .int .i64 1, .int .i64 0, .int .i64 1, .int .u8 0, .int .i64 1, .int .i64 0, .int .i64 0, .int .u8 0, .int .i64 2, .int .i64 0, .int .i64 1, .int .u8 4, .int .i64 0, .int .i64 0, .int .i64 0, .int .u8 5, .int .i64 0, .int .i64 0, .int .i64 0, .int .u8 6, .int .i64 0, .int .i64 0, .int .i64 0, .int .u8 0, .int .i64 2, .int .i64 0, .int .i64 (-1), .int .u8 7, .int .i64 2, .int .i64 0, .int .i64 0] 59)) [.blk w.heap.size 59 #[.int .u8 0, .int .i64 1, .int .i64 0, .int .i64 1, .int .u8 0, .int .i64 1, .int .i64 0, .int .i64 0, .int .u8 0, .int .i64 2, .int .i64 0, .int .i64 1, .int .u8 4, .int .i64 0, .int .i64 0, .int .i64 0, .int .u8 5, .int .i64 0, .int .i64 0, .int .i64 0, .int .u8 6, .int .i64 0, .int .i64 0, .int .i64 0, .int .u8 0, .int .i64 2, .int .i64 0, .int .i64 (-1), .int .u8 7, .int .i64 2, .int .i64 0, .int .i64 0]]) := Lib.hid ((St.nil w).blkNew 59 #[.int .u8 0, .int .i64 1, .int .i64 0, .int .i64 1, .int .u8 0, .int .i64 1, .int .i64 0, .int .i64 0, .int .u8 0, .int .i64 2, .int .i64 0, .int .i64 1, .int .u8 4, .int .i64 0, .int .i64 0, .int .i64 0, .int .u8 5, .int .i64 0, .int .i64 0, .int .i64 0, .int .u8 6, .int .i64 0, .int .i64 0, .int .i64 0, .int .u8 0, .int .i64 2, .int .i64 0, .int .i64 (-1), .int .u8 7, .int .i64 2, .int .i64 0, .int .i64 0])
  go_enter Try.func8, Try.ntmps8
  go_upto_region 2 with fail
  generalize w.alloc (.cells #[.int .u8 0, .int .i64 1, .int .i64 0, .int .i64 1, .int .u8 0, .int .i64 1, .int .i64 0, .int .i64 0, .int .u8 0, .int .i64 2, .int .i64 0, .int .i64 1, .int .u8 4, .int .i64 0, .int .i64 0, .int .i64 0, .int .u8 5, .int .i64 0, .int .i64 0, .int .i64 0, .int .u8 6, .int .i64 0, .int .i64 0, .int .i64 0, .int .u8 0, .int .i64 2, .int .i64 0, .int .i64 (-1), .int .u8 7, .int .i64 2, .int .i64 0, .int .i64 0] 59) = w1 at *
  have S1 : Hid (St w w1 [.blk w.heap.size 59 (flatA some8).toArray]) := hx
  clear hx
  generalize w.heap.size = g at *
  go_upto_block 0 with fail
  go_cut [] from 41 to 76 (fun wx => St w wx [])
  case first =>
    go_wp2_with fail
    go_loopw [2] (fun i wr => ∃ (k : Nat), k ≤ 32770 ∧ i = .int .i64 k ∧ St w wr [.blk g 59 (flatA some8).toArray]) (fun i _ => 32770 - (intOf i).toNat)
    case atStart => exact ⟨0, by omega, rfl, S1.out⟩
    case round =>
      obtain ⟨k, hk, rfl, hS⟩ := hrel
      by_cases hlt : k < 32768
      · have hlt' : (k : Int) < 32768 := by omega
        obtain ⟨i1, e1, b1⟩ : ∃ i1 : Nat, (k : Int).tmod 8 = (i1 : Int) ∧ i1 < 8 := ⟨k % 8, by rw [Int.tmod_eq_emod_of_nonneg (by omega)]; omega, by omega⟩
        obtain ⟨d2, q2, r2⟩ : ∃ d2 : Nat, (k : Int).tdiv 8 = (d2 : Int) ∧ IntKind.i64.wrap (d2 : Int) = (d2 : Int) := ⟨k / 8, by rw [Int.tdiv_eq_ediv_of_nonneg (by omega)]; omega, IntWalk.i64_in _ (by omega)⟩
        obtain ⟨i2, e2, b2⟩ : ∃ i2 : Nat, (d2 : Int).tmod 8 = (i2 : Int) ∧ i2 < 8 := ⟨d2 % 8, by rw [Int.tmod_eq_emod_of_nonneg (by omega)]; omega, by omega⟩
        obtain ⟨d3, q3, r3⟩ : ∃ d3 : Nat, (k : Int).tdiv 64 = (d3 : Int) ∧ IntKind.i64.wrap (d3 : Int) = (d3 : Int) := ⟨k / 64, by rw [Int.tdiv_eq_ediv_of_nonneg (by omega)]; omega, IntWalk.i64_in _ (by omega)⟩
        obtain ⟨i3, e3, b3⟩ : ∃ i3 : Nat, (d3 : Int).tmod 8 = (i3 : Int) ∧ i3 < 8 := ⟨d3 % 8, by rw [Int.tmod_eq_emod_of_nonneg (by omega)]; omega, by omega⟩
        obtain ⟨d4, q4, r4⟩ : ∃ d4 : Nat, (k : Int).tdiv 512 = (d4 : Int) ∧ IntKind.i64.wrap (d4 : Int) = (d4 : Int) := ⟨k / 512, by rw [Int.tdiv_eq_ediv_of_nonneg (by omega)]; omega, IntWalk.i64_in _ (by omega)⟩
        obtain ⟨i4, e4, b4⟩ : ∃ i4 : Nat, (d4 : Int).tmod 8 = (i4 : Int) ∧ i4 < 8 := ⟨d4 % 8, by rw [Int.tmod_eq_emod_of_nonneg (by omega)]; omega, by omega⟩
        obtain ⟨i5, e5, b5, r5⟩ : ∃ i5 : Nat, (k : Int).tdiv 4096 = (i5 : Int) ∧ i5 < 8 ∧ IntKind.i64.wrap (i5 : Int) = (i5 : Int) := ⟨k / 4096, by rw [Int.tdiv_eq_ediv_of_nonneg (by omega)]; omega, by omega, IntWalk.i64_in _ (by omega)⟩
        obtain ⟨x1, hx1⟩ : ∃ x, some8[i1]? = some x := ⟨_, List.getElem?_eq_getElem (by simp only [some8, List.length_cons, List.length_nil]; omega)⟩
        obtain ⟨c10, c11, c12, c13⟩ := some_cell hS.blk0 hx1
        have O1 := Lib.hid (some8_ok _ (List.mem_of_getElem? hx1))
        obtain ⟨x2, hx2⟩ : ∃ x, some8[i2]? = some x := ⟨_, List.getElem?_eq_getElem (by simp only [some8, List.length_cons, List.length_nil]; omega)⟩
        obtain ⟨c20, c21, c22, c23⟩ := some_cell hS.blk0 hx2
        have O2 := Lib.hid (some8_ok _ (List.mem_of_getElem? hx2))
        obtain ⟨x3, hx3⟩ : ∃ x, some8[i3]? = some x := ⟨_, List.getElem?_eq_getElem (by simp only [some8, List.length_cons, List.length_nil]; omega)⟩
        obtain ⟨c30, c31, c32, c33⟩ := some_cell hS.blk0 hx3
        have O3 := Lib.hid (some8_ok _ (List.mem_of_getElem? hx3))
        obtain ⟨x4, hx4⟩ : ∃ x, some8[i4]? = some x := ⟨_, List.getElem?_eq_getElem (by simp only [some8, List.length_cons, List.length_nil]; omega)⟩
        obtain ⟨c40, c41, c42, c43⟩ := some_cell hS.blk0 hx4
        have O4 := Lib.hid (some8_ok _ (List.mem_of_getElem? hx4))
        obtain ⟨x5, hx5⟩ : ∃ x, some8[i5]? = some x := ⟨_, List.getElem?_eq_getElem (by simp only [some8, List.length_cons, List.length_nil]; omega)⟩
        obtain ⟨c50, c51, c52, c53⟩ := some_cell hS.blk0 hx5
        have O5 := Lib.hid (some8_ok _ (List.mem_of_getElem? hx5))
        have T1 := Lib.hid hS
        have hg : g < wr.heap.size := hS.blk0.lt
        clear hS hx1 hx2 hx3 hx4 hx5
        have b1' : (i1 : Int) < 8 := by omega
        have b2' : (i2 : Int) < 8 := by omega
        have b3' : (i3 : Int) < 8 := by omega
        have b4' : (i4 : Int) < 8 := by omega
        have b5' : (i5 : Int) < 8 := by omega
        have OK : Hid (∀ y ∈ [x1, x2, x3, x4, x5], y.ok) := Lib.hid (by
          intro y hy
          simp only [List.mem_cons, List.not_mem_nil, or_false] at hy
          rcases hy with rfl | rfl | rfl | rfl | rfl
          · exact O1.out
          · exact O2.out
          · exact O3.out
          · exact O4.out
          · exact O5.out)
        clear O1 O2 O3 O4 O5
        have HK : Hid (∀ W W' : World, Kept [] W W' → ((fun w' : World => w'.cell? ⟨g, i1 * 4, none⟩ = some (.int .u8 (x1.kind : Int)) ∧ w'.cell? ⟨g, i1 * 4 + 1, none⟩ = some (.int .i64 x1.owner) ∧ w'.cell? ⟨g, i1 * 4 + 2, none⟩ = some (.int .i64 x1.index) ∧ w'.cell? ⟨g, i1 * 4 + 3, none⟩ = some (.int .i64 x1.value) ∧ w'.cell? ⟨g, i2 * 4, none⟩ = some (.int .u8 (x2.kind : Int)) ∧ w'.cell? ⟨g, i2 * 4 + 1, none⟩ = some (.int .i64 x2.owner) ∧ w'.cell? ⟨g, i2 * 4 + 2, none⟩ = some (.int .i64 x2.index) ∧ w'.cell? ⟨g, i2 * 4 + 3, none⟩ = some (.int .i64 x2.value) ∧ w'.cell? ⟨g, i3 * 4, none⟩ = some (.int .u8 (x3.kind : Int)) ∧ w'.cell? ⟨g, i3 * 4 + 1, none⟩ = some (.int .i64 x3.owner) ∧ w'.cell? ⟨g, i3 * 4 + 2, none⟩ = some (.int .i64 x3.index) ∧ w'.cell? ⟨g, i3 * 4 + 3, none⟩ = some (.int .i64 x3.value) ∧ w'.cell? ⟨g, i4 * 4, none⟩ = some (.int .u8 (x4.kind : Int)) ∧ w'.cell? ⟨g, i4 * 4 + 1, none⟩ = some (.int .i64 x4.owner) ∧ w'.cell? ⟨g, i4 * 4 + 2, none⟩ = some (.int .i64 x4.index) ∧ w'.cell? ⟨g, i4 * 4 + 3, none⟩ = some (.int .i64 x4.value) ∧ w'.cell? ⟨g, i5 * 4, none⟩ = some (.int .u8 (x5.kind : Int)) ∧ w'.cell? ⟨g, i5 * 4 + 1, none⟩ = some (.int .i64 x5.owner) ∧ w'.cell? ⟨g, i5 * 4 + 2, none⟩ = some (.int .i64 x5.index) ∧ w'.cell? ⟨g, i5 * 4 + 3, none⟩ = some (.int .i64 x5.value)) W) → ((fun w' : World => w'.cell? ⟨g, i1 * 4, none⟩ = some (.int .u8 (x1.kind : Int)) ∧ w'.cell? ⟨g, i1 * 4 + 1, none⟩ = some (.int .i64 x1.owner) ∧ w'.cell? ⟨g, i1 * 4 + 2, none⟩ = some (.int .i64 x1.index) ∧ w'.cell? ⟨g, i1 * 4 + 3, none⟩ = some (.int .i64 x1.value) ∧ w'.cell? ⟨g, i2 * 4, none⟩ = some (.int .u8 (x2.kind : Int)) ∧ w'.cell? ⟨g, i2 * 4 + 1, none⟩ = some (.int .i64 x2.owner) ∧ w'.cell? ⟨g, i2 * 4 + 2, none⟩ = some (.int .i64 x2.index) ∧ w'.cell? ⟨g, i2 * 4 + 3, none⟩ = some (.int .i64 x2.value) ∧ w'.cell? ⟨g, i3 * 4, none⟩ = some (.int .u8 (x3.kind : Int)) ∧ w'.cell? ⟨g, i3 * 4 + 1, none⟩ = some (.int .i64 x3.owner) ∧ w'.cell? ⟨g, i3 * 4 + 2, none⟩ = some (.int .i64 x3.index) ∧ w'.cell? ⟨g, i3 * 4 + 3, none⟩ = some (.int .i64 x3.value) ∧ w'.cell? ⟨g, i4 * 4, none⟩ = some (.int .u8 (x4.kind : Int)) ∧ w'.cell? ⟨g, i4 * 4 + 1, none⟩ = some (.int .i64 x4.owner) ∧ w'.cell? ⟨g, i4 * 4 + 2, none⟩ = some (.int .i64 x4.index) ∧ w'.cell? ⟨g, i4 * 4 + 3, none⟩ = some (.int .i64 x4.value) ∧ w'.cell? ⟨g, i5 * 4, none⟩ = some (.int .u8 (x5.kind : Int)) ∧ w'.cell? ⟨g, i5 * 4 + 1, none⟩ = some (.int .i64 x5.owner) ∧ w'.cell? ⟨g, i5 * 4 + 2, none⟩ = some (.int .i64 x5.index) ∧ w'.cell? ⟨g, i5 * 4 + 3, none⟩ = some (.int .i64 x5.value)) W')) := Lib.hid (by
          intro W W' hk h
          have q : ∀ c u, W.cell? c = some u → W'.cell? c = some u := fun c u h => hk.cell h (by simp)
          obtain ⟨h1, h2, h3, h4, h5, h6, h7, h8, h9, h10, h11, h12, h13, h14, h15, h16, h17, h18, h19, h20⟩ := h
          exact ⟨q _ _ h1, q _ _ h2, q _ _ h3, q _ _ h4, q _ _ h5, q _ _ h6, q _ _ h7, q _ _ h8, q _ _ h9, q _ _ h10, q _ _ h11, q _ _ h12, q _ _ h13, q _ _ h14, q _ _ h15, q _ _ h16, q _ _ h17, q _ _ h18, q _ _ h19, q _ _ h20⟩)
        have p1 := (acts_calls (cA := 2) (cB := 5) (plan := [1, 1]) (l := [x1, x2, x3, x4, x5]) (reads_blk (((Kept.alloc [] _ (.cells (flatA [x1, x2, x3, x4, x5]).toArray 59)).trans' (Kept.drew [] _)).blk (Blk.new wr 3 ([1, 1].map numV).toArray) (by simp))) (reads_blk ((Kept.drew [] _).blk (Blk.new (wr.alloc (.cells ([1, 1].map numV).toArray 3)) 59 (flatA [x1, x2, x3, x4, x5]).toArray) (by simp))) OK.out (by decide) (by decide) (by unfold maxLen; simp))
        have p2 := (acts_calls (cA := 2) (cB := 5) (plan := [1, 1]) (l := [x1, x2, x3, x4, x5]) (reads_blk ((Kept.drew [] _).blk (Blk.new (wr.alloc (.cells (flatA [x1, x2, x3, x4, x5]).toArray 59)) 3 ([1, 1].map numV).toArray) (by simp))) (reads_blk (((Kept.alloc [] _ (.cells ([1, 1].map numV).toArray 3)).trans' (Kept.drew [] _)).blk (Blk.new wr 59 (flatA [x1, x2, x3, x4, x5]).toArray) (by simp))) OK.out (by decide) (by decide) (by unfold maxLen; simp))
        simp only [flatA, acV, numV, List.flatMap_cons, List.flatMap_nil, List.append_nil, List.cons_append, List.nil_append, List.map_cons, List.map_nil, List.length_cons, List.length_nil, Nat.reduceAdd, World.size_alloc, World.size_drew] at p1 p2
        have P1 := Lib.hid p1
        have P2 := Lib.hid p2
        clear p1 p2
        go_upto_region 5 with fail
        go_cut [75, 76] from 45 to 76 (fun v u wx => v = .bool true ∧ u = .bool false ∧ St w wx [.blk g 59 (flatA some8).toArray])
        case first =>
          have HW : Hid ((fun w' : World => w'.cell? ⟨g, i1 * 4, none⟩ = some (.int .u8 (x1.kind : Int)) ∧ w'.cell? ⟨g, i1 * 4 + 1, none⟩ = some (.int .i64 x1.owner) ∧ w'.cell? ⟨g, i1 * 4 + 2, none⟩ = some (.int .i64 x1.index) ∧ w'.cell? ⟨g, i1 * 4 + 3, none⟩ = some (.int .i64 x1.value) ∧ w'.cell? ⟨g, i2 * 4, none⟩ = some (.int .u8 (x2.kind : Int)) ∧ w'.cell? ⟨g, i2 * 4 + 1, none⟩ = some (.int .i64 x2.owner) ∧ w'.cell? ⟨g, i2 * 4 + 2, none⟩ = some (.int .i64 x2.index) ∧ w'.cell? ⟨g, i2 * 4 + 3, none⟩ = some (.int .i64 x2.value) ∧ w'.cell? ⟨g, i3 * 4, none⟩ = some (.int .u8 (x3.kind : Int)) ∧ w'.cell? ⟨g, i3 * 4 + 1, none⟩ = some (.int .i64 x3.owner) ∧ w'.cell? ⟨g, i3 * 4 + 2, none⟩ = some (.int .i64 x3.index) ∧ w'.cell? ⟨g, i3 * 4 + 3, none⟩ = some (.int .i64 x3.value) ∧ w'.cell? ⟨g, i4 * 4, none⟩ = some (.int .u8 (x4.kind : Int)) ∧ w'.cell? ⟨g, i4 * 4 + 1, none⟩ = some (.int .i64 x4.owner) ∧ w'.cell? ⟨g, i4 * 4 + 2, none⟩ = some (.int .i64 x4.index) ∧ w'.cell? ⟨g, i4 * 4 + 3, none⟩ = some (.int .i64 x4.value) ∧ w'.cell? ⟨g, i5 * 4, none⟩ = some (.int .u8 (x5.kind : Int)) ∧ w'.cell? ⟨g, i5 * 4 + 1, none⟩ = some (.int .i64 x5.owner) ∧ w'.cell? ⟨g, i5 * 4 + 2, none⟩ = some (.int .i64 x5.index) ∧ w'.cell? ⟨g, i5 * 4 + 3, none⟩ = some (.int .i64 x5.value)) wr) := Lib.hid ⟨c10, c11, c12, c13, c20, c21, c22, c23, c30, c31, c32, c33, c40, c41, c42, c43, c50, c51, c52, c53⟩
          have HD : Hid ((fun w' : World => w'.cell? ⟨g, i1 * 4, none⟩ = some (.int .u8 (x1.kind : Int)) ∧ w'.cell? ⟨g, i1 * 4 + 1, none⟩ = some (.int .i64 x1.owner) ∧ w'.cell? ⟨g, i1 * 4 + 2, none⟩ = some (.int .i64 x1.index) ∧ w'.cell? ⟨g, i1 * 4 + 3, none⟩ = some (.int .i64 x1.value) ∧ w'.cell? ⟨g, i2 * 4, none⟩ = some (.int .u8 (x2.kind : Int)) ∧ w'.cell? ⟨g, i2 * 4 + 1, none⟩ = some (.int .i64 x2.owner) ∧ w'.cell? ⟨g, i2 * 4 + 2, none⟩ = some (.int .i64 x2.index) ∧ w'.cell? ⟨g, i2 * 4 + 3, none⟩ = some (.int .i64 x2.value) ∧ w'.cell? ⟨g, i3 * 4, none⟩ = some (.int .u8 (x3.kind : Int)) ∧ w'.cell? ⟨g, i3 * 4 + 1, none⟩ = some (.int .i64 x3.owner) ∧ w'.cell? ⟨g, i3 * 4 + 2, none⟩ = some (.int .i64 x3.index) ∧ w'.cell? ⟨g, i3 * 4 + 3, none⟩ = some (.int .i64 x3.value) ∧ w'.cell? ⟨g, i4 * 4, none⟩ = some (.int .u8 (x4.kind : Int)) ∧ w'.cell? ⟨g, i4 * 4 + 1, none⟩ = some (.int .i64 x4.owner) ∧ w'.cell? ⟨g, i4 * 4 + 2, none⟩ = some (.int .i64 x4.index) ∧ w'.cell? ⟨g, i4 * 4 + 3, none⟩ = some (.int .i64 x4.value) ∧ w'.cell? ⟨g, i5 * 4, none⟩ = some (.int .u8 (x5.kind : Int)) ∧ w'.cell? ⟨g, i5 * 4 + 1, none⟩ = some (.int .i64 x5.owner) ∧ w'.cell? ⟨g, i5 * 4 + 2, none⟩ = some (.int .i64 x5.index) ∧ w'.cell? ⟨g, i5 * 4 + 3, none⟩ = some (.int .i64 x5.value)) wr.drew) := Lib.hid (HK.out _ _ (Kept.drew [] wr) HW.out)
          clear S1 c10 c11 c12 c13 c20 c21 c22 c23 c30 c31 c32 c33 c40 c41 c42 c43 c50 c51 c52 c53
          go_region_held3 (fun w' => w'.cell? ⟨g, i1 * 4, none⟩ = some (.int .u8 (x1.kind : Int)) ∧ w'.cell? ⟨g, i1 * 4 + 1, none⟩ = some (.int .i64 x1.owner) ∧ w'.cell? ⟨g, i1 * 4 + 2, none⟩ = some (.int .i64 x1.index) ∧ w'.cell? ⟨g, i1 * 4 + 3, none⟩ = some (.int .i64 x1.value) ∧ w'.cell? ⟨g, i2 * 4, none⟩ = some (.int .u8 (x2.kind : Int)) ∧ w'.cell? ⟨g, i2 * 4 + 1, none⟩ = some (.int .i64 x2.owner) ∧ w'.cell? ⟨g, i2 * 4 + 2, none⟩ = some (.int .i64 x2.index) ∧ w'.cell? ⟨g, i2 * 4 + 3, none⟩ = some (.int .i64 x2.value) ∧ w'.cell? ⟨g, i3 * 4, none⟩ = some (.int .u8 (x3.kind : Int)) ∧ w'.cell? ⟨g, i3 * 4 + 1, none⟩ = some (.int .i64 x3.owner) ∧ w'.cell? ⟨g, i3 * 4 + 2, none⟩ = some (.int .i64 x3.index) ∧ w'.cell? ⟨g, i3 * 4 + 3, none⟩ = some (.int .i64 x3.value) ∧ w'.cell? ⟨g, i4 * 4, none⟩ = some (.int .u8 (x4.kind : Int)) ∧ w'.cell? ⟨g, i4 * 4 + 1, none⟩ = some (.int .i64 x4.owner) ∧ w'.cell? ⟨g, i4 * 4 + 2, none⟩ = some (.int .i64 x4.index) ∧ w'.cell? ⟨g, i4 * 4 + 3, none⟩ = some (.int .i64 x4.value) ∧ w'.cell? ⟨g, i5 * 4, none⟩ = some (.int .u8 (x5.kind : Int)) ∧ w'.cell? ⟨g, i5 * 4 + 1, none⟩ = some (.int .i64 x5.owner) ∧ w'.cell? ⟨g, i5 * 4 + 2, none⟩ = some (.int .i64 x5.index) ∧ w'.cell? ⟨g, i5 * 4 + 3, none⟩ = some (.int .i64 x5.value))
            (first | exact HD.out | exact HK.out _ _ (Kept.alloc _ _ _) (by assumption) | exact HK.out _ _ ((((Kept.alloc [] _ _).trans' (Kept.alloc _ _ _)).trans' (Kept.drew _ _)).trans' hk3) HW.out)
            (first
              | (go_at_call 28; with_reducible refine P1.out.mono ?_; rintro e w3 ⟨rfl, hk3⟩)
              | (go_at_call 28; with_reducible refine P2.out.mono ?_; rintro e w3 ⟨rfl, hk3⟩))
          all_goals
            have T3 := Lib.hid (T1.out.kept ((((Kept.alloc [] _ _).trans' (Kept.alloc _ _ _)).trans' (Kept.drew _ _)).trans' hk3))
            clear hk3 P1 P2 HK HW HD T1 e1 e2 e3 e4 e5 q2 q3 q4 r2 r3 r4 r5
            go_wp2_with fail
            go_meet
            exact ⟨rfl, rfl, T3.out⟩
        case rest =>
          obtain ⟨rfl, rfl, hS⟩ := hcut
          have T2 := Lib.hid hS
          clear hS T1 P1 P2 HK e1 e2 e3 e4 e5 q2 q3 q4 r2 r3 r4 r5
          go_wp2
          go_roundw
          case rel => exact ⟨k + 3, by omega, by go_num, T2.out⟩
          case measure => simp [intOf]; omega
      · have T1 := Lib.hid hS
        clear hS
        have hlt' : ¬ (k : Int) < 32768 := by omega
        go_wp2_with fail
        go_meet
        exact T1.out.drop
  case rest =>
  clear S1
  rename World => wx
  have hx : Hid (St w (wx.alloc (.cells #[.int .i64 (-9223372036854775808), .int .i64 (-1), .int .i64 0, .int .i64 1, .int .i64 2, .int .i64 3, .int .i64 4, .int .i64 9223372036854775807] 3)) [.blk wx.heap.size 3 #[.int .i64 (-9223372036854775808), .int .i64 (-1), .int .i64 0, .int .i64 1, .int .i64 2, .int .i64 3, .int .i64 4, .int .i64 9223372036854775807]]) := Lib.hid (hcut.blkNew 3 #[.int .i64 (-9223372036854775808), .int .i64 (-1), .int .i64 0, .int .i64 1, .int .i64 2, .int .i64 3, .int .i64 4, .int .i64 9223372036854775807])
  clear hcut
  go_upto_region 9 with fail
  generalize wx.alloc _ = w1 at *
  have S1 : Hid (St w w1 [.blk wx.heap.size 3 (numbers.map numV).toArray]) := hx
  clear hx
  generalize wx.heap.size = g at *
  obtain ⟨i0, hi, hz0, hz1, hz2⟩ := info_parts info59
  have HI := Lib.hid hi
  have HZ := Lib.hid hz0
  have HZ1 := Lib.hid hz1
  have HZ2 := Lib.hid hz2
  clear hi hz0 hz1 hz2
  go_upto_block 2 with fail
  go_cut [4] from 80 to 101 (fun v wx => ∃ (A : Option Addr) (cap : Nat) (lst : List AC), v = .slice A lst.length cap ∧ lst.length = 128 ∧ (∀ x ∈ lst, x.ok) ∧ St w wx [.row (.slice A lst.length cap) 59 4 lst.length (flatA lst)])
  case first =>
    go_wp2_with fail
    go_loopw [4, 80] (fun v i wr => ∃ (k : Nat) (A : Option Addr) (cap : Nat) (lst : List AC), k ≤ 8 ∧ i = .int .i64 k ∧ v = .slice A lst.length cap ∧ lst.length = 16 * k ∧ (∀ x ∈ lst, x.ok) ∧ St w wr [.row (.slice A lst.length cap) 59 4 lst.length (flatA lst), .blk g 3 (numbers.map numV).toArray]) (fun _ i _ => 8 - (intOf i).toNat)
    case atStart => exact ⟨0, none, 0, [], by omega, rfl, rfl, rfl, by simp, S1.out.rowNil 59 4⟩
    case round =>
      obtain ⟨k, A, cap, lst, hk, rfl, rfl, hl, hok, hS⟩ := hrel
      by_cases hlt : k < 8
      · obtain ⟨n, hn⟩ : ∃ n, numbers[k]? = some n := ⟨_, List.getElem?_eq_getElem (by simp only [numbers, List.length_cons, List.length_nil]; omega)⟩
        have c0 : wr.cell? ⟨g, k, none⟩ = some (.int .i64 n) := by
          rw [hS.blk1.cell, List.getElem?_toArray, List.getElem?_map, hn]; rfl
        have T1 := Lib.hid hS
        have OK1 := Lib.hid hok
        have HL := Lib.hid hl
        have hlt' : (k : Int) < 8 := by omega
        clear hS hok hn S1 hl
        go_wp2_with fail
        try simp only [hlt', decide_true]
        go_loopw [4, 86] (fun v i wq => ∃ (j : Nat) (A : Option Addr) (cap : Nat) (lst : List AC), j ≤ 8 ∧ i = .int .i64 j ∧ v = .slice A lst.length cap ∧ lst.length = 16 * k + 2 * j ∧ (∀ x ∈ lst, x.ok) ∧ St w wq [.row (.slice A lst.length cap) 59 4 lst.length (flatA lst), .blk g 3 (numbers.map numV).toArray]) (fun _ i _ => 8 - (intOf i).toNat)
        case atStart => exact ⟨0, A, cap, lst, by omega, rfl, rfl, by have := HL.out; omega, OK1.out, T1.out⟩
        case round =>
          clear T1 OK1 c0 HL
          rename World => wq
          obtain ⟨j, A, cap, lst, hj, rfl, rfl, hl, hok, hS⟩ := hrel
          by_cases hlj : j < 8
          · obtain ⟨m, hm⟩ : ∃ m, numbers[j]? = some m := ⟨_, List.getElem?_eq_getElem (by simp only [numbers, List.length_cons, List.length_nil]; omega)⟩
            have c0 : wq.cell? ⟨g, j, none⟩ = some (.int .i64 m) := by
              rw [hS.blk1.cell, List.getElem?_toArray, List.getElem?_map, hm]; rfl
            have hx : Hid (St w (wq.alloc (.cells #[.int .u8 0, .int .i64 n, .int .i64 m, .int .i64 n, .int .u8 7, .int .i64 n, .int .i64 m, .int .i64 0] 59)) [.row (.slice A lst.length cap) 59 4 lst.length (flatA lst), .blk wq.heap.size 59 #[.int .u8 0, .int .i64 n, .int .i64 m, .int .i64 n, .int .u8 7, .int .i64 n, .int .i64 m, .int .i64 0], .blk g 3 (numbers.map numV).toArray]) := Lib.hid (hS.mk1 59 #[.int .u8 0, .int .i64 n, .int .i64 m, .int .i64 n, .int .u8 7, .int .i64 n, .int .i64 m, .int .i64 0])
            have OK1 := Lib.hid hok
            have hlen : lst.length ≤ 200 := by omega
            have HL := Lib.hid hl
            have hlj' : (j : Int) < 8 := by omega
            clear hS hok hm hl
            go_wp2_with (at_builtin
                         refine wpList_append_own_at _ rfl _ _ 56 rfl 0 59 i0 (.agg #[.int .u8 0, .int .i64 0, .int .i64 0, .int .i64 0]) 4 32 Try.underlying56 HI.out HZ.out HZ1.out HZ2.out rfl (by decide) (.slice A lst.length cap) lst.length (flatA lst) rfl hx.out.row ⟨wq.heap.size, 0, none⟩ 2 2 (flatA [⟨0, n, m, n⟩, ⟨7, n, m, 0⟩]) rfl rfl (blk_cells (cs := flatA [⟨0, n, m, n⟩, ⟨7, n, m, 0⟩]) hx.out.blk1) (flatA_one _) (by unfold maxLen; omega) (by omega) (Nat.zero_le _) ?_
                         intro v' w3 hown hgrow _ hloc
                         have hs := hx.out.appendRow hgrow hown hloc
                         obtain ⟨R3, q3, rfl⟩ := own_slice hown
                         have S3 := Lib.hid hs
                         clear hown hgrow hloc hs hx)
            go_roundw
            case rel =>
              refine ⟨j + 1, R3, q3, lst ++ [⟨0, n, m, n⟩, ⟨7, n, m, 0⟩], by omega, by go_num, by simp, by have := HL.out; simp; omega, fun x hx => (List.mem_append.1 hx).elim (OK1.out x) (two_ok n m x), ?_⟩
              have s4 := S3.out.swap.drop
              rw [← flatA_two] at s4
              simpa using s4
            case measure => simp [intOf]; omega
          · obtain rfl : j = 8 := by omega
            have T1 := Lib.hid hS
            have OK1 := Lib.hid hok
            have HL := Lib.hid hl
            clear hS hok hl
            go_wp2_with fail
            go_roundw
            case rel => exact ⟨k + 1, A, cap, lst, by omega, by go_num, rfl, by have := HL.out; omega, OK1.out, T1.out⟩
            case measure => simp [intOf]; omega
      · obtain rfl : k = 8 := by omega
        have T1 := Lib.hid hS
        have OK1 := Lib.hid hok
        have HL := Lib.hid hl
        clear hS hok hl
        go_wp2_with fail
        go_meet
        exact ⟨A, cap, lst, rfl, by have := HL.out; omega, OK1.out, T1.out.swap.drop⟩
  case rest =>
  clear S1
  rename World => wx
  obtain ⟨A, cap, lst, rfl, hl, hok, hS⟩ := hcut
  obtain ⟨b, cap', hA, hcap, hrd1, hrd2, hrd3⟩ := halves hS.row hl
  simp only [Value.slice.injEq] at hA
  obtain ⟨rfl, -, rfl⟩ := hA
  have H1 : Hid (∀ W B, Kept [] wx W → Reads W B ([2, 0, 3].map numV) → Calls Try.prog 28 #[.slice B 3 3, .slice (some ⟨b, 0, none⟩) 64 cap] W fun e w' => e = .returned (.bool true) ∧ Kept [] W w') := Lib.hid fun W B hk hB => by
    have := acts_calls (cA := 3) (cB := cap) (plan := [2, 0, 3]) (l := lst.take 64) hB (hk.reads hrd1 (by simp)) (fun x hx => hok x (List.mem_of_mem_take hx)) (by decide) (by decide) (by unfold maxLen; simp; omega)
    rwa [show (lst.take 64).length = 64 by simp; omega] at this
  have H2 : Hid (∀ W B, Kept [] wx W → Reads W B ([2, 0, 3].map numV) → Calls Try.prog 28 #[.slice B 3 3, .slice (some ⟨b, 256, none⟩) 64 (cap - 64)] W fun e w' => e = .returned (.bool true) ∧ Kept [] W w') := Lib.hid fun W B hk hB => by
    have := acts_calls (cA := 3) (cB := cap - 64) (plan := [2, 0, 3]) (l := lst.drop 64) hB (hk.reads hrd2 (by simp)) (fun x hx => hok x (List.mem_of_mem_drop hx)) (by decide) (by decide) (by unfold maxLen; simp; omega)
    rwa [show (lst.drop 64).length = 64 by simp; omega] at this
  have H3 : Hid (∀ W, Kept [] wx W → Calls Try.prog 28 #[.slice none 0 0, .slice (some ⟨b, 0, none⟩) 70 cap] W fun e w' => e = .returned (.bool true) ∧ Kept [] W w') := Lib.hid fun W hk => by
    have := acts_calls (cA := 0) (cB := cap) (plan := []) (l := lst.take 70) (w := W) (A := none) (.inl rfl) (hk.reads hrd3 (by simp)) (fun x hx => hok x (List.mem_of_mem_take hx)) (by decide) (by decide) (by unfold maxLen; simp; omega)
    rwa [show (lst.take 70).length = 70 by simp; omega] at this
  have SX : Hid (St w wx []) := Lib.hid hS.drop
  have hcap1 : (64 : Int) ≤ (cap : Int) := by omega
  have hcap2 : (70 : Int) ≤ (cap : Int) := by omega
  simp only [hl]
  clear hl hok hS hrd1 hrd2 hrd3 hcap
  go_wp2_with fail
  refine (H1.out _ _ (Kept.alloc _ _ _) (reads_blk (cs := [2, 0, 3].map numV) (Blk.new _ _ _))).mono ?_
  rintro e w1 ⟨rfl, hk⟩
  have K1 : Hid (Kept [] wx w1) := Lib.hid ((Kept.alloc _ _ _).trans' hk)
  clear hk H1
  go_wp2_with fail
  refine (H2.out _ _ (K1.out.trans' (Kept.alloc _ _ _)) (reads_blk (cs := [2, 0, 3].map numV) (Blk.new _ _ _))).mono ?_
  rintro e w2 ⟨rfl, hk⟩
  have K2 : Hid (Kept [] wx w2) := Lib.hid (K1.out.trans' ((Kept.alloc _ _ _).trans' hk))
  clear hk H2 K1
  go_wp2_with fail
  refine (H3.out _ K2.out).mono ?_
  rintro e w3 ⟨rfl, hk⟩
  have S3 : Hid (St w w3 []) := Lib.hid (SX.out.kept (K2.out.trans' hk))
  clear hk H3 K2 SX
  go_upto_region 20 with fail
  go_cut [132, 133, 134] from 120 to 134 (fun v u z wx => ∃ gl, v = .slice (some ⟨gl, 0, none⟩) 12 12 ∧ u = .int .i64 12 ∧ z = .int .i64 0 ∧ Kept [] w wx ∧ PL gl wx)
  case first =>
    have hmix : Try.prog.follows .mixedOrders = true := by kernel_rfl
    have KW : Kept [] w w3 := S3.out.whole
    clear S3
    refine region20 (w0 := w) (Nat.le_of_ble_eq_true rfl) rfl hmix KW ?_ ?_ ?_
    case refine_1 =>
      intro pre post listed a W i hp hI hi
      obtain ⟨hl0, o, ho, haft⟩ := mem_ready.1 hi
      have hi15 : i < 15 := (Array.getElem?_eq_some_iff.1 ho).1
      clear hi hl0
      have hc : i = 0 ∨ i = 1 ∨ i = 2 ∨ i = 3 ∨ i = 4 ∨ i = 5 ∨ i = 6 ∨ i = 7 ∨ i = 8 ∨ i = 9 ∨ i = 10 ∨ i = 11 ∨ i = 12 ∨ i = 13 ∨ i = 14 := by omega
      rcases hc with rfl | rfl | rfl | rfl | rfl | rfl | rfl | rfl | rfl | rfl | rfl | rfl | rfl | rfl | rfl
      · refine wpOp_run rfl rfl ?_
        have hJ := hI.plan hp (j := 0) rfl
        unfold Oper.wp execOp
        go_simp
        exact hJ
      · refine wpOp_run rfl rfl ?_
        have hJ := hI.plan hp (j := 1) rfl
        unfold Oper.wp execOp
        go_simp
        exact hJ
      · refine wpOp_run rfl rfl ?_
        have hJ := hI.plan hp (j := 2) rfl
        unfold Oper.wp execOp
        go_simp
        exact hJ
      · refine wpOp_run rfl rfl ?_
        have hJ := hI.plan hp (j := 3) rfl
        unfold Oper.wp execOp
        go_simp
        exact hJ
      · refine wpOp_run rfl rfl ?_
        have hJ := hI.plan hp (j := 4) rfl
        unfold Oper.wp execOp
        go_simp
        exact hJ
      · refine wpOp_run rfl rfl ?_
        have hJ := hI.plan hp (j := 5) rfl
        unfold Oper.wp execOp
        go_simp
        exact hJ
      · refine wpOp_run rfl rfl ?_
        have hJ := hI.plan hp (j := 6) rfl
        unfold Oper.wp execOp
        go_simp
        exact hJ
      · refine wpOp_run rfl rfl ?_
        have hJ := hI.plan hp (j := 7) rfl
        unfold Oper.wp execOp
        go_simp
        exact hJ
      · refine wpOp_run rfl rfl ?_
        have hJ := hI.plan hp (j := 8) rfl
        unfold Oper.wp execOp
        go_simp
        rw [make16 W]
        go_simp
        exact hJ
      · refine wpOp_run rfl rfl ?_
        have hJ := hI.plan hp (j := 9) rfl
        unfold Oper.wp execOp
        go_simp
        rw [make17 W]
        go_simp
        exact hJ
      · refine wpOp_run rfl rfl ?_
        have hJ := hI.plan hp (j := 10) rfl
        unfold Oper.wp execOp
        go_simp
        exact hJ
      · refine wpOp_run rfl rfl ?_
        have hJ := hI.plan hp (j := 11) rfl
        unfold Oper.wp execOp
        go_simp
        exact hJ
      · have l : ∀ j, j < 12 → listed.getD j false = true := fun j hj => by
          have ho' := Option.some.inj ho
          subst ho'
          have hc : j = 0 ∨ j = 1 ∨ j = 2 ∨ j = 3 ∨ j = 4 ∨ j = 5 ∨ j = 6 ∨ j = 7 ∨ j = 8 ∨ j = 9 ∨ j = 10 ∨ j = 11 := by omega
          exact haft ⟨j, .data⟩ (by rcases hc with rfl | rfl | rfl | rfl | rfl | rfl | rfl | rfl | rfl | rfl | rfl | rfl <;> simp) rfl
        exact hI.step12 hp l rfl rfl rfl rfl
      · have l : listed.getD 12 false = true := by
          have ho' := Option.some.inj ho
          subst ho'
          exact haft ⟨12, .data⟩ (by simp) rfl
        exact hI.step13 hp l rfl rfl rfl rfl
      · refine wpOp_run rfl rfl ?_
        have hJ := hI.zero hp
        unfold Oper.wp execOp
        go_simp
        exact hJ
    case refine_2 =>
      intro listed hr hs
      exact all_listed (by kernel_rfl) hr hs
    case refine_3 =>
      intro us gl w' hu h12 h13 h14 hk hP
      obtain ⟨q0, q1, q2, q3, q4, q5, q6, q7, q8, q9, q10, q11, q12, q13, q14, rfl⟩ := fifteen us hu
      obtain rfl : q12 = _ := Option.some.inj h12
      obtain rfl : q13 = _ := Option.some.inj h13
      obtain rfl : q14 = _ := Option.some.inj h14
      clear h12 h13 h14 hu
      have KE := Lib.hid hk
      have PE := Lib.hid hP
      clear hk hP KW hmix
      simp only [List.take_succ_cons, List.take_zero, List.drop_succ_cons, List.drop_zero, List.cons_append, List.nil_append]
      go_wp2_with fail
      go_meet
      exact ⟨gl, rfl, rfl, rfl, KE.out, PE.out⟩
  case rest =>
  clear S3
  rename World => wx
  obtain ⟨gl, rfl, rfl, rfl, hk0, hPL⟩ := hcut
  have K0 := Lib.hid hk0
  have P0 := Lib.hid hPL
  clear hk0 hPL
  go_upto_block 6 with fail
  go_cut [] from 134 to 169 (fun wx => Kept [] w wx)
  case first =>
    go_wp2_with fail
    go_loopw [134] (fun i wr => ∃ k : Nat, k ≤ 12 ∧ i = .int .i64 k ∧ Kept [] w wr ∧ PL gl wr) (fun i _ => 12 - (intOf i).toNat)
    case atStart => exact ⟨0, by omega, rfl, K0.out, P0.out⟩
    case round =>
      obtain ⟨k, hk, rfl, hK, hP⟩ := hrel
      by_cases hlt : k < 12
      · obtain ⟨p, hp⟩ : ∃ p, plans[k]? = some p := ⟨_, List.getElem?_eq_getElem (by simp only [plans, List.length_cons, List.length_nil]; omega)⟩
        obtain ⟨g1, c0, hg1, hr⟩ := hP k p hp
        have hfew := plans_few p (List.mem_of_getElem? hp)
        have hlt' : (k : Int) < 12 := by omega
        have HP := Lib.hid hP
        have HK := Lib.hid hK
        have HR1 : Hid (∀ W, Kept [] wr W → Calls Try.prog 29 #[.slice (some ⟨g1, 0, none⟩) p.length p.length] W fun e w' => e = .returned (.bool (rightB p)) ∧ W = w') := Lib.hid fun W h => refRight_calls (h.reads hr (by simp)) (by unfold maxLen; omega)
        have HR2 : Hid (∀ W, Kept [] wr W → Calls Try.prog 27 #[.slice (some ⟨g1, 0, none⟩) p.length p.length] W fun e w' => e = .returned (.bool (rightB p)) ∧ W = w') := Lib.hid fun W h => Right_calls (h.reads hr (by simp)) (by unfold maxLen; omega)
        cases hb : rightB p with
        | false =>
          have HN := Lib.hid (new_bad (c := p.length) hr (by unfold maxLen; omega) hb)
          rw [hb] at HR1 HR2
          clear hK hP hp hr hfew hg1 hb
          go_wp2_with fail
          refine HN.out.mono ?_
          rintro e w' ⟨rfl, rfl⟩
          go_wp2_with fail
          refine (HR1.out _ (Kept.refl _ _)).mono ?_
          rintro e w' ⟨rfl, rfl⟩
          go_wp2_with fail
          refine (HR2.out _ (Kept.refl _ _)).mono ?_
          rintro e w' ⟨rfl, rfl⟩
          go_wp2
          go_roundw
          case rel => exact ⟨k + 1, by omega, by go_num, HK.out, HP.out⟩
          case measure => simp [intOf]; omega
        | true =>
          obtain ⟨hp16, hpok⟩ := plan_ok hb
          have HN := Lib.hid (new_good (c := p.length) hr (fun b off e => by simp only [Option.some.injEq, Addr.mk.injEq] at e; rw [← e.1]; exact hg1) hp16 hb hpok)
          rw [hb] at HR1 HR2
          clear hK hP hp hr hfew hg1 hb hp16 hpok
          go_wp2_with fail
          refine HN.out.mono ?_
          rintro e w2 ⟨a, F, rfl, _, hk2, _⟩
          have K2 := Lib.hid hk2
          clear hk2
          go_wp2_with fail
          refine (HR1.out _ K2.out).mono ?_
          rintro e w' ⟨rfl, rfl⟩
          go_wp2_with fail
          refine (HR2.out _ K2.out).mono ?_
          rintro e w' ⟨rfl, rfl⟩
          go_wp2
          go_roundw
          case rel => exact ⟨k + 1, by omega, by go_num, HK.out.trans' K2.out, HP.out.kept K2.out⟩
          case measure => simp [intOf]; omega
      · obtain rfl : k = 12 := by omega
        have K1 := Lib.hid hK
        clear hK hP
        go_wp2_with fail
        go_meet
        exact K1.out
  case rest =>
  clear K0 P0
  rename World => wx
  have K0 := Lib.hid hcut
  clear hcut
  have M65 := make65 wx
  obtain ⟨L5, hL5⟩ : ∃ L : List AC, L = List.replicate 65 noA := ⟨_, rfl⟩
  rw [← hL5] at M65
  have L5n : Hid (L5.length = 65) := Lib.hid (by rw [hL5, List.length_replicate])
  have L5o : Hid (∀ x ∈ L5, x.ok) := Lib.hid fun x hx => by
    rw [hL5] at hx
    rw [(List.mem_replicate.1 hx).2]
    unfold AC.ok noA
    decide
  clear hL5
  have hx : Hid (St w (wx.alloc (.cells (flatA L5).toArray 59)) [.row (.slice (some ⟨wx.heap.size, 0, none⟩) 65 65) 59 4 65 (flatA L5)]) := Lib.hid
    (((St.nil w).kept K0.out).litRow 59 4 65 (by decide) (by unfold maxLen; decide) _ (by rw [flatA_len, L5n.out]))
  go_upto_region 29 with fail
  generalize wx.alloc (.cells (flatA L5).toArray 59) = w1 at *
  generalize wx.heap.size = g5 at *
  have S1 := hx
  clear hx M65 K0
  go_upto_block 8 with fail
  go_cut [] from 173 to 180 (fun wy => ∃ lst : List AC, lst.length = 65 ∧ (∀ x ∈ lst, x.ok) ∧ St w wy [.row (.slice (some ⟨g5, 0, none⟩) 65 65) 59 4 65 (flatA lst)])
  case first =>
    go_wp2_with fail
    go_loopw [173] (fun i wr => ∃ (k : Nat) (lst : List AC), k ≤ 65 ∧ i = .int .i64 k ∧ lst.length = 65 ∧ (∀ x ∈ lst, x.ok) ∧ St w wr [.row (.slice (some ⟨g5, 0, none⟩) 65 65) 59 4 65 (flatA lst)]) (fun i _ => 65 - (intOf i).toNat)
    case atStart => exact ⟨0, L5, by omega, rfl, L5n.out, L5o.out, S1.out⟩
    case round =>
      obtain ⟨k, lst, hk, rfl, hl, hok, hS⟩ := hrel
      by_cases hlt : k < 65
      · have hlt' : (k : Int) < 65 := by omega
        obtain ⟨g3, hg3, hcells⟩ := own_some hS.row (by intro e; have := flatA_len lst; rw [e] at this; simp at this; omega)
        obtain rfl : g5 = g3 := by simpa using hg3
        obtain ⟨x, hx⟩ : ∃ x, lst[k]? = some x := ⟨_, List.getElem?_eq_getElem (by omega)⟩
        have hcell : ∀ i u, i < 4 → (acV x)[i]? = some u → wr.cell? ⟨g5, k * 4 + i, none⟩ = some u ∧ wr.frozen? ⟨g5, k * 4 + i, none⟩ = false := fun i u hi hu => hcells _ _ (flatA_get hx hi hu)
        have a0 : wr.cell? ⟨g5, k * 4, none⟩ = some (.int .u8 (x.kind : Int)) := (hcell 0 _ (by omega) rfl).1
        have a1 : wr.cell? ⟨g5, k * 4 + 1, none⟩ = some (.int .i64 x.owner) := (hcell 1 _ (by omega) rfl).1
        have a2 : wr.cell? ⟨g5, k * 4 + 2, none⟩ = some (.int .i64 x.index) := (hcell 2 _ (by omega) rfl).1
        have a3 : wr.cell? ⟨g5, k * 4 + 3, none⟩ = some (.int .i64 x.value) := (hcell 3 _ (by omega) rfl).1
        have z0 : wr.frozen? ⟨g5, k * 4, none⟩ = false := (hcell 0 _ (by omega) rfl).2
        have z1 : wr.frozen? ⟨g5, k * 4 + 1, none⟩ = false := (hcell 1 _ (by omega) rfl).2
        have z2 : wr.frozen? ⟨g5, k * 4 + 2, none⟩ = false := (hcell 2 _ (by omega) rfl).2
        have z3 : wr.frozen? ⟨g5, k * 4 + 3, none⟩ = false := (hcell 3 _ (by omega) rfl).2
        have T1 := Lib.hid hS
        have OK1 := Lib.hid hok
        have HL := Lib.hid hl
        clear hS hok hl hx hcell hcells hg3 S1
        go_wp2_with fail
        go_roundw
        case rel =>
          have u4 := (((T1.out.rowPut (k * 4) (.int .u8 4)).rowPut (k * 4 + 1) (.int .i64 0)).rowPut (k * 4 + 2) (.int .i64 0)).rowPut (k * 4 + 3) (.int .i64 0)
          rw [flatA_set] at u4
          exact ⟨k + 1, _, by omega, by go_num, by rw [List.length_set]; exact HL.out, fun y hy => (List.mem_or_eq_of_mem_set hy).elim (OK1.out y) (fun e => by rw [e]; unfold AC.ok markA; decide), u4⟩
        case measure => simp [intOf]; omega
      · obtain rfl : k = 65 := by omega
        have T1 := Lib.hid hS
        have OK1 := Lib.hid hok
        have HL := Lib.hid hl
        clear hS hok hl
        go_wp2_with fail
        go_meet
        exact ⟨lst, HL.out, OK1.out, T1.out⟩
  case rest =>
  clear S1
  rename World => wy
  obtain ⟨lst, hl, hok, hS⟩ := hcut
  have hx : Hid (St w ((wy.alloc (.cells #[.int .i64 1] 3)).alloc (.cells #[.int .u8 5, .int .i64 0, .int .i64 0, .int .i64 0, .int .u8 4, .int .i64 0, .int .i64 0, .int .i64 0, .int .u8 4, .int .i64 0, .int .i64 0, .int .i64 0] 59)) [.row (.slice (some ⟨g5, 0, none⟩) 65 65) 59 4 65 (flatA lst), .blk (wy.heap.size + 1) 59 #[.int .u8 5, .int .i64 0, .int .i64 0, .int .i64 0, .int .u8 4, .int .i64 0, .int .i64 0, .int .i64 0, .int .u8 4, .int .i64 0, .int .i64 0, .int .i64 0], .blk wy.heap.size 3 #[.int .i64 1]]) := Lib.hid (by
    have := (hS.mk1 3 #[.int .i64 1]).mk1 59 #[.int .u8 5, .int .i64 0, .int .i64 0, .int .i64 0, .int .u8 4, .int .i64 0, .int .i64 0, .int .i64 0, .int .u8 4, .int .i64 0, .int .i64 0, .int .i64 0]
    rwa [World.size_alloc] at this)
  have HL := Lib.hid hl
  have OK1 : Hid (∀ x ∈ lst ++ [⟨5, 0, 0, 0⟩, markA, markA], x.ok) := Lib.hid fun x hx => (List.mem_append.1 hx).elim (hok x) (three_ok x)
  clear hl hok hS
  go_wp2_with (at_builtin
               refine wpList_append_own_at _ rfl _ _ 56 rfl 0 59 i0 (.agg #[.int .u8 0, .int .i64 0, .int .i64 0, .int .i64 0]) 4 32 Try.underlying56 HI.out HZ.out HZ1.out HZ2.out rfl (by decide) (.slice (some ⟨g5, 0, none⟩) 65 65) 65 (flatA lst) rfl hx.out.row ⟨wy.heap.size + 1, 0, none⟩ 3 3 (flatA [⟨5, 0, 0, 0⟩, markA, markA]) rfl rfl (blk_cells (cs := flatA [⟨5, 0, 0, 0⟩, markA, markA]) hx.out.blk1) (flatA_one _) (by unfold maxLen; omega) (by omega) (Nat.zero_le _) ?_
               intro v' w3 hown hgrow _ hloc
               have hs := hx.out.appendRow hgrow hown hloc
               obtain ⟨R3, q3, rfl⟩ := own_slice hown
               have S3 := Lib.hid hs
               clear hown hgrow hloc hs hx)
  have HA : Hid (Calls Try.prog 28 #[.slice (some ⟨wy.heap.size, 0, none⟩) 1 1, .slice R3 68 q3] w3 fun e w' => e = .returned (.bool true) ∧ Kept [] w3 w') := Lib.hid (by
    have := acts_calls (cA := 1) (cB := q3) (plan := [1]) (l := lst ++ [⟨5, 0, 0, 0⟩, markA, markA]) (reads_blk (cs := [1].map numV) S3.out.blk2) (by rw [flatA_two]; exact own_reads S3.out.row) OK1.out (by decide) (by decide) (by rw [List.length_append, HL.out]; unfold maxLen; decide)
    rwa [List.length_append, HL.out] at this)
  go_wp2_with fail
  refine HA.out.mono ?_
  rintro e w4 ⟨rfl, hk⟩
  have S4 : Hid (St w w4 []) := Lib.hid (S3.out.kept hk).drop.drop.drop
  clear hk HA S3 OK1 HL
  have hx : Hid (St w ((w4.alloc (.cells #[.bool false, .slice none 0 0, .slice none 0 0] 63)).alloc (.cells #[.pointer none, .pointer (some ⟨w4.heap.size, 0, none⟩)] 24)) [.blk (w4.heap.size + 1) 24 #[.pointer none, .pointer (some ⟨w4.heap.size, 0, none⟩)], .blk w4.heap.size 63 #[.bool false, .slice none 0 0, .slice none 0 0]]) := Lib.hid (by
    have := (S4.out.blkNew 63 #[.bool false, .slice none 0 0, .slice none 0 0]).blkNew 24 #[.pointer none, .pointer (some ⟨w4.heap.size, 0, none⟩)]
    rwa [World.size_alloc] at this)
  clear S4
  go_upto_region 36 with fail
  go_upto_block 10 with fail
  generalize World.alloc (World.alloc _ _) _ = wz at *
  generalize w4.heap.size = gz at *
  have SZ' := hx
  clear hx
  go_wp2_with fail
  go_loopw [194] (fun i wr => ∃ (k : Nat), k ≤ 2 ∧ i = .int .i64 k ∧ Kept [] wz wr) (fun i _ => 2 - (intOf i).toNat)
  case atStart => exact ⟨0, by omega, rfl, Kept.refl _ _⟩
  case round =>
    obtain ⟨k, hk, rfl, hK⟩ := hrel
    by_cases hlt : k < 2
    · have hlt' : (k : Int) < 2 := by omega
      obtain ⟨PA, hpa, hnil⟩ : ∃ PA, (#[Value.pointer none, Value.pointer (some ⟨gz, 0, none⟩)] : Array Value)[k]? = some (.pointer PA) ∧ Nil wz PA := by
        match k, hlt with
        | 0, _ => exact ⟨none, rfl, nil_none _⟩
        | 1, _ => exact ⟨some ⟨gz, 0, none⟩, rfl, nil_zero (SZ'.out.drop.blk0.cell 0)⟩
      have cp : wr.cell? ⟨gz + 1, k, none⟩ = some (.pointer PA) := hK.cell (by rw [SZ'.out.blk0.cell]; exact hpa) (by simp)
      have HN := Lib.hid hnil
      have K0 := Lib.hid hK
      clear hnil hpa hK
      have HX := Lib.hid (nLoad (HN.out.kept K0.out) 1 0)
      go_wp2_with fail
      refine HX.out.mono ?_
      rintro e v1 ⟨rfl, hk⟩
      have K1 := Lib.hid (K0.out.trans' hk)
      clear HX hk
      have HX := Lib.hid (nStore (HN.out.kept K1.out) 1 0 1)
      go_wp2_with fail
      refine HX.out.mono ?_
      rintro e v2 ⟨rfl, hk⟩
      have K2 := Lib.hid (K1.out.trans' hk)
      clear HX hk
      have HX := Lib.hid (nMark (HN.out.kept K2.out))
      go_wp2_with fail
      refine HX.out.mono ?_
      rintro e v3 ⟨rfl, hk⟩
      have K3 := Lib.hid (K2.out.trans' hk)
      clear HX hk
      have HX := Lib.hid (nBack (HN.out.kept K3.out))
      go_wp2_with fail
      refine HX.out.mono ?_
      rintro e v4 ⟨rfl, hk⟩
      have K4 := Lib.hid (K3.out.trans' hk)
      clear HX hk
      have HX := Lib.hid (nKeep (HN.out.kept K4.out))
      go_wp2_with fail
      refine HX.out.mono ?_
      rintro e v5 ⟨rfl, hk⟩
      have K5 := Lib.hid (K4.out.trans' hk)
      clear HX hk
      have HX := Lib.hid (nAll (HN.out.kept K5.out) 1)
      go_wp2_with fail
      refine HX.out.mono ?_
      rintro e v6 ⟨rfl, hk⟩
      have K6 := Lib.hid (K5.out.trans' hk)
      clear HX hk
      have KE := Lib.hid (K6.out.trans' (Kept.alloc [] v6 (.cells #[.int .i64 1, .int .i64 1, .int .i64 1, .int .i64 1, .int .i64 1, .int .i64 1] 33)))
      have be : Blk (v6.alloc (.cells #[.int .i64 1, .int .i64 1, .int .i64 1, .int .i64 1, .int .i64 1, .int .i64 1] 33)) v6.heap.size 33 #[.int .i64 1, .int .i64 1, .int .i64 1, .int .i64 1, .int .i64 1, .int .i64 1] := Blk.new _ _ _
      go_upto_region 46 with fail
      generalize v6.alloc (.cells #[.int .i64 1, .int .i64 1, .int .i64 1, .int .i64 1, .int .i64 1, .int .i64 1] 33) = we at *
      generalize v6.heap.size = ge at *
      have BE := Lib.hid be
      clear be
      go_wp2
      go_loopw [236] (fun i wr => ∃ j : Nat, j ≤ 6 ∧ i = .int .i64 j ∧ wr = we) (fun i _ => 6 - (intOf i).toNat)
      case atStart => exact ⟨0, by omega, rfl, rfl⟩
      case round =>
        obtain ⟨j, hj, rfl, rfl⟩ := hrel
        by_cases hj6 : j < 6
        · have hj' : (j : Int) < 6 := by omega
          have ce : wr.cell? ⟨ge, j, none⟩ = some (.int .i64 1) := by
            rw [BE.out.cell]
            match j, hj6 with
            | 0, _ => rfl
            | 1, _ => rfl
            | 2, _ => rfl
            | 3, _ => rfl
            | 4, _ => rfl
            | 5, _ => rfl
          go_wp2
          go_roundw
          case rel => exact ⟨j + 1, by omega, by go_num, trivial⟩
          case measure => simp [intOf]; omega
        · obtain rfl : j = 6 := by omega
          have HX := Lib.hid (nMarks (HN.out.kept KE.out))
          go_wp2_with fail
          refine HX.out.mono ?_
          rintro e y1 ⟨rfl, hk⟩
          have L1 := Lib.hid (KE.out.trans' hk)
          clear HX hk
          have HX := Lib.hid (nChanges (HN.out.kept L1.out))
          go_wp2_with fail
          refine HX.out.mono ?_
          rintro e y2 ⟨rfl, hk⟩
          have L2 := Lib.hid (L1.out.trans' hk)
          clear HX hk
          have HX := Lib.hid (nPlan (HN.out.kept L2.out))
          go_wp2_with fail
          refine HX.out.mono ?_
          rintro e y3 ⟨rfl, hk⟩
          have L3 := Lib.hid (L2.out.trans' hk)
          clear HX hk
          have HX := Lib.hid (nCopy (HN.out.kept L3.out))
          go_wp2_with fail
          refine HX.out.mono ?_
          rintro e y4 ⟨rfl, hk⟩
          have L4 := Lib.hid (L3.out.trans' hk)
          clear HX hk
          go_wp2
          go_roundw
          case rel => exact ⟨k + 1, by omega, by go_num, L4.out⟩
          case measure => simp [intOf]; omega
    · obtain rfl : k = 2 := by omega
      have K9 := Lib.hid (SZ'.out.whole.trans' hK)
      clear hK
      go_wp2_with fail
      refine (awake_calls wr).mono ?_
      rintro e wf ⟨rfl, hk⟩
      have K10 := Lib.hid (K9.out.trans' hk)
      clear hk
      go_wp2
      go_ret
      exact ⟨rfl, K10.out⟩
end Go.Proofs.Ytlfaoibgmbbacaa
