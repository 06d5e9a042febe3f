/- The iterator over all cells of a memory. -/
import Derived.Test.YtlfaoibgmbbacaaAll
import Derived.RangeFuncNested
import Derived.RangeFuncBound
import Derived.RangeFuncCalls
import Derived.RangeFuncLeaves
import Derived.Shelf.Abstract
import Derived.Shelf.RegionOpen
import Derived.OwnWalkIn
import Derived.TacticsInMore
import Derived.LoopNIn
import Derived.LoopIn
import Derived.Maps.OwnIn
namespace Go.Proofs.Ytlfaoibgmbbacaa
open Go.RowKit Go.Shelf
open Go.ChangeMaps (setBlock)
attribute [local go_sem] Oper.semAt_some

def rowUp (now : List (List Int)) (i j : Nat) : List ((Nat × Nat) × Int) := (List.range j).map fun j' => ((i, j'), look now (i, j'))
def cellsUp (now : List (List Int)) (k : Nat) : List ((Nat × Nat) × Int) := (List.range k).flatMap fun i => rowUp now i (now[i]?.getD []).length
def cellsOf (now : List (List Int)) : List ((Nat × Nat) × Int) := cellsUp now now.length
theorem rowUp_succ (now : List (List Int)) (i j : Nat) : rowUp now i (j + 1) = rowUp now i j ++ [((i, j), look now (i, j))] := by
  simp [rowUp, List.range_succ]
theorem cellsUp_succ (now : List (List Int)) (k : Nat) : cellsUp now (k + 1) = cellsUp now k ++ rowUp now k (now[k]?.getD []).length := by
  simp [cellsUp, List.range_succ]
theorem cellsUp_le {now : List (List Int)} {k : Nat} : ∀ {n : Nat}, k ≤ n → (cellsUp now k).length ≤ (cellsUp now n).length
  | 0, h => by obtain rfl : k = 0 := by omega
               exact Nat.le_refl _
  | n + 1, h => by
    rcases Nat.lt_or_ge k (n + 1) with h1 | h1
    · rw [cellsUp_succ, List.length_append]
      have := cellsUp_le (now := now) (k := k) (n := n) (by omega)
      omega
    · obtain rfl : k = n + 1 := by omega
      exact Nat.le_refl _
theorem cellsUp_lt {now : List (List Int)} {k j : Nat} {xs : List Int} (h : now[k]? = some xs) (hj : j < xs.length) : (cellsUp now k ++ rowUp now k j).length < (cellsOf now).length := by
  have hk := (List.getElem?_eq_some_iff.1 h).1
  have h1 := cellsUp_le (now := now) (k := k + 1) (n := now.length) hk
  rw [cellsUp_succ, h] at h1
  simp only [List.length_append, rowUp, List.length_map, List.length_range, Option.getD_some, cellsOf] at h1 ⊢
  omega
def cellEnc (x : (Nat × Nat) × Int) : Array Value := #[placeV x.1, numV x.2]

theorem all_calls (a : Nat) (w : World) :
    Calls Try.prog 32 #[.pointer (some ⟨a, 0, none⟩)] w fun e w' => e = .returned (.func (.func 45) #[] #[.pointer (some ⟨w.heap.size, 0, none⟩)]) ∧ w.alloc (.cells #[.pointer (some ⟨a, 0, none⟩)] 24) = w' := by
  go_enter Try.func32, Try.ntmps32
  go_wp2
  go_ret
  exact ⟨rfl, rfl⟩

theorem below_kept {B : Nat} {w w' : World} (h : Below B w w') : Kept ((List.range w.heap.size).filter fun b => decide (B ≤ b)) w w' :=
  ⟨h.os, h.tape, h.output, h.size, fun b hb hn => h.block b (by
    rcases Nat.lt_or_ge b B with h1 | h1
    · exact h1
    · exact absurd (List.mem_filter.2 ⟨List.mem_range.2 hb, by simpa using h1⟩) hn)⟩
theorem MemB.below {w w' : World} {a B : Nat} {rv mv : Value} {rows : List RowL} {tops : List TopL} (h : MemB w a rv rows mv tops) (hb : Below B w w') (hf : ∀ b ∈ foot a rv rows mv tops, b < B) : MemB w' a rv rows mv tops :=
  h.kept (below_kept hb) fun b hm hn => by
    have h1 := hf b hm
    have h2 := (List.mem_filter.1 hn).2
    simp only [decide_eq_true_eq] at h2
    omega

set_option maxRecDepth 100000 in
set_option maxHeartbeats 1000000 in
theorem all1_in (F : Fence) (n : Nat) (hF : F.fn 45) (hro : F.round = none) (hn : 1 ≤ n) (l bx n₀ a : Nat) (rv mv : Value) (rows : List RowL) (tops : List TopL) (J Jx : List ((Nat × Nat) × Int) → World → Prop)
    (hY : ∀ pre x W, J pre W → pre.length < (cellsOf (nowOf rows)).length → YieldAt F (n - 1) Try.prog l (cellEnc x) W fun e W' =>
      (e = .returned (.bool true) ∧ J (pre ++ [x]) W' ∧ Below n₀ W W') ∨ (e = .returned (.bool false) ∧ Jx (pre ++ [x]) W'))
    (W : World) (hbx : W.cell? ⟨bx, 0, none⟩ = some (.pointer (some ⟨a, 0, none⟩))) (hB : MemB W a rv rows mv tops) (hfo : ∀ b ∈ foot a rv rows mv tops, b < n₀) (h0 : J [] W) :
    CallsIn F n Try.prog 45 #[.func (.yield l) #[] #[], .pointer (some ⟨bx, 0, none⟩)] W fun e W' => (∃ v, e = .returned v) ∧
      ((∃ ys, ys = cellsOf (nowOf rows) ∧ J ys W') ∨ (∃ pre, True ∧ Jx pre W')) := by
  obtain ⟨R, rc, hrv⟩ := own_slice hB.rown
  have h1 := hB.cells
  rw [hrv] at h1
  have hfew := hB.few
  have H := Lib.hid hB
  have HR := Lib.hid hrv
  have HO := Lib.hid hfo
  have HY := Lib.hid hY
  have HJ := Lib.hid h0
  clear hB hrv hfo hY h0
  refine callsIn_of_wp Try.func45 rfl hF ?_ hro
  simp only [Try.ntmps45, List.size_toArray, List.length_cons, List.length_nil, Nat.reduceAdd, Nat.reduceSub, Array.replicate_succ, Array.replicate_zero, List.push_toArray, List.append_toArray, List.nil_append, List.cons_append]
  gi_wp2
  gi_loopw [12] (fun i wr => ∃ k : Nat, k ≤ rows.length ∧ i = .int .i64 k ∧ Below n₀ W wr ∧ J (cellsUp (nowOf rows) k) wr) (fun i _ => rows.length - (intOf i).toNat)
  case atStart => exact ⟨0, Nat.zero_le _, rfl, Below.refl _ _, HJ.out⟩
  case round =>
    obtain ⟨k, hk, rfl, hb, hJ⟩ := hrel
    by_cases hlt : k < rows.length
    · obtain ⟨r, hr⟩ : ∃ r, rows[k]? = some r := ⟨_, List.getElem?_eq_getElem hlt⟩
      have hB := H.out.below hb HO.out
      obtain ⟨g, cap, hrv, hgc⟩ := hB.rowAt hr
      have := HR.out.symm.trans hrv
      simp only [Value.slice.injEq, true_and] at this
      obtain ⟨rfl, rfl⟩ := this
      have hmem := List.mem_of_getElem? hr
      have hsh := hB.short r hmem
      simp only [RowL.val] at hgc
      have hbw := hb
      have P1 := Lib.hid hB
      have P2 := Lib.hid hr
      have P3 := Lib.hid hb
      have P4 := Lib.hid hJ
      have P5 := Lib.hid hmem
      clear hB hrv hb hJ hr hmem hbw
      gi_wp2
      obtain ⟨wo, rfl⟩ : ∃ wo : World, wo = wr := ⟨_, rfl⟩
      gi_loopw [19] (fun i wr => ∃ j : Nat, j ≤ r.xs.length ∧ i = .int .i64 j ∧ Below n₀ W wr ∧ J (cellsUp (nowOf rows) k ++ rowUp (nowOf rows) k j) wr) (fun i _ => r.xs.length - (intOf i).toNat)
      case atStart =>
        refine ⟨0, Nat.zero_le _, rfl, P3.out, ?_⟩
        have := P4.out
        simpa [rowUp] using this
      case round =>
        obtain ⟨j, hj, rfl, hb, hJ⟩ := hrel
        by_cases hjl : j < r.xs.length
        · have hB := H.out.below hb HO.out
          have hnow : (nowOf rows)[k]? = some r.xs := by rw [nowOf_get, P2.out]; rfl
          obtain ⟨hc, _⟩ := hB.cellAt P5.out (List.getElem?_eq_getElem hjl)
          have hlook : look (nowOf rows) (k, j) = r.xs[j] := by simp [look, hnow, hjl]
          obtain ⟨fn, tmps, assign, body, hy, hR⟩ := HY.out _ ((k, j), r.xs[j]) wr hJ (cellsUp_lt hnow hjl)
          simp only [cellEnc, placeV, numV] at hy
          have hbi := hb
          have Q1 := Lib.hid hb
          have Q2 := Lib.hid hR
          have Q3 := Lib.hid hlook
          have Q4 := Lib.hid hnow
          clear hB hb hJ hR hlook hnow hbi
          gi_wp2
          refine Q2.out.mono ?_
          rintro e W3 (⟨rfl, hJ3, hk3⟩ | ⟨rfl, hJx3⟩)
          · have R1 := Lib.hid hJ3
            have R2 := Lib.hid hk3
            clear hJ3 hk3
            gi_wp2
            go_roundw
            case rel =>
              refine ⟨j + 1, by omega, by go_num, Q1.out.trans R2.out, ?_⟩
              rw [rowUp_succ, Q3.out, ← List.append_assoc]
              exact R1.out
            case measure => simp [intOf]; omega
          · have R1 := Lib.hid hJx3
            clear hJx3
            gi_wp2
            refine bodyPost_ret (results_none rfl _ _ _) rfl ?_
            exact ⟨⟨_, rfl⟩, .inr ⟨_, trivial, R1.out⟩⟩
        · obtain rfl : j = r.xs.length := by omega
          have Q1 := Lib.hid hb
          have Q2 := Lib.hid hJ
          clear hb hJ
          gi_wp2
          go_roundw
          case rel =>
            have hnow : (nowOf rows)[k]? = some r.xs := by rw [nowOf_get, P2.out]; rfl
            refine ⟨k + 1, by omega, by go_num, Q1.out, ?_⟩
            rw [cellsUp_succ, hnow]
            exact Q2.out
          case measure => simp [intOf]; omega
    · obtain rfl : k = rows.length := by omega
      have Q1 := Lib.hid hb
      have Q2 := Lib.hid hJ
      clear hb hJ
      gi_wp2
      go_end0
      refine ⟨⟨_, rfl⟩, .inl ⟨_, ?_, Q2.out⟩⟩
      simp [cellsOf, nowOf]
end Go.Proofs.Ytlfaoibgmbbacaa
