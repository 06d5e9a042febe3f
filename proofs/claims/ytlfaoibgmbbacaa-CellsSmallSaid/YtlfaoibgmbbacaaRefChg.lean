/- The walk of the reference's Changes. -/
import Derived.Test.YtlfaoibgmbbacaaRefMark
namespace Go.Proofs.Ytlfaoibgmbbacaa
open Go.RowKit
theorem info102 : (Try.prog.info? 102).map (fun i => (i.zero, i.size, i.bytes)) = some (some (.agg #[.int .i64 0, .int .i64 0, .int .i64 0, .int .i64 0]), 4, 32) := by kernel_rfl
/-- What is told up to a cell. -/
def CM.upto (c : CM) (q j : Nat) : List Ch := (cellsUp c.now q ++ rowUp c.now q j).filterMap (chg c.base)
theorem upto_row (c : CM) {q : Nat} {xs : List Int} (hx : c.now[q]? = some xs) : c.upto q xs.length = c.upto (q + 1) 0 := by
  unfold CM.upto
  rw [cellsUp_succ, hx]
  simp [rowUp]
theorem upto_zero (c : CM) : c.upto 0 0 = [] := by simp [CM.upto, cellsUp, rowUp]
theorem upto_all (c : CM) : c.upto c.now.length 0 = c.changes := by simp [CM.upto, CM.changes, cellsOf, rowUp]
theorem upto_step (c : CM) {q j : Nat} {xs : List Int} {x old : Int} (hx : c.now[q]? = some xs) (hj : xs[j]? = some x) (ho : look c.base (q, j) = old) :
    c.upto q (j + 1) = c.upto q j ++ if old = x then [] else [((q, j), old, x)] := by
  unfold CM.upto
  rw [rowUp_succ, ← List.append_assoc, List.filterMap_append]
  congr 1
  have hl : look c.now (q, j) = x := by simp [look, hx, hj]
  simp only [List.filterMap_cons, List.filterMap_nil, chg, hl, ho]
  by_cases e : old = x
  · simp [e]
  · simp [e]
theorem upto_le (c : CM) (hn : c.now.length ≤ 16) (hs : ∀ xs ∈ c.now, xs.length ≤ 1024) {q j : Nat} {xs : List Int} (hx : c.now[q]? = some xs) (hj : j < xs.length) : (c.upto q j).length ≤ 16384 := by
  have h1 := cellsUp_lt hx hj
  have h2 : (c.upto q j).length ≤ (cellsUp c.now q ++ rowUp c.now q j).length := List.length_filterMap_le _ _
  have h3 : (cellsOf c.now).length ≤ 16384 := by
    have key : ∀ k, k ≤ c.now.length → (cellsUp c.now k).length ≤ k * 1024 := by
      intro k
      induction k with
      | zero => intro _; simp [cellsUp]
      | succ k ih =>
        intro hk
        rw [cellsUp_succ, List.length_append, List.getElem?_eq_getElem (by omega)]
        have := ih (by omega)
        have := hs c.now[k] (List.getElem_mem _)
        simp only [rowUp, List.length_map, List.length_range, Option.getD_some]
        omega
    have := key c.now.length (Nat.le_refl _)
    simp only [cellsOf]
    omega
  omega
/-- The value of a cell at the last mark, in the heap: none, where there is no mark. -/
theorem last_cell {w : World} {F : List Nat} {Am : Option Addr} {vm : List Value} {c : CM} (hm : MarksIs w F Am vm c.marks) (hsh : ∀ s ∈ c.marks, lens s = lens c.now) {q j : Nat} {xs : List Int} (hx : c.now[q]? = some xs) (hj : j < xs.length) :
    (c.marks = [] ∧ look c.base (q, j) = 0) ∨ ∃ (m : Nat) (bm om bu ou nu cu by' oy cy : Nat) (y : Int), c.marks.length = m + 1 ∧ Am = some ⟨bm, om, none⟩ ∧ q < nu ∧ look c.base (q, j) = y ∧ w.cell? ⟨bm, om + m, none⟩ = some (.slice (some ⟨bu, ou, none⟩) nu cu) ∧
      w.cell? ⟨bu, ou + q, none⟩ = some (.slice (some ⟨by', oy, none⟩) xs.length cy) ∧ w.cell? ⟨by', oy + j, none⟩ = some (.int .i64 y) := by
  obtain ⟨hm1, hm2, hm3⟩ := hm
  cases hl : c.marks.getLast? with
  | none =>
    left
    have : c.marks = [] := by simpa using hl
    exact ⟨this, by simp [CM.base, hl, look]⟩
  | some s =>
    right
    have hne : c.marks ≠ [] := by intro e; rw [e] at hl; simp at hl
    obtain ⟨m, hmm⟩ : ∃ m, c.marks.length = m + 1 := ⟨c.marks.length - 1, by have := List.length_pos_iff.2 hne; omega⟩
    have hs : c.marks[m]? = some s := by
      rw [List.getLast?_eq_getElem?, hmm] at hl
      simpa using hl
    obtain ⟨u, hu, Au, capu, vu, rfl, hr, hvl, hrows⟩ := hm3 m s hs
    have hsl := hsh s (List.mem_of_getElem? hs)
    have hq : s[q]?.map List.length = some xs.length := by
      have h1 : (lens s)[q]? = (lens c.now)[q]? := by rw [hsl]
      simp only [lens, List.getElem?_map, hx, Option.map_some] at h1
      exact h1
    obtain ⟨ys, hys, hyl⟩ := Option.map_eq_some_iff.1 hq
    obtain ⟨b, off, cb, hvq, hB⟩ := hrows q ys hys
    obtain ⟨y, hy⟩ : ∃ y, ys[j]? = some y := ⟨_, List.getElem?_eq_getElem (by omega)⟩
    obtain ⟨bm, om, rfl, _, _, hcm⟩ := hm1.resolve_left (by intro e; rw [e] at hu; simp at hu)
    obtain ⟨bu, ou, rfl, _, _, hcu⟩ := hr.resolve_left (by intro e; rw [e] at hvq; simp at hvq)
    obtain ⟨b', o', he, _, _, hcy⟩ := hB.resolve_left (by intro e; simp at e; rw [e] at hy; simp at hy)
    simp only [Option.some.injEq, Addr.mk.injEq, and_true] at he
    obtain ⟨rfl, rfl⟩ := he
    refine ⟨m, bm, om, bu, ou, s.length, capu, b, off, cb, y, hmm, rfl, ?_, ?_, hcm m _ hu, ?_, ?_⟩
    · exact (List.getElem?_eq_some_iff.1 hys).1
    · simp [CM.base, hl, look, hys, hy]
    · have := hcu q _ hvq
      rwa [hyl] at this
    · exact hcy j _ (by rw [List.getElem?_map, hy]; rfl)
set_option maxRecDepth 100000 in
set_option maxHeartbeats 4000000 in
theorem refChanges_calls {w : World} {F : List Nat} {v : Value} {c : CM} (h : RefIs w F v c) (hn : c.now.length ≤ 16) (hs : ∀ xs ∈ c.now, xs.length ≤ 1024) (h64 : c.marks.length ≤ 64) (hsh : ∀ s ∈ c.marks, lens s = lens c.now) :
    Calls Try.prog 48 #[v] w fun e w' => ∃ A cap, e = .returned (.slice A c.changes.length cap) ∧ w'.ownsRow w.heap.size 102 4 (.slice A c.changes.length cap) c.changes.length (flatC c.changes) ∧ Kept [] w w' := by
  obtain ⟨nv, mv, rfl, ⟨An, capn, vn, rfl, hr, hvl, hrows⟩, Am, capm, vm, rfl, _, hm⟩ := h
  obtain ⟨j0, hj, hy0, hy1, hy2⟩ := info_parts info102
  generalize hv : (w.alloc (.cells #[.slice An c.now.length capn, .slice Am c.marks.length capm] 86)) = w1
  have s0 : St w w1 [.blk w.heap.size 86 #[.slice An c.now.length capn, .slice Am c.marks.length capm]] := by rw [← hv]; exact (St.nil w).blkNew _ _
  have d0 : w1.cell? ⟨w.heap.size, 0, none⟩ = some (.slice An c.now.length capn) := s0.blk0.cell 0
  have d1 : w1.cell? ⟨w.heap.size, 1, none⟩ = some (.slice Am c.marks.length capm) := s0.blk0.cell 1
  have S0 := Lib.hid s0
  have HR := Lib.hid hr
  have HW := Lib.hid hrows
  have HS := Lib.hid hs
  have HM : Hid (MarksIs w F Am vm c.marks) := Lib.hid hm
  have HSH := Lib.hid hsh
  clear hr hvl hrows hs hm hsh s0
  go_enter Try.func48, Try.ntmps48
  go_wp2
  clear hv d0 d1
  go_loopw [3, 4] (fun o i wr => ∃ (q : Nat), q ≤ c.now.length ∧ i = .int .i64 q ∧ wr.ownsRow w1.heap.size 102 4 o (c.upto q 0).length (flatC (c.upto q 0)) ∧ Kept [] w1 wr) (fun _ i _ => c.now.length - (intOf i).toNat)
  case atStart => exact ⟨0, Nat.zero_le _, rfl, by rw [upto_zero]; exact World.ownsRow_nil _ _ _ _, Kept.refl _ _⟩
  case round =>
    obtain ⟨q, hq, rfl, hO, hK⟩ := hrel
    obtain ⟨R1, q1, rfl⟩ := own_slice hO
    have hb := hK.blk S0.out.blk0 (by simp)
    have d0 : wr.cell? ⟨w.heap.size, 0, none⟩ = some (.slice An c.now.length capn) := hb.cell 0
    have d1 : wr.cell? ⟨w.heap.size, 1, none⟩ = some (.slice Am c.marks.length capm) := hb.cell 1
    have X1 := Lib.hid hO
    have X2 := Lib.hid hK
    clear hb hO hK
    by_cases hlt : q < c.now.length
    · obtain ⟨xs, hx⟩ : ∃ xs, c.now[q]? = some xs := ⟨_, List.getElem?_eq_getElem hlt⟩
      have hxs := HS.out xs (List.mem_of_getElem? hx)
      obtain ⟨bx, ox, cb, hvk, hB⟩ := HW.out q xs hx
      obtain ⟨b0, off0, rfl, hb1, hb2, hc⟩ := HR.out.resolve_left (by intro e; rw [e] at hvk; simp at hvk)
      have HC : Hid (∀ W, Kept [] w1 W → W.cell? ⟨b0, off0 + q, none⟩ = some (.slice (some ⟨bx, ox, none⟩) xs.length cb)) := Lib.hid fun W hW => (S0.out.whole.trans' hW).cell (hc q _ hvk) (by simp)
      have HB := Lib.hid hB
      have HX := Lib.hid hx
      have HUP := Lib.hid (upto_row c hx)
      clear hvk hB hc hx
      go_wp2
      clear d0 d1
      go_loopw [3, 5] (fun o i wx => ∃ (j : Nat), j ≤ xs.length ∧ i = .int .i64 j ∧ wx.ownsRow w1.heap.size 102 4 o (c.upto q j).length (flatC (c.upto q j)) ∧ Kept [] w1 wx) (fun _ i _ => xs.length - (intOf i).toNat)
      case atStart => exact ⟨0, Nat.zero_le _, rfl, X1.out, X2.out⟩
      case round =>
        obtain ⟨j, hjl, rfl, hO, hK⟩ := hrel
        obtain ⟨R2, q2, rfl⟩ := own_slice hO
        rename World => wx
        have hb := hK.blk S0.out.blk0 (by simp)
        have d0 : wx.cell? ⟨w.heap.size, 0, none⟩ = some (.slice (some ⟨b0, off0, none⟩) c.now.length capn) := hb.cell 0
        have d1 : wx.cell? ⟨w.heap.size, 1, none⟩ = some (.slice Am c.marks.length capm) := hb.cell 1
        have d2 := HC.out wx hK
        have X1 := Lib.hid hO
        have X2 := Lib.hid hK
        have hsz := hK.size
        clear hb hO hK
        by_cases hlj : j < xs.length
        · obtain ⟨x, hxj⟩ : ∃ x, xs[j]? = some x := ⟨_, List.getElem?_eq_getElem hlj⟩
          obtain ⟨b', o', he, _, _, hcx⟩ := HB.out.resolve_left (by intro e; simp at e; rw [e] at hxj; simp at hxj)
          simp only [Option.some.injEq, Addr.mk.injEq, and_true] at he
          obtain ⟨rfl, rfl⟩ := he
          have d3 : wx.cell? ⟨bx, ox + j, none⟩ = some (.int .i64 x) := (S0.out.whole.trans' X2.out).cell (hcx j _ (by rw [List.getElem?_map, hxj]; rfl)) (by simp)
          have hle := upto_le c hn HS.out HX.out hlj
          clear hcx
          rcases last_cell HM.out HSH.out HX.out hlj with ⟨hm0, hlk⟩ | ⟨m, bm, om, bu, ou, nu, cu, by', oy, cy, y, hm1, rfl, hqn, hlk, hcm, hcu, hcy⟩
          · have hst := upto_step c HX.out hxj hlk
            have hm0' : c.marks.length = 0 := by rw [hm0]; rfl
            rw [hm0'] at d1
            clear hm0 hm0' hlk hxj
            have HST := Lib.hid hst
            clear hst
            by_cases hxe : 0 = x
            · have hb : (x != 0) = false := by simp [hxe]
              have HS2 := Lib.hid (HST.out.trans (by rw [if_pos hxe, List.append_nil]))
              clear hxe
              go_wp2
              go_roundw
              case rel => exact ⟨j + 1, by omega, by go_num, by rw [HS2.out]; exact X1.out, X2.out⟩
              case measure => simp [intOf]; omega
            · have hb : (x != 0) = true := by simp only [bne_iff_ne, ne_eq]; exact fun h => hxe h.symm
              have HS2 := Lib.hid (HST.out.trans (by rw [if_neg hxe]))
              have HCN := Lib.hid (cell_row_new wx [.int .i64 ((q : Int) + 1), .int .i64 (j : Int), .int .i64 0, .int .i64 x] 102)
              clear hxe
              go_wp2_with (at_builtin
                           refine wpList_append_own_at _ rfl _ _ 100 rfl w1.heap.size 102 j0 (.agg #[.int .i64 0, .int .i64 0, .int .i64 0, .int .i64 0]) 4 32 Try.underlying100 hj hy0 hy1 hy2 rfl (by decide) (.slice R2 (c.upto q j).length q2) (c.upto q j).length (flatC (c.upto q j)) rfl (X1.out.alloc _) ⟨wx.heap.size, 0, none⟩ 1 1 [.int .i64 ((q : Int) + 1), .int .i64 (j : Int), .int .i64 0, .int .i64 x] rfl rfl HCN.out (by simp [Value.oneCell']) (by unfold maxLen; omega) (by omega) (by simp; omega) ?_
                           intro v' w5 hown' hgrow hnil hloc
                           have Y2 := Lib.hid hown'
                           have Y3 := Lib.hid hgrow
                           clear hown' hgrow hnil hloc)
              go_roundw
              case rel =>
                refine ⟨j + 1, by omega, by go_num, ?_, ?_⟩
                · rw [HS2.out, List.length_append]
                  have : flatC (c.upto q j ++ [((q, j), 0, x)]) = flatC (c.upto q j) ++ [.int .i64 ((q : Int) + 1), .int .i64 (j : Int), .int .i64 0, .int .i64 x] := by simp [flatC, chV]
                  rw [this]
                  exact Y2.out
                · refine X2.out.trans ((Kept.alloc (Value.slice R2 (c.upto q j).length q2).ownBlock.toList _ _).trans' (Kept.grown Y3.out (by simp))) fun b hb => .inr ((X1.out.lt b (by simpa using hb)).1)
              case measure => simp [intOf]; omega
          · have hst := upto_step c HX.out hxj hlk
            have e1 := (S0.out.whole.trans' X2.out).cell hcm (by simp)
            have e2 := (S0.out.whole.trans' X2.out).cell hcu (by simp)
            have e3 := (S0.out.whole.trans' X2.out).cell hcy (by simp)
            rw [hm1] at d1
            have hm2 : m < 64 := by omega
            clear hm1 hlk hxj hcm hcu hcy
            have HST := Lib.hid hst
            clear hst
            by_cases hxe : y = x
            · have hb : (x != y) = false := by simp [hxe]
              have HS2 := Lib.hid (HST.out.trans (by rw [if_pos hxe, List.append_nil]))
              clear hxe
              go_wp2
              go_roundw
              case rel => exact ⟨j + 1, by omega, by go_num, by rw [HS2.out]; exact X1.out, X2.out⟩
              case measure => simp [intOf]; omega
            · have hb : (x != y) = true := by simp only [bne_iff_ne, ne_eq]; exact fun h => hxe h.symm
              have HS2 := Lib.hid (HST.out.trans (by rw [if_neg hxe]))
              have HCN := Lib.hid (cell_row_new wx [.int .i64 ((q : Int) + 1), .int .i64 (j : Int), .int .i64 y, .int .i64 x] 102)
              clear hxe
              go_wp2_with (at_builtin
                           refine wpList_append_own_at _ rfl _ _ 100 rfl w1.heap.size 102 j0 (.agg #[.int .i64 0, .int .i64 0, .int .i64 0, .int .i64 0]) 4 32 Try.underlying100 hj hy0 hy1 hy2 rfl (by decide) (.slice R2 (c.upto q j).length q2) (c.upto q j).length (flatC (c.upto q j)) rfl (X1.out.alloc _) ⟨wx.heap.size, 0, none⟩ 1 1 [.int .i64 ((q : Int) + 1), .int .i64 (j : Int), .int .i64 y, .int .i64 x] rfl rfl HCN.out (by simp [Value.oneCell']) (by unfold maxLen; omega) (by omega) (by simp; omega) ?_
                           intro v' w5 hown' hgrow hnil hloc
                           have Y2 := Lib.hid hown'
                           have Y3 := Lib.hid hgrow
                           clear hown' hgrow hnil hloc)
              go_roundw
              case rel =>
                refine ⟨j + 1, by omega, by go_num, ?_, ?_⟩
                · rw [HS2.out, List.length_append]
                  have : flatC (c.upto q j ++ [((q, j), y, x)]) = flatC (c.upto q j) ++ [.int .i64 ((q : Int) + 1), .int .i64 (j : Int), .int .i64 y, .int .i64 x] := by simp [flatC, chV]
                  rw [this]
                  exact Y2.out
                · refine X2.out.trans ((Kept.alloc (Value.slice R2 (c.upto q j).length q2).ownBlock.toList _ _).trans' (Kept.grown Y3.out (by simp))) fun b hb => .inr ((X1.out.lt b (by simpa using hb)).1)
              case measure => simp [intOf]; omega
        · obtain rfl : j = xs.length := by omega
          clear hjl hlj
          have hO := X1.out
          rw [HUP.out] at hO
          have X3 := Lib.hid hO
          clear hO X1
          go_wp2
          go_roundw
          case rel => exact ⟨q + 1, by omega, by go_num, by rw [HUP.out]; exact X3.out, X2.out⟩
          case measure => simp [intOf]; omega
    · obtain rfl : q = c.now.length := by omega
      have hO := X1.out
      rw [upto_all] at hO
      have X3 := Lib.hid hO
      have hw : w.heap.size ≤ w1.heap.size := S0.out.whole.size
      have hK2 := S0.out.whole.trans' X2.out
      have K2 := Lib.hid hK2
      rw [upto_all]
      clear hO X1 hK2 hq hlt
      go_wp2
      go_ret
      exact ⟨R1, q1, rfl, own_base X3.out hw, K2.out⟩
end Go.Proofs.Ytlfaoibgmbbacaa
