/- The walk of Tells of the laws on cells: what a memory tells is what the reference tells. -/
import Derived.Test.YtlfaoibgmbbacaaRefNew
import Derived.BigQuiet
namespace Go.Proofs.Ytlfaoibgmbbacaa
open Go.RowKit
theorem own_some {w : World} {base n q size : Nat} {e : TypeId} {R : Option Addr} {xs : List Value} (h : w.ownsRow base e size (.slice R n q) n xs) (hx : xs ≠ []) :
    ∃ g, R = some ⟨g, 0, none⟩ ∧ ∀ j u, xs[j]? = some u → w.cell? ⟨g, j, none⟩ = some u ∧ w.frozen? ⟨g, j, none⟩ = false := by
  rcases h.2 with ⟨e1, e2⟩ | ⟨g, cap, cur, e1, hb, hg, hnc, hcm, hcs, ht⟩
  · subst e2
    exact absurd (List.eq_nil_of_length_eq_zero (by simpa using h.1)) hx
  · cases e1
    have hb' : Blk w g e cur := hg
    refine ⟨g, rfl, fun j u hj => ⟨?_, hb'.frozen j⟩⟩
    rw [hb'.cell j, ← Array.getElem?_toList]
    rw [← ht] at hj
    have hlt := (List.getElem?_eq_some_iff.1 hj).1
    rw [List.getElem?_take] at hj
    split at hj
    · exact hj
    · cases hj
theorem own_put {w : World} {base n cap size g : Nat} {e : TypeId} {xs : List Value} (h : w.ownsRow base e size (.slice (some ⟨g, 0, none⟩) n cap) n xs) (j : Nat) (y : Value) :
    (w.setCell ⟨g, j, none⟩ y).ownsRow base e size (.slice (some ⟨g, 0, none⟩) n cap) n (xs.set j y) := by
  refine ⟨by rw [List.length_set]; exact h.1, ?_⟩
  rcases h.2 with ⟨e1, _⟩ | ⟨g', cap', cur, e1, hb, hg, hnc, hcm, hcs, ht⟩
  · cases e1
  · cases e1
    have hb' : Blk w g e cur := hg
    refine .inr ⟨g, cap, cur.setIfInBounds j y, rfl, hb, hb'.set_ j y, hnc, hcm, by simpa using hcs, ?_⟩
    rw [← ht, Array.toList_setIfInBounds, List.take_set]
theorem St.rowPut {w0 w : World} {rs : List Res} {g n cap size : Nat} {e : TypeId} {xs : List Value} (h : St w0 w (.row (.slice (some ⟨g, 0, none⟩) n cap) e size n xs :: rs)) (j : Nat) (y : Value) :
    St w0 (w.setCell ⟨g, j, none⟩ y) (.row (.slice (some ⟨g, 0, none⟩) n cap) e size n (xs.set j y) :: rs) := by
  obtain ⟨F1, h1, h2⟩ := h.head
  obtain ⟨ho, rfl⟩ := h1
  exact h2 (R' := .row _ _ _ _ _) (row_on (own_put ho j y)) (Kept.setCell (by simp [Value.ownBlock]) _ _) fun b hb => .inl hb
theorem IsMem.facts {w : World} {a : Nat} {c : CM} {F : List Nat} (h : IsMem w a c F) : c.now.length ≤ 16 ∧ (∀ xs ∈ c.now, xs.length ≤ 1024) ∧ c.marks.length ≤ 64 ∧ ∀ s ∈ c.marks, lens s = lens c.now := by
  obtain ⟨rv, rows, mv, tops, h1, h2, h3, _⟩ := h
  refine ⟨?_, ?_, ?_, ?_⟩
  · rw [← h2]; simpa [nowOf] using h1.few
  · intro xs hx
    rw [← h2] at hx
    obtain ⟨r, hr, rfl⟩ := List.mem_map.1 hx
    exact h1.short r hr
  · rw [← h3]; simpa [snapsOf] using h1.low
  · intro s hs
    rw [← h3] at hs
    obtain ⟨t, ht, rfl⟩ := List.mem_map.1 hs
    rw [← h2]
    exact h1.shape t ht
set_option maxRecDepth 100000 in
set_option maxHeartbeats 8000000 in
theorem Tells_calls {w : World} {a : Nat} {c : CM} {F G : List Nat} {v : Value} (H : IsMem w a c F) (hR : RefIs w G v c) :
    Calls Try.prog 43 #[.pointer (some ⟨a, 0, none⟩), v] w fun e w' => e = .returned (.bool true) ∧ Kept [] w w' := by
  obtain ⟨f1, f2, f3, f4⟩ := H.facts
  have HT : Hid (∀ W, Kept [] w W → IsMem W a c F) := Lib.hid fun W hk => H.keptNil hk
  have HRR : Hid (∀ W, Kept [] w W → RefIs W G v c) := Lib.hid fun W hk => hR.kept hk (by simp)
  obtain ⟨nv, mv, rfl, ⟨An, capn, vn, rfl, hr, hvl, hrows⟩, Am, capm, vm, rfl, hcap, hm⟩ := hR
  have HRD := Lib.hid hr
  have HW := Lib.hid hrows
  have F2 := Lib.hid f2
  have F4 := Lib.hid f4
  generalize hv : (w.alloc (.cells #[.slice An c.now.length capn, .slice Am c.marks.length capm] 86)) = w1
  have s0 : St w w1 [.blk w.heap.size 86 #[.slice An c.now.length capn, .slice Am c.marks.length capm]] := by rw [← hv]; exact (St.nil w).blkNew _ _
  have d0 : w1.cell? ⟨w.heap.size, 0, none⟩ = some (.slice An c.now.length capn) := s0.blk0.cell 0
  have d1 : w1.cell? ⟨w.heap.size, 1, none⟩ = some (.slice Am c.marks.length capm) := s0.blk0.cell 1
  have S0 := Lib.hid s0
  have HL := Lib.hid (refChanges_calls (HRR.out w1 s0.whole) f1 f2 f3 f4)
  have hch : c.changes.length ≤ 16384 := by
    have h2 : c.changes.length ≤ (cellsOf c.now).length := List.length_filterMap_le _ _
    have key : ∀ k, k ≤ c.now.length → (cellsUp c.now k).length ≤ k * 1024 := by
      intro k
      induction k with
      | zero => intro _; simp [cellsUp]
      | succ k ih =>
        intro hk
        rw [cellsUp_succ, List.length_append, List.getElem?_eq_getElem (by omega)]
        have := ih (by omega)
        have := f2 c.now[k] (List.getElem_mem _)
        simp only [rowUp, List.length_map, List.length_range, Option.getD_some]
        omega
    have := key c.now.length (Nat.le_refl _)
    simp only [cellsOf] at h2
    omega
  clear H hr hrows hvl hm s0 f2 f4 hcap
  go_enter Try.func43, Try.ntmps43
  go_wp2_with fail
  refine HL.out.mono ?_
  rintro e w2 ⟨R, q, rfl, ho, hk⟩
  have s1 := S0.out.fresh1 ho hk
  have HALL := Lib.hid (Changes_calls (HT.out w2 s1.whole))
  have S1 := Lib.hid s1
  clear ho hk s1 HL d0 d1 hv
  generalize c.changes = ch at *
  go_wp2_with fail
  refine HALL.out.mono ?_
  rintro e w3 ⟨R2, q2, rfl, ho, hk⟩
  have s2 := S1.out.fresh1 ho hk
  have HMK : Hid (∀ n, Calls Try.prog 14 #[.pointer (some ⟨a, 0, none⟩)] (w3.drewN n) fun e w' => e = .returned (.int .i64 c.marks.length) ∧ w' = w3.drewN n) := Lib.hid fun n => by
    have := Marks_calls (HT.out _ (s2.whole.trans' (Kept.drewN _ _ n)))
    exact this.mono fun e w' h => ⟨h.1, h.2.symm⟩
  have d1 : w3.cell? ⟨w.heap.size, 1, none⟩ = some (.slice Am c.marks.length capm) := s2.blk2.cell 1
  have q1 : ((ch.length : Int) != (ch.length : Int)) = false := by simp
  have q3 : ((c.marks.length : Int) != (c.marks.length : Int)) = false := by simp
  have S2 := Lib.hid s2
  clear ho hk s2 HALL
  go_wp2
  go_quiet (first | (go_at_call 14; refine Calls.quiet_of_same (HMK.out _)))
  have s3 := S2.out.kept (Kept.drewN _ _ nq)
  generalize w3.drewN nq = w4 at *
  have S3 : Hid (St w w4 [.row (.slice R2 ch.length q2) 39 4 ch.length (flatC ch), .row (.slice R ch.length q) 102 4 ch.length (flatC ch), .blk w.heap.size 86 #[.slice An c.now.length capn, .slice Am c.marks.length capm]]) := Lib.hid s3
  clear s3 d1 HMK S2 S1 S0
  go_wp2
  go_loopw [38] (fun i wr => ∃ (k : Nat) (cs : List Value), k ≤ ch.length ∧ i = .int .i64 k ∧ cs.length = ch.length * 4 ∧ (∀ j u, k * 4 ≤ j → (flatC ch)[j]? = some u → cs[j]? = some u) ∧ St w wr [.row (.slice R2 ch.length q2) 39 4 ch.length cs, .row (.slice R ch.length q) 102 4 ch.length (flatC ch), .blk w.heap.size 86 #[.slice An c.now.length capn, .slice Am c.marks.length capm]]) (fun i _ => ch.length - (intOf i).toNat)
  case atStart => exact ⟨0, _, Nat.zero_le _, rfl, flatC_len _, fun _ _ _ h => h, S3.out⟩
  case round =>
    obtain ⟨k, cs, hk, rfl, hcl, hcs, hS⟩ := hrel
    by_cases hlt : k < ch.length
    · obtain ⟨x, hx⟩ : ∃ x, ch[k]? = some x := ⟨_, List.getElem?_eq_getElem hlt⟩
      obtain ⟨b1, o1, rfl, hc1⟩ := (own_reads hS.drop.row).resolve_left (by intro e; rw [flatC_nil.1 e] at hx; simp at hx)
      obtain ⟨g2, rfl, hcells⟩ := own_some hS.row (by intro e; rw [e] at hcl; simp at hcl; omega)
      obtain ⟨⟨x1, x2⟩, x3, x4⟩ := x
      have hcell : ∀ i u, i < 4 → (chV ((x1, x2), x3, x4))[i]? = some u → wr.cell? ⟨g2, k * 4 + i, none⟩ = some u ∧ wr.frozen? ⟨g2, k * 4 + i, none⟩ = false := fun i u hi hu => hcells _ _ (hcs _ _ (by omega) (flatC_get hx hi hu))
      have a0 : wr.cell? ⟨g2, k * 4, none⟩ = some (.int .i64 ((x1 : Int) + 1)) := (hcell 0 _ (by omega) rfl).1
      have a1 : wr.cell? ⟨g2, k * 4 + 1, none⟩ = some (.int .i64 (x2 : Int)) := (hcell 1 _ (by omega) rfl).1
      have a2 : wr.cell? ⟨g2, k * 4 + 2, none⟩ = some (.int .i64 x3) := (hcell 2 _ (by omega) rfl).1
      have a3 : wr.cell? ⟨g2, k * 4 + 3, none⟩ = some (.int .i64 x4) := (hcell 3 _ (by omega) rfl).1
      have hs1 := hS.blkNew 39 #[.int .i64 ((x1 : Int) + 1), .int .i64 (x2 : Int), .int .i64 x3, .int .i64 x4]
      have T1 := Lib.hid hs1
      have HCL := Lib.hid hcl
      have HCS := Lib.hid hcs
      have HC1 := Lib.hid hc1
      have HX := Lib.hid hx
      clear hS hs1 hcl hcs hc1 hx hcells hcell
      go_wp2
      generalize hW : wr.alloc (.cells #[.int .i64 ((x1 : Int) + 1), .int .i64 (x2 : Int), .int .i64 x3, .int .i64 x4] 39) = W at *
      have kd : Kept [] wr W := by rw [← hW]; exact Kept.alloc _ _ _
      have bh := T1.out.blk0
      have e0 : W.cell? ⟨wr.heap.size, 0, none⟩ = some (.int .i64 ((x1 : Int) + 1)) := bh.cell 0
      have e1 : W.cell? ⟨wr.heap.size, 1, none⟩ = some (.int .i64 (x2 : Int)) := bh.cell 1
      have e2 : W.cell? ⟨wr.heap.size, 2, none⟩ = some (.int .i64 x3) := bh.cell 2
      have e3 : W.cell? ⟨wr.heap.size, 3, none⟩ = some (.int .i64 x4) := bh.cell 3
      have g0 : W.cell? ⟨b1, o1 + k * 4, none⟩ = some (.int .i64 ((x1 : Int) + 1)) := kd.cell (HC1.out (k * 4 + 0) _ (flatC_get HX.out (by omega) rfl)) (by simp)
      have g1 : W.cell? ⟨b1, o1 + k * 4 + 1, none⟩ = some (.int .i64 (x2 : Int)) := kd.cell (HC1.out (k * 4 + 1) _ (flatC_get HX.out (by omega) rfl)) (by simp)
      have g2' : W.cell? ⟨b1, o1 + k * 4 + 2, none⟩ = some (.int .i64 x3) := kd.cell (HC1.out (k * 4 + 2) _ (flatC_get HX.out (by omega) rfl)) (by simp)
      have g3 : W.cell? ⟨b1, o1 + k * 4 + 3, none⟩ = some (.int .i64 x4) := kd.cell (HC1.out (k * 4 + 3) _ (flatC_get HX.out (by omega) rfl)) (by simp)
      clear bh kd hW a0 a1 a2 a3
      go_quiet (fail)
      have s4 := (T1.out.kept (Kept.drewN _ _ nq)).drop
      clear e0 e1 e2 e3 g0 g1 g2' g3 T1
      generalize W.drewN nq = W2 at *
      have S4 : Hid (St w W2 [.row (.slice (some ⟨g2, 0, none⟩) ch.length q2) 39 4 ch.length cs, .row (.slice (some ⟨b1, o1, none⟩) ch.length q) 102 4 ch.length (flatC ch), .blk w.heap.size 86 #[.slice An c.now.length capn, .slice Am c.marks.length capm]]) := Lib.hid s4
      obtain ⟨g3, hg3, hcells⟩ := own_some S4.out.row (by intro e; have := HCL.out; rw [e] at this; simp at this; omega)
      obtain rfl : g2 = g3 := by simpa using hg3
      have hcell : ∀ i u, i < 4 → (chV ((x1, x2), x3, x4))[i]? = some u → W2.cell? ⟨g2, k * 4 + i, none⟩ = some u ∧ W2.frozen? ⟨g2, k * 4 + i, none⟩ = false := fun i u hi hu => hcells _ _ (HCS.out _ _ (by omega) (flatC_get HX.out hi hu))
      have a0 : W2.cell? ⟨g2, k * 4, none⟩ = some (.int .i64 ((x1 : Int) + 1)) := (hcell 0 _ (by omega) rfl).1
      have a1 : W2.cell? ⟨g2, k * 4 + 1, none⟩ = some (.int .i64 (x2 : Int)) := (hcell 1 _ (by omega) rfl).1
      have a2 : W2.cell? ⟨g2, k * 4 + 2, none⟩ = some (.int .i64 x3) := (hcell 2 _ (by omega) rfl).1
      have a3 : W2.cell? ⟨g2, k * 4 + 3, none⟩ = some (.int .i64 x4) := (hcell 3 _ (by omega) rfl).1
      have z0 : W2.frozen? ⟨g2, k * 4, none⟩ = false := (hcell 0 _ (by omega) rfl).2
      have z1 : W2.frozen? ⟨g2, k * 4 + 1, none⟩ = false := (hcell 1 _ (by omega) rfl).2
      have z2 : W2.frozen? ⟨g2, k * 4 + 2, none⟩ = false := (hcell 2 _ (by omega) rfl).2
      have z3 : W2.frozen? ⟨g2, k * 4 + 3, none⟩ = false := (hcell 3 _ (by omega) rfl).2
      clear s4 hcells hcell hg3
      go_wp2
      go_roundw
      case rel =>
        have hl5 := HCL.out
        have u4 := (((S4.out.rowPut (k * 4) (.int .i64 (-7))).rowPut (k * 4 + 1) (.int .i64 0)).rowPut (k * 4 + 2) (.int .i64 0)).rowPut (k * 4 + 3) (.int .i64 0)
        refine ⟨k + 1, _, by omega, by go_num, ?_, fun j u hj hu => ?_, u4⟩
        · simpa using hl5
        · rw [List.getElem?_set_ne (by omega), List.getElem?_set_ne (by omega), List.getElem?_set_ne (by omega), List.getElem?_set_ne (by omega)]
          exact HCS.out j u (by omega) hu
      case measure => simp [intOf]; omega
    · obtain rfl : k = ch.length := by omega
      have T1 := Lib.hid hS.drop.drop
      clear hcl hcs hS S3
      have HP := Lib.hid (Plan_calls (HT.out wr T1.out.whole))
      go_wp2_with fail
      refine HP.out.mono ?_
      rintro e w5 ⟨RP, qP, rfl, ho, hk, _⟩
      have s5 := T1.out.fresh1 ho hk
      have d0 : w5.cell? ⟨w.heap.size, 0, none⟩ = some (.slice An c.now.length capn) := s5.blk1.cell 0
      have q4 : ((c.now.length : Int) != (c.now.length : Int)) = false := by simp
      have T2 := Lib.hid s5
      clear ho hk s5 HP T1
      go_wp2
      clear d0
      go_loopw [64] (fun i wx => ∃ (k : Nat) (cs : List Value), k ≤ c.now.length ∧ i = .int .i64 k ∧ cs.length = c.now.length ∧ (∀ j u, k ≤ j → ((lens c.now).map natV)[j]? = some u → cs[j]? = some u) ∧ St w wx [.row (.slice RP c.now.length qP) 3 1 c.now.length cs, .blk w.heap.size 86 #[.slice An c.now.length capn, .slice Am c.marks.length capm]]) (fun i _ => c.now.length - (intOf i).toNat)
      case atStart => exact ⟨0, _, Nat.zero_le _, rfl, by simp [lens], fun _ _ _ h => h, T2.out⟩
      case round =>
        obtain ⟨k, cs, hk, rfl, hcl, hcs, hS⟩ := hrel
        rename World => wy
        clear T2
        by_cases hlt : k < c.now.length
        · obtain ⟨xs, hx⟩ : ∃ xs, c.now[k]? = some xs := ⟨_, List.getElem?_eq_getElem hlt⟩
          have hxs := F2.out xs (List.mem_of_getElem? hx)
          obtain ⟨bx, ox, cb, hvk, hB⟩ := HW.out k xs hx
          obtain ⟨b0, off0, rfl, hb1, hb2, hc⟩ := HRD.out.resolve_left (by intro e; rw [e] at hvk; simp at hvk)
          have HC : Hid (∀ W, Kept [] w W → W.cell? ⟨b0, off0 + k, none⟩ = some (.slice (some ⟨bx, ox, none⟩) xs.length cb)) := Lib.hid fun W hW => hW.cell (hc k _ hvk) (by simp)
          have HB := Lib.hid hB.reads
          obtain ⟨gP, rfl, hcells⟩ := own_some hS.row (by intro e; rw [e] at hcl; simp at hcl; omega)
          have hpc : cs[k]? = some (natV xs.length) := hcs k _ (Nat.le_refl _) (by simp [lens, hx])
          have p0 : wy.cell? ⟨gP, k, none⟩ = some (.int .i64 (xs.length : Int)) := (hcells k _ hpc).1
          have HQ := Lib.hid (All_in (HT.out wy hS.whole) hx)
          have T1 := Lib.hid hS
          have HCL := Lib.hid hcl
          have HCS := Lib.hid hcs
          have HPC := Lib.hid hpc
          clear hS hcl hcs hpc hcells hvk hc hB hx
          go_wp2_with fail
          refine HQ.out.mono ?_
          rintro e w6 ⟨gA, qA, rfl, ho, hk6, _⟩
          have s6 := T1.out.fresh1 ho hk6
          have d0 : w6.cell? ⟨w.heap.size, 0, none⟩ = some (.slice (some ⟨b0, off0, none⟩) c.now.length capn) := s6.blk2.cell 0
          have d1 := HC.out w6 s6.whole
          have q5 : ((xs.length : Int) != (xs.length : Int)) = false := by simp
          have HE := Lib.hid (equal18 (c := qA) (d := cb) (own_reads s6.row) (s6.whole.reads HB.out (by simp)) (by unfold maxLen; omega) (by unfold maxLen; omega))
          have T2 := Lib.hid s6
          clear ho hk6 s6 HQ p0 T1
          go_wp2_with fail
          refine HE.out.mono ?_
          rintro e w7 ⟨rfl, hk7⟩
          simp only [decide_true]
          have T3 := Lib.hid (T2.out.kept hk7)
          clear hk7 HE d0 d1 T2
          go_wp2
          go_loopw [100] (fun i wx => ∃ (j : Nat) (cs2 : List Value), j ≤ xs.length ∧ i = .int .i64 j ∧ cs2.length = xs.length ∧ St w wx [.row (.slice (some ⟨gA, 0, none⟩) xs.length qA) 2 1 xs.length cs2, .row (.slice (some ⟨gP, 0, none⟩) c.now.length qP) 3 1 c.now.length cs, .blk w.heap.size 86 #[.slice (some ⟨b0, off0, none⟩) c.now.length capn, .slice Am c.marks.length capm]]) (fun i _ => xs.length - (intOf i).toNat)
          case atStart => exact ⟨0, _, Nat.zero_le _, rfl, by simp, T3.out⟩
          case round =>
            obtain ⟨j, cs2, hj, rfl, hcl2, hS⟩ := hrel
            rename World => wu
            clear T3
            by_cases hlj : j < xs.length
            · obtain ⟨u, hu⟩ : ∃ u, cs2[j]? = some u := ⟨_, List.getElem?_eq_getElem (by omega)⟩
              obtain ⟨g', hg', hcells⟩ := own_some hS.row (by intro e; rw [e] at hcl2; simp at hcl2; omega)
              obtain rfl : gA = g' := by simpa using hg'
              have u0 := (hcells j _ hu).1
              have u1 := (hcells j _ hu).2
              have T4 := Lib.hid hS
              have C2 := Lib.hid hcl2
              clear hS hcl2 hcells hu hg'
              go_wp2
              go_roundw
              case rel => exact ⟨j + 1, _, by omega, by go_num, by rw [List.length_set]; exact C2.out, T4.out.rowPut j (.int .i64 (-77))⟩
              case measure => simp [intOf]; omega
            · obtain rfl : j = xs.length := by omega
              have hs := hS.drop
              obtain ⟨g', hg', hcells⟩ := own_some hs.row (by intro e; have := HCL.out; rw [e] at this; simp at this; omega)
              obtain rfl : gP = g' := by simpa using hg'
              have u0 : wu.cell? ⟨gP, k, none⟩ = some (.int .i64 (xs.length : Int)) := (hcells k _ HPC.out).1
              have u1 := (hcells k _ HPC.out).2
              have T4 := Lib.hid hs
              clear hS hcl2 hcells hs hg'
              go_wp2
              go_roundw
              case rel =>
                refine ⟨k + 1, _, by omega, by go_num, by rw [List.length_set]; exact HCL.out, fun j u hj hu => ?_, T4.out.rowPut k (.int .i64 (-7))⟩
                rw [List.getElem?_set_ne (by omega)]
                exact HCS.out j u (by omega) hu
              case measure => simp [intOf]; omega
        · obtain rfl : k = c.now.length := by omega
          have T1 := Lib.hid hS
          have HQ := Lib.hid (All_out (HT.out wy hS.whole) (o := (c.now.length : Int) + 1) (.inr (by omega)))
          have HQ2 := Lib.hid (All_out (HT.out wy hS.whole) (o := 0) (.inl (by omega)))
          clear hS hcl hcs
          go_wp2_with fail
          refine HQ.out.mono ?_
          rintro e w6 ⟨rfl, rfl⟩
          go_wp2_with fail
          refine HQ2.out.mono ?_
          rintro e w6 ⟨rfl, rfl⟩
          go_wp2
          go_ret
          exact ⟨rfl, T1.out.whole⟩
end Go.Proofs.Ytlfaoibgmbbacaa
