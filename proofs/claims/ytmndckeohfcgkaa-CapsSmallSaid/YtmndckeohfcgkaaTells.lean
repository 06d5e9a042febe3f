/- The walk of Tells of the laws on caps: what a table tells is what the reference tells. -/
import Derived.Test.YtmndckeohfcgkaaTellsKit
import Derived.Deep.CutRange
import Derived.BigQuiet
namespace Go.Proofs.Ytmndckeohfcgkaa
open Go.RowKit
open Go.Sort (grow alloc_eq_grow grow_empty grow_grow)
set_option maxRecDepth 100000 in
set_option maxHeartbeats 8000000 in
theorem Tells_calls {w : World} {a : Nat} {c : CT} {F : List Nat} {A : Option Addr} {cap : Nat} {nx : Int} {l : List RH} (H : IsTab w a c F) (hA : Reads w A (flatR l)) (r : Rel nx l c) (hn : l.length ≤ 200) :
    Calls Try.prog 54 #[.pointer (some ⟨a, 0, none⟩), .agg #[.int .i64 nx, .slice A l.length cap]] w fun e w' => e = .returned (.bool true) ∧ Kept [] w w' := by
  have HT : Hid (∀ W, Kept [] w W → IsTab W a c F) := Lib.hid fun W hk => H.keptNil hk
  have HA : Hid (∀ W, Kept [] w W → Reads W A (flatR l)) := Lib.hid fun W hk => hk.reads hA (by simp)
  have HR := Lib.hid r
  have HK := Lib.hid H.ok
  generalize hv : (w.alloc (.cells #[.int .i64 nx, .slice A l.length cap] 88)) = w1
  have s0 : St w w1 [.blk w.heap.size 88 #[.int .i64 nx, .slice A l.length cap]] := by rw [← hv]; exact (St.nil w).alloc _ _
  have d0 : w1.cell? ⟨w.heap.size, 0, none⟩ = some (.int .i64 nx) := s0.blk0.cell 0
  have d1 : w1.cell? ⟨w.heap.size, 1, none⟩ = some (.slice A l.length cap) := s0.blk0.cell 1
  have S0 := Lib.hid s0
  have HL := Lib.hid (RLive_calls (nx := nx) (cap := cap) (HA.out w1 s0.whole) (by omega))
  have hlv : (liveR l).length ≤ 200 := by have := liveR_le l; omega
  have hlen := r.len
  have hget : Hid (∀ (i : Nat) (x : RH), (liveR l)[i]? = some x → c.live[i]? = some (toH x) ∧ 0 ≤ x.rights ∧ x.rights ≤ 15) := Lib.hid fun i x hx => ⟨r.live_get hx, r.rts x (mem_liveR.1 (List.mem_of_getElem? hx)).1⟩
  clear H hA r s0
  have hmix : Try.prog.follows .mixedOrders = true := by kernel_rfl
  go_enter Try.func54, Try.ntmps54
  go_wp2_with fail
  refine HL.out.mono ?_
  rintro e w2 ⟨R, q, rfl, ho, hk⟩
  have s1 := S0.out.fresh1 ho hk
  have hall := All_calls (HT.out w2 s1.whole)
  rw [hlen] at hall
  have S1 := Lib.hid s1
  have HALL := Lib.hid hall
  clear ho hk s1 HL d0 d1 hv hall
  have HLEN := Lib.hid hlen
  clear hlen
  generalize hl2 : liveR l = l2 at *
  have HL2 := Lib.hid hl2
  clear hl2
  go_wp2_with fail
  refine HALL.out.mono ?_
  rintro e w3 ⟨R2, q2, rfl, ho, hk⟩
  have s2 := S1.out.fresh1 ho hk
  have HLN : Hid (∀ n, Calls Try.prog 24 #[.pointer (some ⟨a, 0, none⟩)] (w3.drewN n) fun e w' => e = .returned (.int .i64 l2.length) ∧ w' = w3.drewN n) := Lib.hid fun n => by
    have := Len_calls (HT.out _ (s2.whole.trans' (Kept.drewN _ _ n)))
    rw [HLEN.out] at this
    exact this.mono fun e w' h => ⟨h.1, h.2.symm⟩
  have HNX : Hid (∀ n, Calls Try.prog 20 #[.pointer (some ⟨a, 0, none⟩)] (w3.drewN n) fun e w' => e = .returned (.int .i64 nx) ∧ w' = w3.drewN n) := Lib.hid fun n => by
    have := Next_calls (HT.out _ (s2.whole.trans' (Kept.drewN _ _ n)))
    rw [HR.out.next] at this
    exact this.mono fun e w' h => ⟨h.1, h.2.symm⟩
  have d0 : w3.cell? ⟨w.heap.size, 0, none⟩ = some (.int .i64 nx) := s2.blk2.cell 0
  have q1 : ((l2.length : Int) != (l2.length : Int)) = false := by simp
  have q3 : (nx != nx) = false := by simp
  have S2 := Lib.hid s2
  clear ho hk s2 HALL
  go_wp2
  go_quiet (first | (go_at_call 24; refine Calls.quiet_of_same (HLN.out _)) | (go_at_call 20; refine Calls.quiet_of_same (HNX.out _)))
  have s3 := S2.out.kept (Kept.drewN _ _ nq)
  generalize w3.drewN nq = w4 at *
  have S3 : Hid (St w w4 [.row (.slice R2 l2.length q2) 34 5 l2.length (flatH c.live), .row (.slice R l2.length q) 104 6 l2.length (flatR l2), .blk w.heap.size 88 #[.int .i64 nx, .slice A l.length cap]]) := Lib.hid s3
  clear s3 d0 HLN HNX
  go_wp2
  go_loopw [52] (fun i wr => ∃ (k : Nat) (cs : List Value), k ≤ l2.length ∧ i = .int .i64 k ∧ cs.length = l2.length * 5 ∧ (∀ j u, k * 5 ≤ j → (flatH c.live)[j]? = some u → cs[j]? = some u) ∧ St w wr [.row (.slice R2 l2.length q2) 34 5 l2.length cs, .row (.slice R l2.length q) 104 6 l2.length (flatR l2), .blk w.heap.size 88 #[.int .i64 nx, .slice A l.length cap]]) (fun i _ => l2.length - (intOf i).toNat)
  case atStart => exact ⟨0, _, Nat.zero_le _, rfl, by rw [flatH_len, HLEN.out], fun _ _ _ h => h, S3.out⟩
  case round =>
    obtain ⟨k, cs, hk, rfl, hcl, hcs, hS⟩ := hrel
    by_cases hlt : k < l2.length
    · obtain ⟨x, hx⟩ : ∃ x, l2[k]? = some x := ⟨_, List.getElem?_eq_getElem hlt⟩
      obtain ⟨hx2, hr0, hr1⟩ := hget.out k x hx
      obtain ⟨b1, o1, rfl, hc1⟩ := (own_reads hS.drop.row).resolve_left (by intro e; rw [flatR_nil.1 e] at hx; simp at hx)
      obtain ⟨c0, c1, c2, c3, c4, c5⟩ := rh_cells (Kept.refl [] wr) hc1 hx
      obtain ⟨x1, x2, x3, x4, x5, x6⟩ := x
      simp only at c0 c1 c2 c3 c4 c5 hr0 hr1
      obtain ⟨m, rfl⟩ : ∃ m : Nat, x5 = (m : Int) := ⟨x5.toNat, by omega⟩
      have hm : m ≤ 255 := by omega
      have hle : c.live.length ≤ 256 := HK.out.few
      have hxm : (flatH c.live).length = l2.length * 5 := by rw [flatH_len, HLEN.out]
      obtain ⟨g2, rfl, hcells⟩ := own_some hS.row (by intro e; rw [e] at hcl; simp at hcl; omega)
      have hcell : ∀ i u, i < 5 → (toH ⟨x1, x2, x3, x4, (m : Int), x6⟩).cells[i]? = some u → wr.cell? ⟨g2, k * 5 + i, none⟩ = some u ∧ wr.frozen? ⟨g2, k * 5 + i, none⟩ = false := fun i u hi hu => hcells _ _ (hcs _ _ (by omega) (flatH_get hx2 hi hu))
      have a0 : wr.cell? ⟨g2, k * 5, none⟩ = some (.int .i64 x1) := (hcell 0 _ (by omega) rfl).1
      have a1 : wr.cell? ⟨g2, k * 5 + 1, none⟩ = some (.int .i64 x2) := (hcell 1 _ (by omega) rfl).1
      have a2 : wr.cell? ⟨g2, k * 5 + 2, none⟩ = some (.int .i64 x3) := (hcell 2 _ (by omega) rfl).1
      have a3 : wr.cell? ⟨g2, k * 5 + 3, none⟩ = some (.int .i64 x4) := (hcell 3 _ (by omega) rfl).1
      have a4 : wr.cell? ⟨g2, k * 5 + 4, none⟩ = some (.int .u8 (m : Int)) := (hcell 4 _ (by omega) rfl).1
      have T0 := Lib.hid hS
      have hs1 := hS.alloc 34 #[.int .i64 x1, .int .i64 x2, .int .i64 x3, .int .i64 x4, .int .u8 (m : Int)]
      have T1 := Lib.hid hs1
      have HCL := Lib.hid hcl
      have HCS := Lib.hid hcs
      have HC1 := Lib.hid hc1
      have HX := Lib.hid hx
      clear hS hs1 hcl hcs hc1 hx hcells hcell hxm c0 c1 c2 c3 c4 c5 hx2 hr0 hr1
      go_wp2
      generalize hW : wr.alloc (.cells #[.int .i64 x1, .int .i64 x2, .int .i64 x3, .int .i64 x4, .int .u8 (m : Int)] 34) = W at *
      have bh := T1.out.blk0
      have hkg : ∀ n os, Kept [] wr (grow (W.drewN n) os) := fun n os => by rw [← hW]; exact (Kept.alloc [] wr _).trans' (Kept.growIt _ _ n os)
      have e0 : ∀ n os, (grow (W.drewN n) os).cell? ⟨wr.heap.size, 0, none⟩ = some (.int .i64 x1) := fun n os => cell_grown bh.lt (bh.cell 0) n os
      have e1 : ∀ n os, (grow (W.drewN n) os).cell? ⟨wr.heap.size, 1, none⟩ = some (.int .i64 x2) := fun n os => cell_grown bh.lt (bh.cell 1) n os
      have e2 : ∀ n os, (grow (W.drewN n) os).cell? ⟨wr.heap.size, 2, none⟩ = some (.int .i64 x3) := fun n os => cell_grown bh.lt (bh.cell 2) n os
      have e3 : ∀ n os, (grow (W.drewN n) os).cell? ⟨wr.heap.size, 3, none⟩ = some (.int .i64 x4) := fun n os => cell_grown bh.lt (bh.cell 3) n os
      have e4 : ∀ n os, (grow (W.drewN n) os).cell? ⟨wr.heap.size, 4, none⟩ = some (.int .u8 (m : Int)) := fun n os => cell_grown bh.lt (bh.cell 4) n os
      have f0 : ∀ n os, (grow (W.drewN n) os).cell? ⟨b1, o1 + k * 6, none⟩ = some (.int .i64 x1) := fun n os => (rh_cells (hkg n os) HC1.out HX.out).1
      have f1 : ∀ n os, (grow (W.drewN n) os).cell? ⟨b1, o1 + k * 6 + 1, none⟩ = some (.int .i64 x2) := fun n os => (rh_cells (hkg n os) HC1.out HX.out).2.1
      have f2 : ∀ n os, (grow (W.drewN n) os).cell? ⟨b1, o1 + k * 6 + 2, none⟩ = some (.int .i64 x3) := fun n os => (rh_cells (hkg n os) HC1.out HX.out).2.2.1
      have f3 : ∀ n os, (grow (W.drewN n) os).cell? ⟨b1, o1 + k * 6 + 3, none⟩ = some (.int .i64 x4) := fun n os => (rh_cells (hkg n os) HC1.out HX.out).2.2.2.1
      have f4 : ∀ n os, (grow (W.drewN n) os).cell? ⟨b1, o1 + k * 6 + 4, none⟩ = some (.int .i64 (m : Int)) := fun n os => (rh_cells (hkg n os) HC1.out HX.out).2.2.2.2.1
      have f5 : ∀ n os, (grow (W.drewN n) os).cell? ⟨b1, o1 + k * 6 + 5, none⟩ = some (.bool x6) := fun n os => (rh_cells (hkg n os) HC1.out HX.out).2.2.2.2.2
      have HIS : Hid (∀ n os, Calls Try.prog 70 #[.agg #[.int .i64 x1, .int .i64 x2, .int .i64 x3, .int .i64 x4, .int .u8 (m : Int)], .agg #[.int .i64 x1, .int .i64 x2, .int .i64 x3, .int .i64 x4, .int .i64 (m : Int), .bool x6]] (grow (W.drewN n) os) fun e w' => e = .returned (.bool true) ∧ ∃ q os', w' = grow ((grow (W.drewN n) os).drewN q) os') := Lib.hid fun n os => is_grown _ x1 x2 x3 x4 m x6 hm
      clear bh hkg hW a0 a1 a2 a3 a4
      refine wp_region_quiet_grown hmix (by kernel_rfl) ?_
      repeat (go_big_quiet_step (first | (go_at_call 70; refine Calls.grown_of (HIS.out _ _))))
      refine wpQuiet_nil ?_
      intro _ hw'
      obtain ⟨⟨nq, osq⟩, hw''⟩ := hw'
      subst hw''
      have s4 := (T1.out.kept (Kept.growIt _ _ nq osq)).drop
      clear e0 e1 e2 e3 e4 f0 f1 f2 f3 f4 f5 HIS
      generalize grow (W.drewN nq) osq = W2 at *
      have S4 : Hid (St w W2 [.row (.slice (some ⟨g2, 0, none⟩) l2.length q2) 34 5 l2.length cs, .row (.slice (some ⟨b1, o1, none⟩) l2.length q) 104 6 l2.length (flatR l2), .blk w.heap.size 88 #[.int .i64 nx, .slice A l.length cap]]) := Lib.hid s4
      obtain ⟨g3, hg3, hcells⟩ := own_some S4.out.row (by intro e; have := HCL.out; rw [e] at this; simp at this; omega)
      obtain rfl : g2 = g3 := by simpa using hg3
      have hcell : ∀ i u, i < 5 → (toH ⟨x1, x2, x3, x4, (m : Int), x6⟩).cells[i]? = some u → W2.cell? ⟨g2, k * 5 + i, none⟩ = some u ∧ W2.frozen? ⟨g2, k * 5 + i, none⟩ = false := fun i u hi hu => hcells _ _ (HCS.out _ _ (by omega) (flatH_get (hget.out k _ HX.out).1 hi hu))
      have a0 : W2.cell? ⟨g2, k * 5, none⟩ = some (.int .i64 x1) := (hcell 0 _ (by omega) rfl).1
      have a1 : W2.cell? ⟨g2, k * 5 + 1, none⟩ = some (.int .i64 x2) := (hcell 1 _ (by omega) rfl).1
      have a2 : W2.cell? ⟨g2, k * 5 + 2, none⟩ = some (.int .i64 x3) := (hcell 2 _ (by omega) rfl).1
      have a3 : W2.cell? ⟨g2, k * 5 + 3, none⟩ = some (.int .i64 x4) := (hcell 3 _ (by omega) rfl).1
      have a4 : W2.cell? ⟨g2, k * 5 + 4, none⟩ = some (.int .u8 (m : Int)) := (hcell 4 _ (by omega) rfl).1
      have z0 : W2.frozen? ⟨g2, k * 5, none⟩ = false := (hcell 0 _ (by omega) rfl).2
      have z1 : W2.frozen? ⟨g2, k * 5 + 1, none⟩ = false := (hcell 1 _ (by omega) rfl).2
      have z2 : W2.frozen? ⟨g2, k * 5 + 2, none⟩ = false := (hcell 2 _ (by omega) rfl).2
      have z3 : W2.frozen? ⟨g2, k * 5 + 3, none⟩ = false := (hcell 3 _ (by omega) rfl).2
      have z4 : W2.frozen? ⟨g2, k * 5 + 4, none⟩ = false := (hcell 4 _ (by omega) rfl).2
      clear s4 hcells hcell hg3 T0 T1
      go_wp2
      go_roundw
      case rel =>
        have hl5 := HCL.out
        have u0 := S4.out.rowPut (k * 5) (.int .i64 (-7)) (by omega)
        have u1 := u0.rowPut (k * 5 + 1) (.int .i64 0) (by simp; omega)
        have u2 := u1.rowPut (k * 5 + 2) (.int .i64 0) (by simp; omega)
        have u3 := u2.rowPut (k * 5 + 3) (.int .i64 0) (by simp; omega)
        have u4 := u3.rowPut (k * 5 + 4) (.int .u8 0) (by simp; omega)
        refine ⟨k + 1, _, by omega, by go_num, ?_, fun j u hj hu => ?_, u4⟩
        · simpa using hl5
        · rw [List.getElem?_set_ne (by omega), List.getElem?_set_ne (by omega), List.getElem?_set_ne (by omega), List.getElem?_set_ne (by omega), List.getElem?_set_ne (by omega)]
          exact HCS.out j u (by omega) hu
      case measure => simp [intOf]; omega
    · obtain rfl : k = l2.length := by omega
      have T1 := Lib.hid hS.drop.drop
      have d1 : wr.cell? ⟨w.heap.size, 1, none⟩ = some (.slice A l.length cap) := hS.drop.drop.blk0.cell 1
      clear hcl hcs hS
      have HTR : Hid (Tree (liveH l)) := Lib.hid (by have := HK.out.tree; rwa [HR.out.live] at this)
      clear S0 S1 S2 S3 hget HL2 HLEN
      go_wp2
      go_loopw [72] (fun i wx => ∃ (k : Nat), k ≤ l.length ∧ i = .int .i64 k ∧ St w wx [.blk w.heap.size 88 #[.int .i64 nx, .slice A l.length cap]]) (fun i _ => l.length - (intOf i).toNat)
      case atStart => exact ⟨0, Nat.zero_le _, rfl, T1.out⟩
      case round =>
        obtain ⟨k, hk, rfl, hS⟩ := hrel
        clear T1 d1
        rename World => wy
        by_cases hlt : k < l.length
        · obtain ⟨x, hx⟩ : ∃ x, l[k]? = some x := ⟨_, List.getElem?_eq_getElem hlt⟩
          obtain ⟨b1, o1, rfl, hc1⟩ := (HA.out wy hS.whole).resolve_left (by intro e; rw [flatR_nil.1 e] at hx; simp at hx)
          obtain ⟨c0, c1, c2, c3, c4, c5⟩ := rh_cells (Kept.refl [] wy) hc1 hx
          have hs1 := hS.alloc 104 #[.int .i64 x.serial, .int .i64 x.parent, .int .i64 x.port, .int .i64 x.holder, .int .i64 x.rights, .bool x.gone]
          clear hc1 hx hS
          obtain ⟨x1, x2, x3, x4, x5, x6⟩ := x
          simp only at c0 c1 c2 c3 c4 c5 hs1
          generalize hW : wy.alloc (.cells #[.int .i64 x1, .int .i64 x2, .int .i64 x3, .int .i64 x4, .int .i64 x5, .bool x6] 104) = W at *
          have e0 : W.cell? ⟨wy.heap.size, 0, none⟩ = some (.int .i64 x1) := hs1.blk0.cell 0
          have hg := Get_calls (HT.out _ hs1.whole) x1
          rw [HR.out.get] at hg
          obtain ⟨y, er, hgr⟩ : ∃ y er, getR l x1 = (y, er) := ⟨_, _, rfl⟩
          have hyr := HR.out.getRts x1
          have HG2 : Hid (∀ V, Kept [] w V → Calls Try.prog 65 #[.agg #[.int .i64 nx, .slice (some ⟨b1, o1, none⟩) l.length cap], .int .i64 x1] V fun e w' => e = .returned (.tuple #[y.val, .int .i64 er]) ∧ Kept [] V w') := Lib.hid fun V hV => by
            have := RGet_calls (nx := nx) (cap := cap) x1 (HA.out V hV) (by omega)
            rwa [hgr] at this
          rw [hgr] at hg hyr
          obtain ⟨y1, y2, y3, y4, y5, y6⟩ := y
          simp only at hyr hg
          obtain ⟨m, rfl⟩ : ∃ m : Nat, y5 = (m : Int) := ⟨y5.toNat, by omega⟩
          have hm : m ≤ 255 := by omega
          simp only [toH, Hd.val, Int.toNat_natCast] at hg
          simp only [RH.val] at HG2
          obtain ⟨bl, eb, hbl⟩ : ∃ bl eb, belowR l x1 = (bl, eb) := ⟨_, _, rfl⟩
          have hbn : bl.length ≤ 1024 := by
            have h1 := (below_sub (liveH l) x1).length_le
            have h2 := liveR_le l
            unfold liveH at h1
            rw [List.length_map, List.length_map] at h1
            unfold belowR at hbl
            split at hbl
            · cases hbl; unfold liveH; omega
            · cases hbl; simp
          have HB1 : Hid (∀ V, Kept [] w V → Calls Try.prog 27 #[.pointer (some ⟨a, 0, none⟩), .int .i64 x1] V fun e w' => ∃ A cap, e = .returned (.tuple #[.slice A bl.length cap, .int .i64 eb]) ∧ w'.ownsRow V.heap.size 3 1 (.slice A bl.length cap) bl.length (bl.map intV) ∧ Kept [] V w') := Lib.hid fun V hV => by
            have := TBelow_calls (HT.out V hV) x1
            rwa [HR.out.below, hbl] at this
          have HB2 : Hid (∀ V, Kept [] w V → Calls Try.prog 67 #[.agg #[.int .i64 nx, .slice (some ⟨b1, o1, none⟩) l.length cap], .int .i64 x1] V fun e w' => ∃ A cap, e = .returned (.tuple #[.slice A bl.length cap, .int .i64 eb]) ∧ w'.ownsRow V.heap.size 3 1 (.slice A bl.length cap) bl.length (bl.map intV) ∧ Kept [] V w') := Lib.hid fun V hV => by
            have := RBelow_calls (nx := nx) (cap := cap) x1 (HA.out V hV) (by omega) HTR.out
            rwa [hbl] at this
          have HG := Lib.hid hg
          have T1 := Lib.hid hs1
          have HM : Hid (∀ V, Calls Try.prog 70 #[.agg #[.int .i64 y1, .int .i64 y2, .int .i64 y3, .int .i64 y4, .int .u8 (m : Int)], .agg #[.int .i64 y1, .int .i64 y2, .int .i64 y3, .int .i64 y4, .int .i64 (m : Int), .bool y6]] V fun e w' => e = .returned (.bool true) ∧ Kept [] V w') := Lib.hid fun V => is_out V y1 y2 y3 y4 m y6 hm
          have q4 : (er != er) = false := by simp
          have q5 : (eb != eb) = false := by simp
          clear hg hs1 hgr hyr hbl
          go_wp2_with fail
          refine HG.out.mono ?_
          rintro e v1 ⟨rfl, hk⟩
          have hs2 := (T1.out.kept hk).alloc 34 #[.int .i64 y1, .int .i64 y2, .int .i64 y3, .int .i64 y4, .int .u8 (m : Int)]
          generalize hV2 : v1.alloc (.cells #[.int .i64 y1, .int .i64 y2, .int .i64 y3, .int .i64 y4, .int .u8 (m : Int)] 34) = v2 at *
          have e0' : v2.cell? ⟨wy.heap.size, 0, none⟩ = some (.int .i64 x1) := hs2.blk1.cell 0
          have d0 : v2.cell? ⟨w.heap.size, 0, none⟩ = some (.int .i64 nx) := hs2.blk2.cell 0
          have d1 : v2.cell? ⟨w.heap.size, 1, none⟩ = some (.slice (some ⟨b1, o1, none⟩) l.length cap) := hs2.blk2.cell 1
          have HX := Lib.hid (HG2.out v2 hs2.whole)
          have T2 := Lib.hid hs2
          clear hs2 hk HG e0 c0 c1 c2 c3 c4 c5 hW
          go_wp2_with fail
          refine HX.out.mono ?_
          rintro e v3 ⟨rfl, hk⟩
          have hs3 := (T2.out.kept hk).alloc 104 #[.int .i64 y1, .int .i64 y2, .int .i64 y3, .int .i64 y4, .int .i64 (m : Int), .bool y6]
          generalize hV3 : v3.alloc (.cells #[.int .i64 y1, .int .i64 y2, .int .i64 y3, .int .i64 y4, .int .i64 (m : Int), .bool y6] 104) = v4 at *
          have e0 : v4.cell? ⟨wy.heap.size, 0, none⟩ = some (.int .i64 x1) := hs3.blk2.cell 0
          have HX2 := Lib.hid (HB1.out v4 hs3.whole)
          have T3 := Lib.hid hs3
          clear hs3 hk HX HG2 e0' d0 d1 HB1 hV2
          go_wp2_with fail
          refine HX2.out.mono ?_
          rintro e v5 ⟨RB, qB, rfl, ho, hk⟩
          have hs4 := T3.out.fresh1 ho hk
          have e0' : v5.cell? ⟨wy.heap.size, 0, none⟩ = some (.int .i64 x1) := hs4.blk3.cell 0
          have d0 : v5.cell? ⟨w.heap.size, 0, none⟩ = some (.int .i64 nx) := hs4.drop.blk3.cell 0
          have d1 : v5.cell? ⟨w.heap.size, 1, none⟩ = some (.slice (some ⟨b1, o1, none⟩) l.length cap) := hs4.drop.blk3.cell 1
          have HX := Lib.hid (HB2.out v5 hs4.whole)
          have T4 := Lib.hid hs4
          clear hs4 hk HX2 HB2 e0 hV3 ho
          go_wp2_with fail
          refine HX.out.mono ?_
          rintro e v6 ⟨RC, qC, rfl, ho, hk⟩
          have hs5 := T4.out.fresh1 ho hk
          clear d0 d1 e0' HX
          have f0 : v6.cell? ⟨v1.heap.size, 0, none⟩ = some (.int .i64 y1) := hs5.blk3.cell 0
          have f1 : v6.cell? ⟨v1.heap.size, 1, none⟩ = some (.int .i64 y2) := hs5.blk3.cell 1
          have f2 : v6.cell? ⟨v1.heap.size, 2, none⟩ = some (.int .i64 y3) := hs5.blk3.cell 2
          have f3 : v6.cell? ⟨v1.heap.size, 3, none⟩ = some (.int .i64 y4) := hs5.blk3.cell 3
          have f4 : v6.cell? ⟨v1.heap.size, 4, none⟩ = some (.int .u8 (m : Int)) := hs5.blk3.cell 4
          have g0 : v6.cell? ⟨v3.heap.size, 0, none⟩ = some (.int .i64 y1) := hs5.blk2.cell 0
          have g1 : v6.cell? ⟨v3.heap.size, 1, none⟩ = some (.int .i64 y2) := hs5.blk2.cell 1
          have g2 : v6.cell? ⟨v3.heap.size, 2, none⟩ = some (.int .i64 y3) := hs5.blk2.cell 2
          have g3 : v6.cell? ⟨v3.heap.size, 3, none⟩ = some (.int .i64 y4) := hs5.blk2.cell 3
          have g4 : v6.cell? ⟨v3.heap.size, 4, none⟩ = some (.int .i64 (m : Int)) := hs5.blk2.cell 4
          have g5 : v6.cell? ⟨v3.heap.size, 5, none⟩ = some (.bool y6) := hs5.blk2.cell 5
          have T5 := Lib.hid hs5
          clear hs5 ho hk
          go_wp2_with fail
          refine (HM.out _).mono ?_
          rintro e v7 ⟨rfl, hk⟩
          have T6 := Lib.hid (T5.out.kept hk)
          clear hk f0 f1 f2 f3 f4 g0 g1 g2 g3 g4 g5
          have HX := Lib.hid (same34 (c := qB) (d := qC) (own_reads T6.out.drop.row) (own_reads T6.out.row) hbn)
          go_wp2_with fail
          refine HX.out.mono ?_
          rintro e v8 ⟨rfl, hk⟩
          have T7 := Lib.hid (T6.out.kept hk)
          clear hk HX
          have HX := Lib.hid (T7.out.swap.over hbn)
          go_wp2_with fail
          refine HX.out.mono ?_
          rintro e v9 ⟨rfl, hs⟩
          have T8 := Lib.hid hs.drop.drop.drop.drop
          clear hs HX
          go_wp2
          go_roundw
          case rel => exact ⟨k + 1, by omega, by go_num, T8.out⟩
          case measure => simp [intOf]; omega
        · obtain rfl : k = l.length := by omega
          have T1 := Lib.hid hS
          clear hS
          go_wp2
          go_loopw [19] (fun i wx => ∃ (who : Int), -1 ≤ who ∧ who ≤ 18 ∧ i = .int .i64 who ∧ St w wx [.blk w.heap.size 88 #[.int .i64 nx, .slice A l.length cap]]) (fun i _ => (18 - intOf i).toNat)
          case atStart => exact ⟨-1, by omega, by omega, rfl, T1.out⟩
          case round =>
            obtain ⟨who, hw1, hw2, rfl, hS⟩ := hrel
            clear T1
            rename World => wz
            by_cases hle : who ≤ 17
            · have HP := RPlaces_calls (nx := nx) (cap := cap) who (HA.out wz hS.whole) (by omega)
              have hpl : (placesR l who).length ≤ 200 := by have := placesR_le l who; omega
              have HP2 : Hid (∀ V, Kept [] w V → Calls Try.prog 30 #[.pointer (some ⟨a, 0, none⟩), .int .i64 who] V fun e w' => ∃ A cap, e = .returned (.slice A (placesR l who).length cap) ∧ w'.ownsRow V.heap.size 3 1 (.slice A (placesR l who).length cap) (placesR l who).length (((placesR l who).map (·.serial)).map intV) ∧ Kept [] V w') := Lib.hid fun V hV => by
                have := Places_calls (HT.out V hV) who
                rw [HR.out.at, List.length_map] at this
                refine this.mono ?_
                rintro e w' ⟨A, cap, h1, h2, h3, _⟩
                exact ⟨A, cap, h1, h2, h3⟩
              have HPL : Hid (∀ (i : Nat) (V : World), Kept [] w V → ∃ (y1 y2 y3 y4 : Int) (m : Nat) (y6 : Bool) (er : Int), m ≤ 255 ∧ placeR l who ((i : Int) - 1) = (⟨y1, y2, y3, y4, (m : Int), y6⟩, er)) := Lib.hid fun i V hV => by
                have h1 := HR.out.placeRts who ((i : Int) - 1)
                obtain ⟨y, er, hgr⟩ : ∃ y er, placeR l who ((i : Int) - 1) = (y, er) := ⟨_, _, rfl⟩
                rw [hgr] at h1 ⊢
                obtain ⟨y1, y2, y3, y4, y5, y6⟩ := y
                simp only at h1
                exact ⟨y1, y2, y3, y4, y5.toNat, y6, er, by omega, by rw [Int.toNat_of_nonneg h1.1]⟩
              have HPC : Hid (∀ (j : Int) (V : World), Kept [] w V → Calls Try.prog 29 #[.pointer (some ⟨a, 0, none⟩), .int .i64 who, .int .i64 j] V fun e w' => e = .returned (.tuple #[(toH (placeR l who j).1).val, .int .i64 (placeR l who j).2]) ∧ Kept [] V w') := Lib.hid fun j V hV => by
                have := Place_calls (HT.out V hV) who j
                rwa [HR.out.place] at this
              have HPR : Hid (∀ (j : Int) (V : World), Kept [] w V → Calls Try.prog 73 #[.agg #[.int .i64 nx, .slice A l.length cap], .int .i64 who, .int .i64 j] V fun e w' => e = .returned (.tuple #[(placeR l who j).1.val, .int .i64 (placeR l who j).2]) ∧ Kept [] V w') := Lib.hid fun j V hV => RPlace_calls (nx := nx) (cap := cap) who j (HA.out V hV) (by omega)
              have hplr : Hid (∀ j, 0 ≤ (placeR l who j).1.rights ∧ (placeR l who j).1.rights ≤ 15) := Lib.hid fun j => HR.out.placeRts who j
              have HPH := Lib.hid HP
              clear HP HPL
              have d0 : wz.cell? ⟨w.heap.size, 0, none⟩ = some (.int .i64 nx) := hS.blk0.cell 0
              have d1 : wz.cell? ⟨w.heap.size, 1, none⟩ = some (.slice A l.length cap) := hS.blk0.cell 1
              have T1 := Lib.hid hS
              clear hS
              generalize placesR l who = pl at *
              go_wp2_with fail
              refine HPH.out.mono ?_
              rintro e v1 ⟨RA, qA, rfl, ho, hk⟩
              have T2 := Lib.hid (T1.out.fresh1 ho hk)
              have HX := Lib.hid (HP2.out v1 T2.out.whole)
              clear ho hk HPH HP2 d0 d1
              go_wp2_with fail
              refine HX.out.mono ?_
              rintro e v2 ⟨RB, qB, rfl, ho, hk⟩
              have T3 := Lib.hid (T2.out.fresh1 ho hk)
              have q1 : ((pl.length : Int) != (pl.length : Int)) = false := by simp
              clear ho hk HX
              obtain ⟨n, hn2⟩ : ∃ n : Nat, n = pl.length := ⟨_, rfl⟩
              rw [← hn2] at T3 q1
              rw [← hn2]
              have HN := Lib.hid hn2
              rw [← hn2] at hpl
              clear hn2
              go_wp2
              go_loopw [22] (fun i wx => ∃ (j : Int), -1 ≤ j ∧ j ≤ n + 1 ∧ i = .int .i64 j ∧ St w wx [.row (.slice RB n qB) 3 1 n ((pl.map (·.serial)).map intV), .row (.slice RA n qA) 104 6 n (flatR pl), .blk w.heap.size 88 #[.int .i64 nx, .slice A l.length cap]]) (fun i _ => ((n : Int) + 1 - intOf i).toNat)
              case atStart => exact ⟨-1, by omega, by omega, rfl, T3.out⟩
              case round =>
                obtain ⟨j, hj1, hj2, rfl, hS⟩ := hrel
                rename World => wu
                clear T1 T2 T3
                by_cases hjn : j ≤ n
                · have hpc := HPC.out j
                  have hpr := HPR.out j
                  have hrr := hplr.out j
                  obtain ⟨⟨⟨y1, y2, y3, y4, y5, y6⟩, er⟩, hgr⟩ : ∃ y, placeR l who j = y := ⟨_, rfl⟩
                  rw [hgr] at hpc hpr hrr
                  simp only at hrr hpc hpr
                  obtain ⟨m, rfl⟩ : ∃ m : Nat, y5 = (m : Int) := ⟨y5.toNat, by omega⟩
                  have hm : m ≤ 255 := by omega
                  simp only [toH, Hd.val, Int.toNat_natCast] at hpc
                  simp only [RH.val] at hpr
                  have HX := Lib.hid (hpc wu hS.whole)
                  have HX2 := Lib.hid hpr
                  have T1 := Lib.hid hS
                  have q2 : (er != er) = false := by simp
                  clear hS hpc hpr hrr hgr
                  go_wp2_with fail
                  refine HX.out.mono ?_
                  rintro e v3 ⟨rfl, hk⟩
                  have hs2 := (T1.out.kept hk).alloc 34 #[.int .i64 y1, .int .i64 y2, .int .i64 y3, .int .i64 y4, .int .u8 (m : Int)]
                  generalize hV4 : v3.alloc (.cells #[.int .i64 y1, .int .i64 y2, .int .i64 y3, .int .i64 y4, .int .u8 (m : Int)] 34) = v4 at *
                  have d0 : v4.cell? ⟨w.heap.size, 0, none⟩ = some (.int .i64 nx) := hs2.blk3.cell 0
                  have d1 : v4.cell? ⟨w.heap.size, 1, none⟩ = some (.slice A l.length cap) := hs2.blk3.cell 1
                  have HX3 := Lib.hid (HX2.out v4 hs2.whole)
                  have T2 := Lib.hid hs2
                  clear hs2 hk HX HX2 T1
                  go_wp2_with fail
                  refine HX3.out.mono ?_
                  rintro e v5 ⟨rfl, hk⟩
                  have hs3 := (T2.out.kept hk).alloc 104 #[.int .i64 y1, .int .i64 y2, .int .i64 y3, .int .i64 y4, .int .i64 (m : Int), .bool y6]
                  have T3 := Lib.hid hs3
                  clear hs3 hk HX3 d0 d1 T2
                  go_wp2
                  clear hV4
                  generalize v5.alloc (.cells #[.int .i64 y1, .int .i64 y2, .int .i64 y3, .int .i64 y4, .int .i64 (m : Int), .bool y6] 104) = W at *
                  have T4 : Hid (St w W [.blk v5.heap.size 104 #[.int .i64 y1, .int .i64 y2, .int .i64 y3, .int .i64 y4, .int .i64 (m : Int), .bool y6], .blk v3.heap.size 34 #[.int .i64 y1, .int .i64 y2, .int .i64 y3, .int .i64 y4, .int .u8 (m : Int)], .row (.slice RB n qB) 3 1 n ((pl.map (·.serial)).map intV), .row (.slice RA n qA) 104 6 n (flatR pl), .blk w.heap.size 88 #[.int .i64 nx, .slice A l.length cap]]) := T3
                  clear T3
                  have bx := T4.out.blk1
                  have by' := T4.out.blk0
                  have e0 : ∀ n os, (grow (W.drewN n) os).cell? ⟨v3.heap.size, 0, none⟩ = some (.int .i64 y1) := fun n os => cell_grown bx.lt (bx.cell 0) n os
                  have e1 : ∀ n os, (grow (W.drewN n) os).cell? ⟨v3.heap.size, 1, none⟩ = some (.int .i64 y2) := fun n os => cell_grown bx.lt (bx.cell 1) n os
                  have e2 : ∀ n os, (grow (W.drewN n) os).cell? ⟨v3.heap.size, 2, none⟩ = some (.int .i64 y3) := fun n os => cell_grown bx.lt (bx.cell 2) n os
                  have e3 : ∀ n os, (grow (W.drewN n) os).cell? ⟨v3.heap.size, 3, none⟩ = some (.int .i64 y4) := fun n os => cell_grown bx.lt (bx.cell 3) n os
                  have e4 : ∀ n os, (grow (W.drewN n) os).cell? ⟨v3.heap.size, 4, none⟩ = some (.int .u8 (m : Int)) := fun n os => cell_grown bx.lt (bx.cell 4) n os
                  have f0 : ∀ n os, (grow (W.drewN n) os).cell? ⟨v5.heap.size, 0, none⟩ = some (.int .i64 y1) := fun n os => cell_grown by'.lt (by'.cell 0) n os
                  have f1 : ∀ n os, (grow (W.drewN n) os).cell? ⟨v5.heap.size, 1, none⟩ = some (.int .i64 y2) := fun n os => cell_grown by'.lt (by'.cell 1) n os
                  have f2 : ∀ n os, (grow (W.drewN n) os).cell? ⟨v5.heap.size, 2, none⟩ = some (.int .i64 y3) := fun n os => cell_grown by'.lt (by'.cell 2) n os
                  have f3 : ∀ n os, (grow (W.drewN n) os).cell? ⟨v5.heap.size, 3, none⟩ = some (.int .i64 y4) := fun n os => cell_grown by'.lt (by'.cell 3) n os
                  have f4 : ∀ n os, (grow (W.drewN n) os).cell? ⟨v5.heap.size, 4, none⟩ = some (.int .i64 (m : Int)) := fun n os => cell_grown by'.lt (by'.cell 4) n os
                  have f5 : ∀ n os, (grow (W.drewN n) os).cell? ⟨v5.heap.size, 5, none⟩ = some (.bool y6) := fun n os => cell_grown by'.lt (by'.cell 5) n os
                  have HIS : Hid (∀ n os, Calls Try.prog 70 #[.agg #[.int .i64 y1, .int .i64 y2, .int .i64 y3, .int .i64 y4, .int .u8 (m : Int)], .agg #[.int .i64 y1, .int .i64 y2, .int .i64 y3, .int .i64 y4, .int .i64 (m : Int), .bool y6]] (grow (W.drewN n) os) fun e w' => e = .returned (.bool true) ∧ ∃ q os', w' = grow ((grow (W.drewN n) os).drewN q) os') := Lib.hid fun n os => is_grown _ y1 y2 y3 y4 m y6 hm
                  clear bx by'
                  by_cases hj0 : j < 0
                  · obtain rfl : j = -1 := by omega
                    clear hj0 hjn hj1 hj2
                    refine wp_region_quiet_grown hmix (by kernel_rfl) ?_
                    repeat (go_big_quiet_step (first | (go_at_call 70; refine Calls.grown_of (HIS.out _ _))))
                    refine wpQuiet_nil ?_
                    intro _ hw'
                    obtain ⟨⟨nq, osq⟩, hw''⟩ := hw'
                    subst hw''
                    have s4 := (T4.out.kept (Kept.growIt _ _ nq osq)).drop.drop
                    clear e0 e1 e2 e3 e4 f0 f1 f2 f3 f4 f5 HIS T4
                    generalize grow (W.drewN nq) osq = W2 at *
                    have T7 := Lib.hid s4
                    clear s4
                    go_wp2
                    go_roundw
                    case rel => exact ⟨0, by omega, by omega, by go_num, T7.out⟩
                    case measure => simp [intOf]; omega
                  · obtain ⟨i, rfl⟩ : ∃ i : Nat, j = (i : Int) := ⟨j.toNat, by omega⟩
                    by_cases hin : i < n
                    · obtain ⟨z, hz⟩ : ∃ z, pl[i]? = some z := ⟨_, List.getElem?_eq_getElem (by rw [← HN.out]; exact hin)⟩
                      obtain ⟨b3, o3, rfl, hc3⟩ := (own_reads T4.out.drop.drop.row).resolve_left (by intro e; rw [List.map_eq_nil_iff, List.map_eq_nil_iff] at e; rw [e] at hz; simp at hz)
                      obtain ⟨b4, o4, rfl, hc4⟩ := (own_reads T4.out.drop.drop.drop.row).resolve_left (by intro e; rw [flatR_nil.1 e] at hz; simp at hz)
                      have k1 : ∀ n os, (grow (W.drewN n) os).cell? ⟨b3, o3 + i, none⟩ = some (.int .i64 z.serial) := fun n os => (Kept.growIt [] W n os).cell (hc3 i _ (by rw [List.getElem?_map, List.getElem?_map, hz]; rfl)) (by simp)
                      have k2 : ∀ n os, (grow (W.drewN n) os).cell? ⟨b4, o4 + i * 6, none⟩ = some (.int .i64 z.serial) := fun n os => (rh_cells (Kept.growIt [] W n os) hc4 hz).1
                      have q6 : (z.serial != z.serial) = false := by simp
                      clear hc3 hc4 hz hj0 hjn hj1 hj2
                      refine wp_region_quiet_grown hmix (by kernel_rfl) ?_
                      repeat (go_big_quiet_step (first | (go_at_call 70; refine Calls.grown_of (HIS.out _ _))))
                      refine wpQuiet_nil ?_
                      intro _ hw'
                      obtain ⟨⟨nq, osq⟩, hw''⟩ := hw'
                      subst hw''
                      have s4 := (T4.out.kept (Kept.growIt _ _ nq osq)).drop.drop
                      clear e0 e1 e2 e3 e4 f0 f1 f2 f3 f4 f5 HIS T4 k1 k2
                      generalize grow (W.drewN nq) osq = W2 at *
                      have T7 := Lib.hid s4
                      clear s4
                      go_wp2
                      go_roundw
                      case rel => exact ⟨(i : Int) + 1, by omega, by omega, by go_num, T7.out⟩
                      case measure => simp [intOf]; omega
                    · obtain rfl : i = n := by omega
                      clear hj0 hjn hj1 hj2 hin
                      refine wp_region_quiet_grown hmix (by kernel_rfl) ?_
                      repeat (go_big_quiet_step (first | (go_at_call 70; refine Calls.grown_of (HIS.out _ _))))
                      refine wpQuiet_nil ?_
                      intro _ hw'
                      obtain ⟨⟨nq, osq⟩, hw''⟩ := hw'
                      subst hw''
                      have s4 := (T4.out.kept (Kept.growIt _ _ nq osq)).drop.drop
                      clear e0 e1 e2 e3 e4 f0 f1 f2 f3 f4 f5 HIS T4
                      generalize grow (W.drewN nq) osq = W2 at *
                      have T7 := Lib.hid s4
                      clear s4
                      go_wp2
                      go_roundw
                      case rel => exact ⟨(i : Int) + 1, by omega, by omega, by go_num, T7.out⟩
                      case measure => simp [intOf]
                · obtain rfl : j = (n : Int) + 1 := by omega
                  have HX := Lib.hid (hS.over (by omega))
                  clear hS
                  go_wp2_with fail
                  refine HX.out.mono ?_
                  rintro e v9 ⟨rfl, hs⟩
                  have T8 := Lib.hid hs.drop
                  clear hs HX
                  go_wp2
                  go_roundw
                  case rel => exact ⟨who + 1, by omega, by omega, by go_num, T8.out⟩
                  case measure => simp [intOf]; omega
            · obtain rfl : who = 18 := by omega
              have T9 := Lib.hid hS
              clear hS hw1 hw2 hle
              go_wp2
              go_ret
              exact ⟨rfl, T9.out.whole⟩
end Go.Proofs.Ytmndckeohfcgkaa
