/- The walk of acts of the laws on caps. -/
import Derived.Test.YtmndckeohfcgkaaActsKit
namespace Go.Proofs.Ytmndckeohfcgkaa
open Go.RowKit
set_option maxRecDepth 100000 in
set_option maxHeartbeats 8000000 in
theorem acts_calls {w : World} {A : Option Addr} {cp : Nat} {l : List AC} (next : Int) (hA : Reads w A (flatA l)) (hl : ∀ x ∈ l, x.ok) (hn : l.length ≤ maxLen) :
    Calls Try.prog 36 #[.int .i64 next, .slice A l.length cp] w fun e w' => e = .returned (.bool true) ∧ Kept [] w w' := by
  have HA := Lib.hid hA
  have HL := Lib.hid hl
  unfold maxLen at hn
  clear hA hl
  by_cases h60 : 60 < l.length
  · have h60' : (60 : Int) < l.length := by omega
    clear h60
    go_enter Try.func36, Try.ntmps36
    go_wp2
    go_ret
    exact ⟨rfl, Kept.refl _ _⟩
  have h60' : (l.length : Int) ≤ 60 := by omega
  have h60n : l.length ≤ 60 := by omega
  clear h60
  by_cases n1 : next < 1
  · have HB := Lib.hid (new_bad (w := w) (.inl n1))
    go_enter Try.func36, Try.ntmps36
    go_wp2_with fail
    refine HB.out.mono ?_
    rintro e w1 ⟨rfl, rfl⟩
    go_wp2
    go_ret
    exact ⟨rfl, Kept.refl _ _⟩
  by_cases n2 : 281474976710656 < next
  · have HB := Lib.hid (new_bad (w := w) (.inr n2))
    go_enter Try.func36, Try.ntmps36
    go_wp2_with fail
    refine HB.out.mono ?_
    rintro e w1 ⟨rfl, rfl⟩
    go_wp2
    go_ret
    exact ⟨rfl, Kept.refl _ _⟩
  have HN := Lib.hid ((St.nil w).fresh (n := next) (by omega) (by omega))
  go_enter Try.func36, Try.ntmps36
  go_wp2_with fail
  refine HN.out.mono ?_
  rintro e w1 ⟨b, rfl, hs⟩
  have s1 := ((hs.alloc1 88 #[.int .i64 next, .slice none 0 0]).rdsUnit).swap.up3.swap
  have S1 : Hid (St w (w1.alloc (.cells #[.int .i64 next, .slice none 0 0] 88)) [.tab b (newCT next), .blk w1.heap.size 88 #[.int .i64 next, .slice none 0 0], .rds [(none, [])]]) := Lib.hid s1
  clear hs s1 HN
  go_wp2
  generalize w1.alloc (.cells #[.int .i64 next, .slice none 0 0] 88) = w2 at *
  generalize w1.heap.size = g7 at *
  go_loopw [50] (fun i wr => ∃ (k : Nat) (c : CT) (nx : Int) (R : Option Addr) (q : Nat) (lr : List RH), k ≤ l.length ∧ i = .int .i64 k ∧ St w wr [.tab b c, .blk g7 88 #[.int .i64 nx, .slice R lr.length q], .rds [(R, flatR lr)]] ∧ Rel nx lr c ∧ lr.length ≤ k ∧ 1 ≤ nx) (fun i _ => l.length - (intOf i).toNat)
  case atStart => exact ⟨0, newCT next, next, none, 0, [], Nat.zero_le _, rfl, S1.out, Rel.new next, Nat.le_refl _, by omega⟩
  case round =>
    obtain ⟨k, c, nx, R, q, lr, hk, rfl, hS, hR, hlr, hx0⟩ := hrel
    clear S1
    by_cases hlt : k < l.length
    · obtain ⟨x, hx⟩ : ∃ x, l[k]? = some x := ⟨_, List.getElem?_eq_getElem hlt⟩
      obtain ⟨x1, x2⟩ := HL.out x (List.mem_of_getElem? hx)
      obtain ⟨bA, oA, rfl, hc⟩ := HA.out.resolve_left (by intro e; rw [flatA_nil.1 e] at hx; simp at hx)
      obtain ⟨c0, c1, c2, c3, c4⟩ := ac_cells hS.whole hc hx
      have HS := Lib.hid (hS.alloc 65 #[.int .u8 (x.kind : Int), .int .i64 x.serial, .int .i64 x.port, .int .i64 x.holder, .int .u8 (x.rights : Int)])
      have RL := Lib.hid hR
      clear hS hR hc hx
      go_upto_region 12 with fail
      generalize wr.alloc (.cells #[.int .u8 (x.kind : Int), .int .i64 x.serial, .int .i64 x.port, .int .i64 x.holder, .int .u8 (x.rights : Int)] 65) = W at *
      generalize wr.heap.size = g9 at *
      have S2 : Hid (St w W [.blk g9 65 #[.int .u8 (x.kind : Int), .int .i64 x.serial, .int .i64 x.port, .int .i64 x.holder, .int .u8 (x.rights : Int)], .tab b c, .blk g7 88 #[.int .i64 nx, .slice R lr.length q], .rds [(R, flatR lr)]]) := HS
      clear HS c0 c1 c2 c3 c4
      go_cut [10, 11] from 55 to 57 (fun s10 s11 wx => ∃ (b' g : Nat), s10 = .pointer (some ⟨b', 0, none⟩) ∧ s11 = .pointer (some ⟨g, 0, none⟩) ∧ St w wx [.tab b' c, .blk g 88 #[.int .i64 nx, .slice R lr.length q], .tab b c, .blk g9 65 #[.int .u8 (x.kind : Int), .int .i64 x.serial, .int .i64 x.port, .int .i64 x.holder, .int .u8 (x.rights : Int)], .blk g7 88 #[.int .i64 nx, .slice R lr.length q], .rds [(R, flatR lr)]])
      case first =>
        have SD := Lib.hid (S2.out.kept (Kept.drew [] _)).swap
        have SZ := Lib.hid ((S2.out.alloc 88 #[.int .i64 0, .slice none 0 0]).kept (Kept.drew [] _)).up3
        have d0 : W.drew.cell? ⟨g7, 0, none⟩ = some (.int .i64 nx) := SD.out.drop.drop.blk0.cell 0
        have d1 : W.drew.cell? ⟨g7, 1, none⟩ = some (.slice R lr.length q) := SD.out.drop.drop.blk0.cell 1
        have z0 : (W.alloc (.cells #[.int .i64 0, .slice none 0 0] 88)).drew.cell? ⟨g7, 0, none⟩ = some (.int .i64 nx) := SZ.out.drop.drop.drop.blk0.cell 0
        have z1 : (W.alloc (.cells #[.int .i64 0, .slice none 0 0] 88)).drew.cell? ⟨g7, 1, none⟩ = some (.slice R lr.length q) := SZ.out.drop.drop.drop.blk0.cell 1
        go_region_law (first
          | (go_simp; go_at_call 13
             refine SD.out.copy.mono ?_
             rintro e w3 ⟨b', rfl, hs⟩
             have f0 : w3.cell? ⟨g7, 0, none⟩ = some (.int .i64 nx) := hs.drop.drop.drop.blk0.cell 0
             have f1 : w3.cell? ⟨g7, 1, none⟩ = some (.slice R lr.length q) := hs.drop.drop.drop.blk0.cell 1
             have hs2 := hs.alloc 88 #[.int .i64 0, .slice none 0 0]
             have h0 : (w3.alloc (.cells #[.int .i64 0, .slice none 0 0] 88)).cell? ⟨g7, 0, none⟩ = some (.int .i64 nx) := hs2.drop.drop.drop.drop.blk0.cell 0
             have h1 : (w3.alloc (.cells #[.int .i64 0, .slice none 0 0] 88)).cell? ⟨g7, 1, none⟩ = some (.slice R lr.length q) := hs2.drop.drop.drop.drop.blk0.cell 1
             have SX := Lib.hid hs2
             have SY := Lib.hid hs
             clear hs hs2)
          | (go_simp; go_at_call 13
             refine SZ.out.copy.mono ?_
             rintro e w3 ⟨b', rfl, hs⟩
             have f0 : w3.cell? ⟨g7, 0, none⟩ = some (.int .i64 nx) := hs.drop.drop.drop.drop.blk0.cell 0
             have f1 : w3.cell? ⟨g7, 1, none⟩ = some (.slice R lr.length q) := hs.drop.drop.drop.drop.blk0.cell 1
             have y0 : w3.cell? ⟨W.heap.size, 0, none⟩ = some (.int .i64 0) := hs.drop.drop.blk0.cell 0
             have y1 : w3.cell? ⟨W.heap.size, 1, none⟩ = some (.slice none 0 0) := hs.drop.drop.blk0.cell 1
             have y2 : w3.frozen? ⟨W.heap.size, 0, none⟩ = false := hs.drop.drop.blk0.frozen 0
             have y3 : w3.frozen? ⟨W.heap.size, 1, none⟩ = false := hs.drop.drop.blk0.frozen 1
             have SX := Lib.hid hs
             clear hs))
        all_goals (go_wp2_with fail; go_meet; first
          | exact ⟨_, _, rfl, rfl, (SX.out.put2 (.int .i64 nx) (.slice R lr.length q)).swap⟩
          | exact ⟨_, _, rfl, rfl, (SY.out.alloc 88 #[.int .i64 nx, .slice R lr.length q]).swap⟩
          | exact ⟨_, _, rfl, rfl, (SX.out.up3.put2 (.int .i64 nx) (.slice R lr.length q)).swap⟩)
      case rest =>
      obtain ⟨b', g11, rfl, rfl, hs⟩ := hcut
      rename World => wx
      have S3 := Lib.hid hs
      have k0 : wx.cell? ⟨g9, 0, none⟩ = some (.int .u8 (x.kind : Int)) := hs.drop.drop.drop.blk0.cell 0
      have k1 : wx.cell? ⟨g9, 1, none⟩ = some (.int .i64 x.serial) := hs.drop.drop.drop.blk0.cell 1
      have k2 : wx.cell? ⟨g9, 2, none⟩ = some (.int .i64 x.port) := hs.drop.drop.drop.blk0.cell 2
      have k3 : wx.cell? ⟨g9, 3, none⟩ = some (.int .i64 x.holder) := hs.drop.drop.drop.blk0.cell 3
      have k4 : wx.cell? ⟨g9, 4, none⟩ = some (.int .u8 (x.rights : Int)) := hs.drop.drop.drop.blk0.cell 4
      clear hs S2
      have hr8 : x.kind % 8 = 0 ∨ x.kind % 8 = 1 ∨ x.kind % 8 = 2 ∨ x.kind % 8 = 3 ∨ x.kind % 8 = 4 ∨ x.kind % 8 = 5 ∨ x.kind % 8 = 6 ∨ x.kind % 8 = 7 := by omega
      rcases hr8 with hr8 | hr8 | hr8 | hr8 | hr8 | hr8 | hr8 | hr8
      · have m0 : ((x.kind : Int) % 8 == 0) = true := by simp; omega
        clear hr8
        obtain ⟨E, hE⟩ : ∃ E, rootE nx x.port x.holder x.rights = E := ⟨_, rfl⟩
        obtain ⟨nx', hnx⟩ : ∃ y, nextA nx E = y := ⟨_, rfl⟩
        obtain ⟨n, hser⟩ : ∃ y, serA nx E = y := ⟨_, rfl⟩
        obtain ⟨lr', hls⟩ : ∃ y, listA nx lr E ⟨0, 0, x.port, x.holder, x.rights, false⟩ = y := ⟨_, rfl⟩
        have hrel := (RL.out.root (by omega : lr.length ≤ 200) x.port x.holder x.rights).2
        rw [hE, hnx, hls] at hrel
        have hll : lr'.length ≤ lr.length + 1 := by rw [← hls]; exact listA_len _ _ _ _
        have hx0' : 1 ≤ nx' := by rw [← hnx]; exact next_pos hx0
        have qE : (E != E) = false := by simp
        have qn : (n != n) = false := by simp
        obtain ⟨c1, hc1⟩ : ∃ y, c.root x.port x.holder x.rights = y := ⟨_, rfl⟩
        have hx1 := S3.out.up3.rootD RL.out (by omega) x.port x.holder x.rights hE hser
        rw [hc1] at hx1 hrel
        have HX := Lib.hid hx1
        have HREL := Lib.hid hrel
        clear hrel hx1 hc1
        go_wp2_with fail
        refine HX.out.mono ?_
        rintro e w3 ⟨rfl, hs⟩
        clear k0 k1 k2 k3 k4 S3 HX
        have k2 : w3.cell? ⟨g9, 2, none⟩ = some (.int .i64 x.port) := hs.drop.drop.drop.blk0.cell 2
        have k3 : w3.cell? ⟨g9, 3, none⟩ = some (.int .i64 x.holder) := hs.drop.drop.drop.blk0.cell 3
        have k4 : w3.cell? ⟨g9, 4, none⟩ = some (.int .u8 (x.rights : Int)) := hs.drop.drop.drop.blk0.cell 4
        have d0 : w3.cell? ⟨g7, 0, none⟩ = some (.int .i64 nx) := hs.drop.drop.drop.drop.blk0.cell 0
        have d1 : w3.cell? ⟨g7, 1, none⟩ = some (.slice R lr.length q) := hs.drop.drop.drop.drop.blk0.cell 1
        have HX := Lib.hid (hs.up6.rroot (cap := q) x.port x.holder x.rights (by omega) (by omega) hx0 hE hnx hser hls)
        clear hs hE hnx hser hls
        go_wp2_with fail
        refine HX.out.mono ?_
        rintro e w4 ⟨R', q', rfl, hs⟩
        have s6 := St.up6 hs
        clear d0 d1 k2 k3 k4 HX hs
        have y0 : w4.cell? ⟨g7, 0, none⟩ = some (.int .i64 nx) := s6.blk0.cell 0
        have y1 : w4.cell? ⟨g7, 1, none⟩ = some (.slice R lr.length q) := s6.blk0.cell 1
        have y2 := s6.blk0.frozen
        have S4 := Lib.hid (s6.put2 (.int .i64 nx') (.slice R' lr'.length q'))
        clear s6
        go_upto_region 37 with fail
        generalize (w4.setCell ⟨g7, 0, none⟩ (.int .i64 nx')).setCell ⟨g7, 1, none⟩ (.slice R' lr'.length q') = w5 at *
        have S5 : Hid (St w w5 [.blk g7 88 #[.int .i64 nx', .slice R' lr'.length q'], .rds [(R', flatR lr'), (R, flatR lr)], .tab b c1, .tab b' c, .blk g11 88 #[.int .i64 nx, .slice R lr.length q], .blk g9 65 #[.int .u8 (x.kind : Int), .int .i64 x.serial, .int .i64 x.port, .int .i64 x.holder, .int .u8 (x.rights : Int)]]) := S4
        clear S4 y0 y1 y2
        have y0 : w5.cell? ⟨g7, 0, none⟩ = some (.int .i64 nx') := S5.out.blk0.cell 0
        have y1 : w5.cell? ⟨g7, 1, none⟩ = some (.slice R' lr'.length q') := S5.out.blk0.cell 1
        have HT := Lib.hid (St.tells (A := R') (l := lr') (cap := q') S5.out.swap.up3 (by simp) HREL.out (by omega))
        go_wp2_with fail
        refine HT.out.mono ?_
        rintro e w6 ⟨rfl, hs⟩
        have S6 := Lib.hid hs
        clear hs HT y0 y1 S5
        by_cases hq : (k : Int) % 4 = 0
        · have hq' : ((k : Int) % 4 == 0) = true := by simp [hq]
          have z0 : w6.cell? ⟨g11, 0, none⟩ = some (.int .i64 nx) := S6.out.drop.drop.drop.drop.blk0.cell 0
          have z1 : w6.cell? ⟨g11, 1, none⟩ = some (.slice R lr.length q) := S6.out.drop.drop.drop.drop.blk0.cell 1
          have HT := Lib.hid (St.tells (A := R) (l := lr) (cap := q) S6.out.up4.up3.swap (by simp) RL.out (by omega))
          clear hq
          go_wp2_with fail
          refine HT.out.mono ?_
          rintro e w7 ⟨rfl, hs⟩
          have S7 := Lib.hid hs
          clear hs HT z0 z1 S6
          go_wp2
          go_roundw
          case rel => exact ⟨k + 1, c1, nx', R', q', lr', by omega, by go_num, (S7.out.drop.up4.drop.up4.drop.rdsSub (L' := [(R', flatR lr')]) (by simp)).swap.up3.swap, HREL.out, by omega, hx0'⟩
          case measure => simp [intOf]; omega
        · have hq' : ((k : Int) % 4 == 0) = false := by simp [hq]
          clear hq
          go_wp2
          go_roundw
          case rel => exact ⟨k + 1, c1, nx', R', q', lr', by omega, by go_num, (S6.out.up4.drop.up4.drop.up4.drop.up3.up3.rdsSub (L' := [(R', flatR lr')]) (by simp)).swap.up3, HREL.out, by omega, hx0'⟩
          case measure => simp [intOf]; omega
      · have m0 : ((x.kind : Int) % 8 == 0) = false := by simp; omega
        have m1 : ((x.kind : Int) % 8 == 1) = true := by simp; omega
        clear hr8
        obtain ⟨E, hE⟩ : ∃ E, rootE nx x.port x.holder x.rights = E := ⟨_, rfl⟩
        obtain ⟨nx', hnx⟩ : ∃ y, nextA nx E = y := ⟨_, rfl⟩
        obtain ⟨n, hser⟩ : ∃ y, serA nx E = y := ⟨_, rfl⟩
        obtain ⟨lr', hls⟩ : ∃ y, listA nx lr E ⟨0, 0, x.port, x.holder, x.rights, false⟩ = y := ⟨_, rfl⟩
        have hrel := (RL.out.root (by omega : lr.length ≤ 200) x.port x.holder x.rights).2
        rw [hE, hnx, hls] at hrel
        have hll : lr'.length ≤ lr.length + 1 := by rw [← hls]; exact listA_len _ _ _ _
        have hx0' : 1 ≤ nx' := by rw [← hnx]; exact next_pos hx0
        have qE : (E != E) = false := by simp
        have qn : (n != n) = false := by simp
        obtain ⟨c1, hc1⟩ : ∃ y, c.root x.port x.holder x.rights = y := ⟨_, rfl⟩
        have hx1 := S3.out.up3.rootD RL.out (by omega) x.port x.holder x.rights hE hser
        rw [hc1] at hx1 hrel
        have HX := Lib.hid hx1
        have HREL := Lib.hid hrel
        clear hrel hx1 hc1
        go_wp2_with fail
        refine HX.out.mono ?_
        rintro e w3 ⟨rfl, hs⟩
        clear k0 k1 k2 k3 k4 S3 HX
        have k2 : w3.cell? ⟨g9, 2, none⟩ = some (.int .i64 x.port) := hs.drop.drop.drop.blk0.cell 2
        have k3 : w3.cell? ⟨g9, 3, none⟩ = some (.int .i64 x.holder) := hs.drop.drop.drop.blk0.cell 3
        have k4 : w3.cell? ⟨g9, 4, none⟩ = some (.int .u8 (x.rights : Int)) := hs.drop.drop.drop.blk0.cell 4
        have d0 : w3.cell? ⟨g7, 0, none⟩ = some (.int .i64 nx) := hs.drop.drop.drop.drop.blk0.cell 0
        have d1 : w3.cell? ⟨g7, 1, none⟩ = some (.slice R lr.length q) := hs.drop.drop.drop.drop.blk0.cell 1
        have HX := Lib.hid (hs.up6.rroot (cap := q) x.port x.holder x.rights (by omega) (by omega) hx0 hE hnx hser hls)
        clear hs hE hnx hser hls
        go_wp2_with fail
        refine HX.out.mono ?_
        rintro e w4 ⟨R', q', rfl, hs⟩
        have s6 := St.up6 hs
        clear d0 d1 k2 k3 k4 HX hs
        have y0 : w4.cell? ⟨g7, 0, none⟩ = some (.int .i64 nx) := s6.blk0.cell 0
        have y1 : w4.cell? ⟨g7, 1, none⟩ = some (.slice R lr.length q) := s6.blk0.cell 1
        have y2 := s6.blk0.frozen
        have S4 := Lib.hid (s6.put2 (.int .i64 nx') (.slice R' lr'.length q'))
        clear s6
        go_upto_region 37 with fail
        generalize (w4.setCell ⟨g7, 0, none⟩ (.int .i64 nx')).setCell ⟨g7, 1, none⟩ (.slice R' lr'.length q') = w5 at *
        have S5 : Hid (St w w5 [.blk g7 88 #[.int .i64 nx', .slice R' lr'.length q'], .rds [(R', flatR lr'), (R, flatR lr)], .tab b c1, .tab b' c, .blk g11 88 #[.int .i64 nx, .slice R lr.length q], .blk g9 65 #[.int .u8 (x.kind : Int), .int .i64 x.serial, .int .i64 x.port, .int .i64 x.holder, .int .u8 (x.rights : Int)]]) := S4
        clear S4 y0 y1 y2
        have y0 : w5.cell? ⟨g7, 0, none⟩ = some (.int .i64 nx') := S5.out.blk0.cell 0
        have y1 : w5.cell? ⟨g7, 1, none⟩ = some (.slice R' lr'.length q') := S5.out.blk0.cell 1
        have HT := Lib.hid (St.tells (A := R') (l := lr') (cap := q') S5.out.swap.up3 (by simp) HREL.out (by omega))
        go_wp2_with fail
        refine HT.out.mono ?_
        rintro e w6 ⟨rfl, hs⟩
        have S6 := Lib.hid hs
        clear hs HT y0 y1 S5
        by_cases hq : (k : Int) % 4 = 0
        · have hq' : ((k : Int) % 4 == 0) = true := by simp [hq]
          have z0 : w6.cell? ⟨g11, 0, none⟩ = some (.int .i64 nx) := S6.out.drop.drop.drop.drop.blk0.cell 0
          have z1 : w6.cell? ⟨g11, 1, none⟩ = some (.slice R lr.length q) := S6.out.drop.drop.drop.drop.blk0.cell 1
          have HT := Lib.hid (St.tells (A := R) (l := lr) (cap := q) S6.out.up4.up3.swap (by simp) RL.out (by omega))
          clear hq
          go_wp2_with fail
          refine HT.out.mono ?_
          rintro e w7 ⟨rfl, hs⟩
          have S7 := Lib.hid hs
          clear hs HT z0 z1 S6
          go_wp2
          go_roundw
          case rel => exact ⟨k + 1, c1, nx', R', q', lr', by omega, by go_num, (S7.out.drop.up4.drop.up4.drop.rdsSub (L' := [(R', flatR lr')]) (by simp)).swap.up3.swap, HREL.out, by omega, hx0'⟩
          case measure => simp [intOf]; omega
        · have hq' : ((k : Int) % 4 == 0) = false := by simp [hq]
          clear hq
          go_wp2
          go_roundw
          case rel => exact ⟨k + 1, c1, nx', R', q', lr', by omega, by go_num, (S6.out.up4.drop.up4.drop.up4.drop.up3.up3.rdsSub (L' := [(R', flatR lr')]) (by simp)).swap.up3, HREL.out, by omega, hx0'⟩
          case measure => simp [intOf]; omega
      · have m0 : ((x.kind : Int) % 8 == 0) = false := by simp; omega
        have m1 : ((x.kind : Int) % 8 == 1) = false := by simp; omega
        have m2 : ((x.kind : Int) % 8 == 2) = true := by simp; omega
        clear hr8
        obtain ⟨E, hE⟩ : ∃ E, deriveE nx lr x.serial x.holder x.rights = E := ⟨_, rfl⟩
        obtain ⟨nx', hnx⟩ : ∃ y, nextA nx E = y := ⟨_, rfl⟩
        obtain ⟨n, hser⟩ : ∃ y, serA nx E = y := ⟨_, rfl⟩
        obtain ⟨lr', hls⟩ : ∃ y, listA nx lr E ⟨0, x.serial, (getR lr x.serial).1.port, x.holder, x.rights, false⟩ = y := ⟨_, rfl⟩
        have hrel := (RL.out.derive (by omega : lr.length ≤ 200) x.serial x.holder x.rights).2
        rw [hE, hnx, hls] at hrel
        have hll : lr'.length ≤ lr.length + 1 := by rw [← hls]; exact listA_len _ _ _ _
        have hx0' : 1 ≤ nx' := by rw [← hnx]; exact next_pos hx0
        have qE : (E != E) = false := by simp
        have qn : (n != n) = false := by simp
        obtain ⟨c1, hc1⟩ : ∃ y, c.derive x.serial x.holder x.rights = y := ⟨_, rfl⟩
        have hx1 := S3.out.up3.deriveD RL.out (by omega) x.serial x.holder x.rights hE hser
        rw [hc1] at hx1 hrel
        have HX := Lib.hid hx1
        have HREL := Lib.hid hrel
        clear hrel hx1 hc1
        go_wp2_with fail
        refine HX.out.mono ?_
        rintro e w3 ⟨rfl, hs⟩
        clear k0 k1 k2 k3 k4 S3 HX
        have k1 : w3.cell? ⟨g9, 1, none⟩ = some (.int .i64 x.serial) := hs.drop.drop.drop.blk0.cell 1
        have k3 : w3.cell? ⟨g9, 3, none⟩ = some (.int .i64 x.holder) := hs.drop.drop.drop.blk0.cell 3
        have k4 : w3.cell? ⟨g9, 4, none⟩ = some (.int .u8 (x.rights : Int)) := hs.drop.drop.drop.blk0.cell 4
        have d0 : w3.cell? ⟨g7, 0, none⟩ = some (.int .i64 nx) := hs.drop.drop.drop.drop.blk0.cell 0
        have d1 : w3.cell? ⟨g7, 1, none⟩ = some (.slice R lr.length q) := hs.drop.drop.drop.drop.blk0.cell 1
        have HX := Lib.hid (hs.up6.rderive (cap := q) x.serial x.holder x.rights (by omega) (by omega) hx0 (RL.out.getRts _) hE hnx hser hls)
        clear hs hE hnx hser hls
        go_wp2_with fail
        refine HX.out.mono ?_
        rintro e w4 ⟨R', q', rfl, hs⟩
        have s6 := St.up6 hs
        clear d0 d1 k1 k3 k4 HX hs
        have y0 : w4.cell? ⟨g7, 0, none⟩ = some (.int .i64 nx) := s6.blk0.cell 0
        have y1 : w4.cell? ⟨g7, 1, none⟩ = some (.slice R lr.length q) := s6.blk0.cell 1
        have y2 := s6.blk0.frozen
        have S4 := Lib.hid (s6.put2 (.int .i64 nx') (.slice R' lr'.length q'))
        clear s6
        go_upto_region 37 with fail
        generalize (w4.setCell ⟨g7, 0, none⟩ (.int .i64 nx')).setCell ⟨g7, 1, none⟩ (.slice R' lr'.length q') = w5 at *
        have S5 : Hid (St w w5 [.blk g7 88 #[.int .i64 nx', .slice R' lr'.length q'], .rds [(R', flatR lr'), (R, flatR lr)], .tab b c1, .tab b' c, .blk g11 88 #[.int .i64 nx, .slice R lr.length q], .blk g9 65 #[.int .u8 (x.kind : Int), .int .i64 x.serial, .int .i64 x.port, .int .i64 x.holder, .int .u8 (x.rights : Int)]]) := S4
        clear S4 y0 y1 y2
        have y0 : w5.cell? ⟨g7, 0, none⟩ = some (.int .i64 nx') := S5.out.blk0.cell 0
        have y1 : w5.cell? ⟨g7, 1, none⟩ = some (.slice R' lr'.length q') := S5.out.blk0.cell 1
        have HT := Lib.hid (St.tells (A := R') (l := lr') (cap := q') S5.out.swap.up3 (by simp) HREL.out (by omega))
        go_wp2_with fail
        refine HT.out.mono ?_
        rintro e w6 ⟨rfl, hs⟩
        have S6 := Lib.hid hs
        clear hs HT y0 y1 S5
        by_cases hq : (k : Int) % 4 = 0
        · have hq' : ((k : Int) % 4 == 0) = true := by simp [hq]
          have z0 : w6.cell? ⟨g11, 0, none⟩ = some (.int .i64 nx) := S6.out.drop.drop.drop.drop.blk0.cell 0
          have z1 : w6.cell? ⟨g11, 1, none⟩ = some (.slice R lr.length q) := S6.out.drop.drop.drop.drop.blk0.cell 1
          have HT := Lib.hid (St.tells (A := R) (l := lr) (cap := q) S6.out.up4.up3.swap (by simp) RL.out (by omega))
          clear hq
          go_wp2_with fail
          refine HT.out.mono ?_
          rintro e w7 ⟨rfl, hs⟩
          have S7 := Lib.hid hs
          clear hs HT z0 z1 S6
          go_wp2
          go_roundw
          case rel => exact ⟨k + 1, c1, nx', R', q', lr', by omega, by go_num, (S7.out.drop.up4.drop.up4.drop.rdsSub (L' := [(R', flatR lr')]) (by simp)).swap.up3.swap, HREL.out, by omega, hx0'⟩
          case measure => simp [intOf]; omega
        · have hq' : ((k : Int) % 4 == 0) = false := by simp [hq]
          clear hq
          go_wp2
          go_roundw
          case rel => exact ⟨k + 1, c1, nx', R', q', lr', by omega, by go_num, (S6.out.up4.drop.up4.drop.up4.drop.up3.up3.rdsSub (L' := [(R', flatR lr')]) (by simp)).swap.up3, HREL.out, by omega, hx0'⟩
          case measure => simp [intOf]; omega
      · have m0 : ((x.kind : Int) % 8 == 0) = false := by simp; omega
        have m1 : ((x.kind : Int) % 8 == 1) = false := by simp; omega
        have m2 : ((x.kind : Int) % 8 == 2) = false := by simp; omega
        have m3 : ((x.kind : Int) % 8 == 3) = true := by simp; omega
        clear hr8
        obtain ⟨E, hE⟩ : ∃ E, deriveE nx lr x.serial x.holder x.rights = E := ⟨_, rfl⟩
        obtain ⟨nx', hnx⟩ : ∃ y, nextA nx E = y := ⟨_, rfl⟩
        obtain ⟨n, hser⟩ : ∃ y, serA nx E = y := ⟨_, rfl⟩
        obtain ⟨lr', hls⟩ : ∃ y, listA nx lr E ⟨0, x.serial, (getR lr x.serial).1.port, x.holder, x.rights, false⟩ = y := ⟨_, rfl⟩
        have hrel := (RL.out.derive (by omega : lr.length ≤ 200) x.serial x.holder x.rights).2
        rw [hE, hnx, hls] at hrel
        have hll : lr'.length ≤ lr.length + 1 := by rw [← hls]; exact listA_len _ _ _ _
        have hx0' : 1 ≤ nx' := by rw [← hnx]; exact next_pos hx0
        have qE : (E != E) = false := by simp
        have qn : (n != n) = false := by simp
        obtain ⟨c1, hc1⟩ : ∃ y, c.derive x.serial x.holder x.rights = y := ⟨_, rfl⟩
        have hx1 := S3.out.up3.deriveD RL.out (by omega) x.serial x.holder x.rights hE hser
        rw [hc1] at hx1 hrel
        have HX := Lib.hid hx1
        have HREL := Lib.hid hrel
        clear hrel hx1 hc1
        go_wp2_with fail
        refine HX.out.mono ?_
        rintro e w3 ⟨rfl, hs⟩
        clear k0 k1 k2 k3 k4 S3 HX
        have k1 : w3.cell? ⟨g9, 1, none⟩ = some (.int .i64 x.serial) := hs.drop.drop.drop.blk0.cell 1
        have k3 : w3.cell? ⟨g9, 3, none⟩ = some (.int .i64 x.holder) := hs.drop.drop.drop.blk0.cell 3
        have k4 : w3.cell? ⟨g9, 4, none⟩ = some (.int .u8 (x.rights : Int)) := hs.drop.drop.drop.blk0.cell 4
        have d0 : w3.cell? ⟨g7, 0, none⟩ = some (.int .i64 nx) := hs.drop.drop.drop.drop.blk0.cell 0
        have d1 : w3.cell? ⟨g7, 1, none⟩ = some (.slice R lr.length q) := hs.drop.drop.drop.drop.blk0.cell 1
        have HX := Lib.hid (hs.up6.rderive (cap := q) x.serial x.holder x.rights (by omega) (by omega) hx0 (RL.out.getRts _) hE hnx hser hls)
        clear hs hE hnx hser hls
        go_wp2_with fail
        refine HX.out.mono ?_
        rintro e w4 ⟨R', q', rfl, hs⟩
        have s6 := St.up6 hs
        clear d0 d1 k1 k3 k4 HX hs
        have y0 : w4.cell? ⟨g7, 0, none⟩ = some (.int .i64 nx) := s6.blk0.cell 0
        have y1 : w4.cell? ⟨g7, 1, none⟩ = some (.slice R lr.length q) := s6.blk0.cell 1
        have y2 := s6.blk0.frozen
        have S4 := Lib.hid (s6.put2 (.int .i64 nx') (.slice R' lr'.length q'))
        clear s6
        go_upto_region 37 with fail
        generalize (w4.setCell ⟨g7, 0, none⟩ (.int .i64 nx')).setCell ⟨g7, 1, none⟩ (.slice R' lr'.length q') = w5 at *
        have S5 : Hid (St w w5 [.blk g7 88 #[.int .i64 nx', .slice R' lr'.length q'], .rds [(R', flatR lr'), (R, flatR lr)], .tab b c1, .tab b' c, .blk g11 88 #[.int .i64 nx, .slice R lr.length q], .blk g9 65 #[.int .u8 (x.kind : Int), .int .i64 x.serial, .int .i64 x.port, .int .i64 x.holder, .int .u8 (x.rights : Int)]]) := S4
        clear S4 y0 y1 y2
        have y0 : w5.cell? ⟨g7, 0, none⟩ = some (.int .i64 nx') := S5.out.blk0.cell 0
        have y1 : w5.cell? ⟨g7, 1, none⟩ = some (.slice R' lr'.length q') := S5.out.blk0.cell 1
        have HT := Lib.hid (St.tells (A := R') (l := lr') (cap := q') S5.out.swap.up3 (by simp) HREL.out (by omega))
        go_wp2_with fail
        refine HT.out.mono ?_
        rintro e w6 ⟨rfl, hs⟩
        have S6 := Lib.hid hs
        clear hs HT y0 y1 S5
        by_cases hq : (k : Int) % 4 = 0
        · have hq' : ((k : Int) % 4 == 0) = true := by simp [hq]
          have z0 : w6.cell? ⟨g11, 0, none⟩ = some (.int .i64 nx) := S6.out.drop.drop.drop.drop.blk0.cell 0
          have z1 : w6.cell? ⟨g11, 1, none⟩ = some (.slice R lr.length q) := S6.out.drop.drop.drop.drop.blk0.cell 1
          have HT := Lib.hid (St.tells (A := R) (l := lr) (cap := q) S6.out.up4.up3.swap (by simp) RL.out (by omega))
          clear hq
          go_wp2_with fail
          refine HT.out.mono ?_
          rintro e w7 ⟨rfl, hs⟩
          have S7 := Lib.hid hs
          clear hs HT z0 z1 S6
          go_wp2
          go_roundw
          case rel => exact ⟨k + 1, c1, nx', R', q', lr', by omega, by go_num, (S7.out.drop.up4.drop.up4.drop.rdsSub (L' := [(R', flatR lr')]) (by simp)).swap.up3.swap, HREL.out, by omega, hx0'⟩
          case measure => simp [intOf]; omega
        · have hq' : ((k : Int) % 4 == 0) = false := by simp [hq]
          clear hq
          go_wp2
          go_roundw
          case rel => exact ⟨k + 1, c1, nx', R', q', lr', by omega, by go_num, (S6.out.up4.drop.up4.drop.up4.drop.up3.up3.rdsSub (L' := [(R', flatR lr')]) (by simp)).swap.up3, HREL.out, by omega, hx0'⟩
          case measure => simp [intOf]; omega
      · have m0 : ((x.kind : Int) % 8 == 0) = false := by simp; omega
        have m1 : ((x.kind : Int) % 8 == 1) = false := by simp; omega
        have m2 : ((x.kind : Int) % 8 == 2) = false := by simp; omega
        have m3 : ((x.kind : Int) % 8 == 3) = false := by simp; omega
        have m4 : ((x.kind : Int) % 8 == 4) = true := by simp; omega
        clear hr8
        obtain ⟨E, hE⟩ : ∃ E, deriveE nx lr x.serial x.holder x.rights = E := ⟨_, rfl⟩
        obtain ⟨nx', hnx⟩ : ∃ y, nextA nx E = y := ⟨_, rfl⟩
        obtain ⟨n, hser⟩ : ∃ y, serA nx E = y := ⟨_, rfl⟩
        obtain ⟨lr', hls⟩ : ∃ y, listA nx lr E ⟨0, x.serial, (getR lr x.serial).1.port, x.holder, x.rights, false⟩ = y := ⟨_, rfl⟩
        have hrel := (RL.out.derive (by omega : lr.length ≤ 200) x.serial x.holder x.rights).2
        rw [hE, hnx, hls] at hrel
        have hll : lr'.length ≤ lr.length + 1 := by rw [← hls]; exact listA_len _ _ _ _
        have hx0' : 1 ≤ nx' := by rw [← hnx]; exact next_pos hx0
        have qE : (E != E) = false := by simp
        have qn : (n != n) = false := by simp
        obtain ⟨c1, hc1⟩ : ∃ y, c.derive x.serial x.holder x.rights = y := ⟨_, rfl⟩
        have hx1 := S3.out.up3.deriveD RL.out (by omega) x.serial x.holder x.rights hE hser
        rw [hc1] at hx1 hrel
        have HX := Lib.hid hx1
        have HREL := Lib.hid hrel
        clear hrel hx1 hc1
        go_wp2_with fail
        refine HX.out.mono ?_
        rintro e w3 ⟨rfl, hs⟩
        clear k0 k1 k2 k3 k4 S3 HX
        have k1 : w3.cell? ⟨g9, 1, none⟩ = some (.int .i64 x.serial) := hs.drop.drop.drop.blk0.cell 1
        have k3 : w3.cell? ⟨g9, 3, none⟩ = some (.int .i64 x.holder) := hs.drop.drop.drop.blk0.cell 3
        have k4 : w3.cell? ⟨g9, 4, none⟩ = some (.int .u8 (x.rights : Int)) := hs.drop.drop.drop.blk0.cell 4
        have d0 : w3.cell? ⟨g7, 0, none⟩ = some (.int .i64 nx) := hs.drop.drop.drop.drop.blk0.cell 0
        have d1 : w3.cell? ⟨g7, 1, none⟩ = some (.slice R lr.length q) := hs.drop.drop.drop.drop.blk0.cell 1
        have HX := Lib.hid (hs.up6.rderive (cap := q) x.serial x.holder x.rights (by omega) (by omega) hx0 (RL.out.getRts _) hE hnx hser hls)
        clear hs hE hnx hser hls
        go_wp2_with fail
        refine HX.out.mono ?_
        rintro e w4 ⟨R', q', rfl, hs⟩
        have s6 := St.up6 hs
        clear d0 d1 k1 k3 k4 HX hs
        have y0 : w4.cell? ⟨g7, 0, none⟩ = some (.int .i64 nx) := s6.blk0.cell 0
        have y1 : w4.cell? ⟨g7, 1, none⟩ = some (.slice R lr.length q) := s6.blk0.cell 1
        have y2 := s6.blk0.frozen
        have S4 := Lib.hid (s6.put2 (.int .i64 nx') (.slice R' lr'.length q'))
        clear s6
        go_upto_region 37 with fail
        generalize (w4.setCell ⟨g7, 0, none⟩ (.int .i64 nx')).setCell ⟨g7, 1, none⟩ (.slice R' lr'.length q') = w5 at *
        have S5 : Hid (St w w5 [.blk g7 88 #[.int .i64 nx', .slice R' lr'.length q'], .rds [(R', flatR lr'), (R, flatR lr)], .tab b c1, .tab b' c, .blk g11 88 #[.int .i64 nx, .slice R lr.length q], .blk g9 65 #[.int .u8 (x.kind : Int), .int .i64 x.serial, .int .i64 x.port, .int .i64 x.holder, .int .u8 (x.rights : Int)]]) := S4
        clear S4 y0 y1 y2
        have y0 : w5.cell? ⟨g7, 0, none⟩ = some (.int .i64 nx') := S5.out.blk0.cell 0
        have y1 : w5.cell? ⟨g7, 1, none⟩ = some (.slice R' lr'.length q') := S5.out.blk0.cell 1
        have HT := Lib.hid (St.tells (A := R') (l := lr') (cap := q') S5.out.swap.up3 (by simp) HREL.out (by omega))
        go_wp2_with fail
        refine HT.out.mono ?_
        rintro e w6 ⟨rfl, hs⟩
        have S6 := Lib.hid hs
        clear hs HT y0 y1 S5
        by_cases hq : (k : Int) % 4 = 0
        · have hq' : ((k : Int) % 4 == 0) = true := by simp [hq]
          have z0 : w6.cell? ⟨g11, 0, none⟩ = some (.int .i64 nx) := S6.out.drop.drop.drop.drop.blk0.cell 0
          have z1 : w6.cell? ⟨g11, 1, none⟩ = some (.slice R lr.length q) := S6.out.drop.drop.drop.drop.blk0.cell 1
          have HT := Lib.hid (St.tells (A := R) (l := lr) (cap := q) S6.out.up4.up3.swap (by simp) RL.out (by omega))
          clear hq
          go_wp2_with fail
          refine HT.out.mono ?_
          rintro e w7 ⟨rfl, hs⟩
          have S7 := Lib.hid hs
          clear hs HT z0 z1 S6
          go_wp2
          go_roundw
          case rel => exact ⟨k + 1, c1, nx', R', q', lr', by omega, by go_num, (S7.out.drop.up4.drop.up4.drop.rdsSub (L' := [(R', flatR lr')]) (by simp)).swap.up3.swap, HREL.out, by omega, hx0'⟩
          case measure => simp [intOf]; omega
        · have hq' : ((k : Int) % 4 == 0) = false := by simp [hq]
          clear hq
          go_wp2
          go_roundw
          case rel => exact ⟨k + 1, c1, nx', R', q', lr', by omega, by go_num, (S6.out.up4.drop.up4.drop.up4.drop.up3.up3.rdsSub (L' := [(R', flatR lr')]) (by simp)).swap.up3, HREL.out, by omega, hx0'⟩
          case measure => simp [intOf]; omega
      · have m0 : ((x.kind : Int) % 8 == 0) = false := by simp; omega
        have m1 : ((x.kind : Int) % 8 == 1) = false := by simp; omega
        have m2 : ((x.kind : Int) % 8 == 2) = false := by simp; omega
        have m3 : ((x.kind : Int) % 8 == 3) = false := by simp; omega
        have m4 : ((x.kind : Int) % 8 == 4) = false := by simp; omega
        have m5 : ((x.kind : Int) % 8 == 5) = true := by simp; omega
        clear hr8
        obtain ⟨⟨bl, eb⟩, hb⟩ : ∃ y, belowR lr x.serial = y := ⟨_, rfl⟩
        obtain ⟨lr', hls⟩ : ∃ y, takeR lr bl = y := ⟨_, rfl⟩
        obtain ⟨c1, hc1⟩ : ∃ y, c.revoke x.serial = y := ⟨_, rfl⟩
        have hrel := RL.out.revoke x.serial
        have hbn := belowR_len (l := lr) (by omega) x.serial
        rw [hb] at hrel hbn
        rw [hls, hc1] at hrel
        have hll : lr'.length ≤ lr.length + 1 := by rw [← hls, takeR_len]; omega
        have hx1 := S3.out.up3.revokeD RL.out x.serial hb
        have htr : Tree (liveH lr) := by have := S3.out.ok.tree; rwa [RL.out.live] at this
        rw [hc1] at hx1
        have HX := Lib.hid hx1
        have HREL := Lib.hid hrel
        have HTR := Lib.hid htr
        have qE : (eb != eb) = false := by simp
        simp only at hbn
        clear hrel hx1 hc1 htr
        go_wp2_with fail
        refine HX.out.mono ?_
        rintro e w3 ⟨A1, q1, rfl, hs⟩
        clear k0 k1 k2 k3 k4 S3 HX
        have k1 : w3.cell? ⟨g9, 1, none⟩ = some (.int .i64 x.serial) := hs.drop.drop.drop.drop.blk0.cell 1
        have d0 : w3.cell? ⟨g7, 0, none⟩ = some (.int .i64 nx) := hs.drop.drop.drop.drop.drop.blk0.cell 0
        have d1 : w3.cell? ⟨g7, 1, none⟩ = some (.slice R lr.length q) := hs.drop.drop.drop.drop.drop.blk0.cell 1
        have HX := Lib.hid (hs.up7.rrevoke (nx := nx) (cap := q) x.serial (by omega) HTR.out hb hls)
        clear hs hb hls HTR
        go_wp2_with fail
        refine HX.out.mono ?_
        rintro e w4 ⟨R2, q2, R', q', rfl, hs⟩
        have s6 := St.up8 hs
        clear d0 d1 k1 HX hs
        have y0 : w4.cell? ⟨g7, 0, none⟩ = some (.int .i64 nx) := s6.blk0.cell 0
        have y1 : w4.cell? ⟨g7, 1, none⟩ = some (.slice R lr.length q) := s6.blk0.cell 1
        have y2 := s6.blk0.frozen
        have S4 := Lib.hid (s6.put2 (.int .i64 nx) (.slice R' lr'.length q'))
        have HX := Lib.hid (same34 (c := q1) (d := q2) (own_reads S4.out.up5.row) (own_reads S4.out.up3.row) hbn)
        clear s6
        go_wp2_with fail
        refine HX.out.mono ?_
        rintro e w5 ⟨rfl, hk⟩
        have S5 : Hid (St w w5 [.blk g7 88 #[.int .i64 nx, .slice R' lr'.length q'], .rds [(R', flatR lr'), (R, flatR lr)], .tab b c1, .tab b' c, .blk g11 88 #[.int .i64 nx, .slice R lr.length q], .blk g9 65 #[.int .u8 (x.kind : Int), .int .i64 x.serial, .int .i64 x.port, .int .i64 x.holder, .int .u8 (x.rights : Int)]]) := Lib.hid ((S4.out.kept hk).up3.drop.up4.drop)
        clear S4 y0 y1 y2 HX hk
        have y0 : w5.cell? ⟨g7, 0, none⟩ = some (.int .i64 nx) := S5.out.blk0.cell 0
        have y1 : w5.cell? ⟨g7, 1, none⟩ = some (.slice R' lr'.length q') := S5.out.blk0.cell 1
        have HT := Lib.hid (St.tells (A := R') (l := lr') (cap := q') S5.out.swap.up3 (by simp) HREL.out (by omega))
        go_wp2_with fail
        refine HT.out.mono ?_
        rintro e w6 ⟨rfl, hs⟩
        have S6 := Lib.hid hs
        clear hs HT y0 y1 S5
        by_cases hq : (k : Int) % 4 = 0
        · have hq' : ((k : Int) % 4 == 0) = true := by simp [hq]
          have z0 : w6.cell? ⟨g11, 0, none⟩ = some (.int .i64 nx) := S6.out.drop.drop.drop.drop.blk0.cell 0
          have z1 : w6.cell? ⟨g11, 1, none⟩ = some (.slice R lr.length q) := S6.out.drop.drop.drop.drop.blk0.cell 1
          have HT := Lib.hid (St.tells (A := R) (l := lr) (cap := q) S6.out.up4.up3.swap (by simp) RL.out (by omega))
          clear hq
          go_wp2_with fail
          refine HT.out.mono ?_
          rintro e w7 ⟨rfl, hs⟩
          have S7 := Lib.hid hs
          clear hs HT z0 z1 S6
          go_wp2
          go_roundw
          case rel => exact ⟨k + 1, c1, nx, R', q', lr', by omega, by go_num, (S7.out.drop.up4.drop.up4.drop.rdsSub (L' := [(R', flatR lr')]) (by simp)).swap.up3.swap, HREL.out, by omega, hx0⟩
          case measure => simp [intOf]; omega
        · have hq' : ((k : Int) % 4 == 0) = false := by simp [hq]
          clear hq
          go_wp2
          go_roundw
          case rel => exact ⟨k + 1, c1, nx, R', q', lr', by omega, by go_num, (S6.out.up4.drop.up4.drop.up4.drop.up3.up3.rdsSub (L' := [(R', flatR lr')]) (by simp)).swap.up3, HREL.out, by omega, hx0⟩
          case measure => simp [intOf]; omega
      · have m0 : ((x.kind : Int) % 8 == 0) = false := by simp; omega
        have m1 : ((x.kind : Int) % 8 == 1) = false := by simp; omega
        have m2 : ((x.kind : Int) % 8 == 2) = false := by simp; omega
        have m3 : ((x.kind : Int) % 8 == 3) = false := by simp; omega
        have m4 : ((x.kind : Int) % 8 == 4) = false := by simp; omega
        have m5 : ((x.kind : Int) % 8 == 5) = false := by simp; omega
        have m6 : ((x.kind : Int) % 8 == 6) = true := by simp; omega
        clear hr8
        obtain ⟨⟨bl, eb⟩, hb⟩ : ∃ y, belowR lr x.serial = y := ⟨_, rfl⟩
        obtain ⟨lr', hls⟩ : ∃ y, takeR lr bl = y := ⟨_, rfl⟩
        obtain ⟨c1, hc1⟩ : ∃ y, c.revoke x.serial = y := ⟨_, rfl⟩
        have hrel := RL.out.revoke x.serial
        have hbn := belowR_len (l := lr) (by omega) x.serial
        rw [hb] at hrel hbn
        rw [hls, hc1] at hrel
        have hll : lr'.length ≤ lr.length + 1 := by rw [← hls, takeR_len]; omega
        have hx1 := S3.out.up3.revokeD RL.out x.serial hb
        have htr : Tree (liveH lr) := by have := S3.out.ok.tree; rwa [RL.out.live] at this
        rw [hc1] at hx1
        have HX := Lib.hid hx1
        have HREL := Lib.hid hrel
        have HTR := Lib.hid htr
        have qE : (eb != eb) = false := by simp
        simp only at hbn
        clear hrel hx1 hc1 htr
        go_wp2_with fail
        refine HX.out.mono ?_
        rintro e w3 ⟨A1, q1, rfl, hs⟩
        clear k0 k1 k2 k3 k4 S3 HX
        have k1 : w3.cell? ⟨g9, 1, none⟩ = some (.int .i64 x.serial) := hs.drop.drop.drop.drop.blk0.cell 1
        have d0 : w3.cell? ⟨g7, 0, none⟩ = some (.int .i64 nx) := hs.drop.drop.drop.drop.drop.blk0.cell 0
        have d1 : w3.cell? ⟨g7, 1, none⟩ = some (.slice R lr.length q) := hs.drop.drop.drop.drop.drop.blk0.cell 1
        have HX := Lib.hid (hs.up7.rrevoke (nx := nx) (cap := q) x.serial (by omega) HTR.out hb hls)
        clear hs hb hls HTR
        go_wp2_with fail
        refine HX.out.mono ?_
        rintro e w4 ⟨R2, q2, R', q', rfl, hs⟩
        have s6 := St.up8 hs
        clear d0 d1 k1 HX hs
        have y0 : w4.cell? ⟨g7, 0, none⟩ = some (.int .i64 nx) := s6.blk0.cell 0
        have y1 : w4.cell? ⟨g7, 1, none⟩ = some (.slice R lr.length q) := s6.blk0.cell 1
        have y2 := s6.blk0.frozen
        have S4 := Lib.hid (s6.put2 (.int .i64 nx) (.slice R' lr'.length q'))
        have HX := Lib.hid (same34 (c := q1) (d := q2) (own_reads S4.out.up5.row) (own_reads S4.out.up3.row) hbn)
        clear s6
        go_wp2_with fail
        refine HX.out.mono ?_
        rintro e w5 ⟨rfl, hk⟩
        have S5 : Hid (St w w5 [.blk g7 88 #[.int .i64 nx, .slice R' lr'.length q'], .rds [(R', flatR lr'), (R, flatR lr)], .tab b c1, .tab b' c, .blk g11 88 #[.int .i64 nx, .slice R lr.length q], .blk g9 65 #[.int .u8 (x.kind : Int), .int .i64 x.serial, .int .i64 x.port, .int .i64 x.holder, .int .u8 (x.rights : Int)]]) := Lib.hid ((S4.out.kept hk).up3.drop.up4.drop)
        clear S4 y0 y1 y2 HX hk
        have y0 : w5.cell? ⟨g7, 0, none⟩ = some (.int .i64 nx) := S5.out.blk0.cell 0
        have y1 : w5.cell? ⟨g7, 1, none⟩ = some (.slice R' lr'.length q') := S5.out.blk0.cell 1
        have HT := Lib.hid (St.tells (A := R') (l := lr') (cap := q') S5.out.swap.up3 (by simp) HREL.out (by omega))
        go_wp2_with fail
        refine HT.out.mono ?_
        rintro e w6 ⟨rfl, hs⟩
        have S6 := Lib.hid hs
        clear hs HT y0 y1 S5
        by_cases hq : (k : Int) % 4 = 0
        · have hq' : ((k : Int) % 4 == 0) = true := by simp [hq]
          have z0 : w6.cell? ⟨g11, 0, none⟩ = some (.int .i64 nx) := S6.out.drop.drop.drop.drop.blk0.cell 0
          have z1 : w6.cell? ⟨g11, 1, none⟩ = some (.slice R lr.length q) := S6.out.drop.drop.drop.drop.blk0.cell 1
          have HT := Lib.hid (St.tells (A := R) (l := lr) (cap := q) S6.out.up4.up3.swap (by simp) RL.out (by omega))
          clear hq
          go_wp2_with fail
          refine HT.out.mono ?_
          rintro e w7 ⟨rfl, hs⟩
          have S7 := Lib.hid hs
          clear hs HT z0 z1 S6
          go_wp2
          go_roundw
          case rel => exact ⟨k + 1, c1, nx, R', q', lr', by omega, by go_num, (S7.out.drop.up4.drop.up4.drop.rdsSub (L' := [(R', flatR lr')]) (by simp)).swap.up3.swap, HREL.out, by omega, hx0⟩
          case measure => simp [intOf]; omega
        · have hq' : ((k : Int) % 4 == 0) = false := by simp [hq]
          clear hq
          go_wp2
          go_roundw
          case rel => exact ⟨k + 1, c1, nx, R', q', lr', by omega, by go_num, (S6.out.up4.drop.up4.drop.up4.drop.up3.up3.rdsSub (L' := [(R', flatR lr')]) (by simp)).swap.up3, HREL.out, by omega, hx0⟩
          case measure => simp [intOf]; omega
      · have m0 : ((x.kind : Int) % 8 == 0) = false := by simp; omega
        have m1 : ((x.kind : Int) % 8 == 1) = false := by simp; omega
        have m2 : ((x.kind : Int) % 8 == 2) = false := by simp; omega
        have m3 : ((x.kind : Int) % 8 == 3) = false := by simp; omega
        have m4 : ((x.kind : Int) % 8 == 4) = false := by simp; omega
        have m5 : ((x.kind : Int) % 8 == 5) = false := by simp; omega
        have m6 : ((x.kind : Int) % 8 == 6) = false := by simp; omega
        clear hr8
        obtain ⟨bl, hb⟩ : ∃ y, portL (liveR lr) x.port = y := ⟨_, rfl⟩
        obtain ⟨lr', hls⟩ : ∃ y, takeR lr bl = y := ⟨_, rfl⟩
        obtain ⟨c1, hc1⟩ : ∃ y, c.close x.port = y := ⟨_, rfl⟩
        have hrel := RL.out.close x.port
        rw [hb, hls, hc1] at hrel
        have hbn : bl.length ≤ 1024 := by
          have h1 := portL_le (liveR lr) x.port
          have h2 := liveR_le lr
          rw [hb] at h1
          omega
        have hll : lr'.length ≤ lr.length + 1 := by rw [← hls, takeR_len]; omega
        have HREL := Lib.hid hrel
        have HX := Lib.hid (S3.out.up6.rclose (nx := nx) (cap := q) x.port (by omega) hb hls)
        have d0 : wx.cell? ⟨g7, 0, none⟩ = some (.int .i64 nx) := S3.out.drop.drop.drop.drop.blk0.cell 0
        have d1 : wx.cell? ⟨g7, 1, none⟩ = some (.slice R lr.length q) := S3.out.drop.drop.drop.drop.blk0.cell 1
        have HB := Lib.hid hb
        have HC := Lib.hid hc1
        clear hrel hb hls hc1
        go_wp2_with fail
        refine HX.out.mono ?_
        rintro e w3 ⟨R2, q2, R', q', rfl, hs⟩
        have s6 := St.up7 hs
        clear d0 d1 k0 k1 k2 k3 k4 HX hs S3
        have y0 : w3.cell? ⟨g7, 0, none⟩ = some (.int .i64 nx) := s6.blk0.cell 0
        have y1 : w3.cell? ⟨g7, 1, none⟩ = some (.slice R lr.length q) := s6.blk0.cell 1
        have y2 := s6.blk0.frozen
        have S4 := Lib.hid (s6.put2 (.int .i64 nx) (.slice R' lr'.length q')).up6
        have k2 : w3.cell? ⟨g9, 2, none⟩ = some (.int .i64 x.port) := s6.up7.blk0.cell 2
        have k2' : ((w3.setCell ⟨g7, 0, none⟩ (.int .i64 nx)).setCell ⟨g7, 1, none⟩ (.slice R' lr'.length q')).cell? ⟨g9, 2, none⟩ = some (.int .i64 x.port) := S4.out.up7.blk0.cell 2
        clear s6
        go_upto_region 18 with fail
        generalize (w3.setCell ⟨g7, 0, none⟩ (.int .i64 nx)).setCell ⟨g7, 1, none⟩ (.slice R' lr'.length q') = w4 at *
        have hx1 := S4.out.closeD RL.out x.port HB.out
        rw [HC.out] at hx1
        have HX := Lib.hid hx1
        clear hx1 k2 y0 y1 y2
        go_wp2_with fail
        refine HX.out.mono ?_
        rintro e w6 ⟨A1, q1, rfl, hs⟩
        have HX := Lib.hid (same34 (c := q1) (d := q2) (own_reads hs.swap.row) (own_reads hs.up5.row) hbn)
        have S6 := Lib.hid hs
        clear hs k2' S4 HB HC
        go_wp2_with fail
        refine HX.out.mono ?_
        rintro e w5 ⟨rfl, hk⟩
        have S5 : Hid (St w w5 [.blk g7 88 #[.int .i64 nx, .slice R' lr'.length q'], .rds [(R', flatR lr'), (R, flatR lr)], .tab b c1, .tab b' c, .blk g11 88 #[.int .i64 nx, .slice R lr.length q], .blk g9 65 #[.int .u8 (x.kind : Int), .int .i64 x.serial, .int .i64 x.port, .int .i64 x.holder, .int .u8 (x.rights : Int)]]) := Lib.hid (((S6.out.kept hk).swap.drop.up4.drop).up3.up3)
        clear S6 HX hk
        have y0 : w5.cell? ⟨g7, 0, none⟩ = some (.int .i64 nx) := S5.out.blk0.cell 0
        have y1 : w5.cell? ⟨g7, 1, none⟩ = some (.slice R' lr'.length q') := S5.out.blk0.cell 1
        have HT := Lib.hid (St.tells (A := R') (l := lr') (cap := q') S5.out.swap.up3 (by simp) HREL.out (by omega))
        go_wp2_with fail
        refine HT.out.mono ?_
        rintro e w6 ⟨rfl, hs⟩
        have S6 := Lib.hid hs
        clear hs HT y0 y1 S5
        by_cases hq : (k : Int) % 4 = 0
        · have hq' : ((k : Int) % 4 == 0) = true := by simp [hq]
          have z0 : w6.cell? ⟨g11, 0, none⟩ = some (.int .i64 nx) := S6.out.drop.drop.drop.drop.blk0.cell 0
          have z1 : w6.cell? ⟨g11, 1, none⟩ = some (.slice R lr.length q) := S6.out.drop.drop.drop.drop.blk0.cell 1
          have HT := Lib.hid (St.tells (A := R) (l := lr) (cap := q) S6.out.up4.up3.swap (by simp) RL.out (by omega))
          clear hq
          go_wp2_with fail
          refine HT.out.mono ?_
          rintro e w7 ⟨rfl, hs⟩
          have S7 := Lib.hid hs
          clear hs HT z0 z1 S6
          go_wp2
          go_roundw
          case rel => exact ⟨k + 1, c1, nx, R', q', lr', by omega, by go_num, (S7.out.drop.up4.drop.up4.drop.rdsSub (L' := [(R', flatR lr')]) (by simp)).swap.up3.swap, HREL.out, by omega, hx0⟩
          case measure => simp [intOf]; omega
        · have hq' : ((k : Int) % 4 == 0) = false := by simp [hq]
          clear hq
          go_wp2
          go_roundw
          case rel => exact ⟨k + 1, c1, nx, R', q', lr', by omega, by go_num, (S6.out.up4.drop.up4.drop.up4.drop.up3.up3.rdsSub (L' := [(R', flatR lr')]) (by simp)).swap.up3, HREL.out, by omega, hx0⟩
          case measure => simp [intOf]; omega
    · obtain rfl : k = l.length := by omega
      have d0 : wr.cell? ⟨g7, 0, none⟩ = some (.int .i64 nx) := hS.blk1.cell 0
      have d1 : wr.cell? ⟨g7, 1, none⟩ = some (.slice R lr.length q) := hS.blk1.cell 1
      have S2 := Lib.hid hS.swap.drop
      have HT := Lib.hid (S2.out.tells (A := R) (l := lr) (cap := q) (by simp) hR (by omega))
      clear hS hR
      go_wp2_with fail
      refine HT.out.mono ?_
      rintro e w5 ⟨rfl, hs⟩
      have S3 := Lib.hid hs
      clear hs
      go_wp2
      go_ret
      exact ⟨rfl, S3.out.whole⟩
end Go.Proofs.Ytmndckeohfcgkaa

