/- The reference of layer 23: add. -/
import Derived.Test.YtmndckeohfcgkaaOver
import Derived.Deep.RegionLaw
import Derived.Deep.CutRange
namespace Go.Proofs.Ytmndckeohfcgkaa
open Go.RowKit
set_option maxRecDepth 100000 in
set_option maxHeartbeats 2000000 in
theorem RAdd_full {w : World} {A : Option Addr} {cap : Nat} {nx : Int} {l : List RH} (h : RH) (hA : Reads w A (flatR l)) (hn : l.length ≤ 200) (hx : 281474976710656 < nx) :
    Calls Try.prog 64 #[.agg #[.int .i64 nx, .slice A l.length cap], h.val] w fun e w' => e = .returned (.tuple #[.agg #[.int .i64 nx, .slice A l.length cap], .int .i64 0, .int .i64 4]) ∧ Kept [] w w' := by
  generalize hv : (w.alloc (.cells #[.int .i64 nx, .slice A l.length cap] 88)) = w1
  generalize hv2 : (w1.alloc (.cells #[.int .i64 h.serial, .int .i64 h.parent, .int .i64 h.port, .int .i64 h.holder, .int .i64 h.rights, .bool h.gone] 104)) = w2
  generalize hv3 : (w2.alloc (.cells #[.int .i64 0, .slice none 0 0] 88)) = w3
  have s0 : St w w1 [.blk w.heap.size 88 #[.int .i64 nx, .slice A l.length cap]] := by rw [← hv]; exact (St.nil w).alloc _ _
  have s1 := s0.alloc 104 #[.int .i64 h.serial, .int .i64 h.parent, .int .i64 h.port, .int .i64 h.holder, .int .i64 h.rights, .bool h.gone]
  rw [hv2] at s1
  have s2 := s1.alloc 88 #[.int .i64 0, .slice none 0 0]
  rw [hv3] at s2
  have d0 : w3.cell? ⟨w.heap.size, 0, none⟩ = some (.int .i64 nx) := s2.blk2.cell 0
  have d1 : w3.cell? ⟨w.heap.size, 1, none⟩ = some (.slice A l.length cap) := s2.blk2.cell 1
  have S1 := Lib.hid s2
  have HL := Lib.hid (RLive_calls (nx := nx) (cap := cap) (s2.whole.reads hA (by simp)) (by omega))
  have hlv : (liveR l).length ≤ 200 := by have := liveR_le l; omega
  have hne : (((liveR l).length : Int) == 256) = false := by simp; omega
  generalize liveR l = l2 at *
  clear hA s0 s1 s2
  unfold RH.val
  go_enter Try.func64, Try.ntmps64
  go_wp2_with fail
  refine HL.out.mono ?_
  rintro e w4 ⟨R, q, rfl, ho, hk⟩
  have s3 := S1.out.kept hk
  have e0 : w4.cell? ⟨w.heap.size, 0, none⟩ = some (.int .i64 nx) := s3.blk2.cell 0
  have e1 : w4.cell? ⟨w.heap.size, 1, none⟩ = some (.slice A l.length cap) := s3.blk2.cell 1
  have f0 := s3.blk0.cell 0
  have f1 := s3.blk0.cell 1
  have z := s3.blk0.frozen
  have S2 := Lib.hid s3
  clear ho hk s3 HL d0 d1 hv hv2 hv3
  go_wp2
  have s5 := S2.out.put2 (.int .i64 nx) (.slice A l.length cap)
  refine bodyPost_ret (results_c88_3 rfl rfl s5.blk0 rfl rfl) rfl ?_
  exact ⟨rfl, s5.whole⟩
theorem St.set {w0 w : World} {rs : List Res} {g : Nat} {t : TypeId} {cs : Array Value} (h : St w0 w (.blk g t cs :: rs)) (i : Nat) (y : Value) :
    St w0 (w.setCell ⟨g, i, none⟩ y) (.blk g t (cs.setIfInBounds i y) :: rs) := by
  obtain ⟨F1, h1, h2⟩ := h.head
  obtain ⟨hb, rfl⟩ := h1
  have hm : g ∈ [g] := by simp
  exact h2 (R' := .blk g t _) (F' := [g]) ⟨hb.set_ i y, rfl⟩ (Kept.setCell hm _ _) fun b hb => .inl hb
theorem reads_blk {w : World} {g : Nat} {t : TypeId} {cs : List Value} (h : Blk w g t cs.toArray) : Reads w (some ⟨g, 0, none⟩) cs := by
  refine .inr ⟨g, 0, rfl, fun j u hj => ?_⟩
  rw [Nat.zero_add, Blk.cell h j]
  simpa using hj
theorem fin_add {w w7 : World} {w1s w2s g hb : Nat} {A R : Option Addr} {cap q n : Nat} {nx : Int} {l : List RH} {h : RH} {cs cs1 cs2 : Array Value}
    (S : St w w7 [.row (.slice R (n + 1) q) 104 6 (n + 1) (flatR l ++ [.int .i64 nx, .int .i64 h.parent, .int .i64 h.port, .int .i64 h.holder, .int .i64 h.rights, .bool h.gone]), .blk hb 104 cs, .blk w1s 104 cs1, .blk w2s 88 cs2, .blk g 88 #[.int .i64 nx, .slice A n cap]]) :
    St w (w7.setCell ⟨g, 1, none⟩ (.slice R (n + 1) q)) [.row (.slice R (n + 1) q) 104 6 (n + 1) (flatR (l ++ [{ h with serial := nx }])), .blk w1s 104 cs1, .blk w2s 88 cs2, .blk g 88 #[.int .i64 nx, .slice R (n + 1) q]] := by
  have e : flatR (l ++ [{ h with serial := nx }]) = flatR l ++ [.int .i64 nx, .int .i64 h.parent, .int .i64 h.port, .int .i64 h.holder, .int .i64 h.rights, .bool h.gone] := by simp [flatR, RH.cells]
  rw [e]
  have s1 := S.swap.drop.up4.set 1 (.slice R (n + 1) q)
  exact s1.perm (List.perm_middle (l₁ := [_, _, _]) (l₂ := [])).symm
set_option maxRecDepth 100000 in
set_option maxHeartbeats 2000000 in
theorem RAdd_main {w : World} {A : Option Addr} {cap : Nat} {nx : Int} {l : List RH} (h : RH) (hA : Reads w A (flatR l)) (hn : l.length ≤ 200) (hx0 : 1 ≤ nx) (hx : nx ≤ 281474976710656) :
    Calls Try.prog 64 #[.agg #[.int .i64 nx, .slice A l.length cap], h.val] w fun e w' => ∃ R q, e = .returned (.tuple #[.agg #[.int .i64 (nx + 1), .slice R (l.length + 1) q], .int .i64 nx, .int .i64 0]) ∧
      St w w' [.row (.slice R (l.length + 1) q) 104 6 (l.length + 1) (flatR (l ++ [{ h with serial := nx }]))] := by
  obtain ⟨i0, hi, hz0, hz1, hz2⟩ := info_parts info104
  have HA := Lib.hid hA
  generalize hv : (w.alloc (.cells #[.int .i64 nx, .slice A l.length cap] 88)) = w1
  generalize hv2 : (w1.alloc (.cells #[.int .i64 h.serial, .int .i64 h.parent, .int .i64 h.port, .int .i64 h.holder, .int .i64 h.rights, .bool h.gone] 104)) = w2
  generalize hv3 : (w2.alloc (.cells #[.int .i64 0, .slice none 0 0] 88)) = w3
  have s0 : St w w1 [.blk w.heap.size 88 #[.int .i64 nx, .slice A l.length cap]] := by rw [← hv]; exact (St.nil w).alloc _ _
  have s1 := s0.alloc 104 #[.int .i64 h.serial, .int .i64 h.parent, .int .i64 h.port, .int .i64 h.holder, .int .i64 h.rights, .bool h.gone]
  rw [hv2] at s1
  have s2 := s1.alloc 88 #[.int .i64 0, .slice none 0 0]
  rw [hv3] at s2
  have d0 : w3.cell? ⟨w.heap.size, 0, none⟩ = some (.int .i64 nx) := s2.blk2.cell 0
  have d1 : w3.cell? ⟨w.heap.size, 1, none⟩ = some (.slice A l.length cap) := s2.blk2.cell 1
  have S1 := Lib.hid s2
  have HL := Lib.hid (RLive_calls (nx := nx) (cap := cap) (s2.whole.reads hA (by simp)) (by omega))
  have hlv : (liveR l).length ≤ 200 := by have := liveR_le l; omega
  have hne : (((liveR l).length : Int) == 256) = false := by simp; omega
  generalize liveR l = l2 at *
  clear hA s0 s1 s2
  unfold RH.val
  go_enter Try.func64, Try.ntmps64
  go_wp2_with fail
  refine HL.out.mono ?_
  rintro e w4 ⟨R, q, rfl, ho, hk⟩
  have s3 := S1.out.kept hk
  have e0 : w4.cell? ⟨w.heap.size, 0, none⟩ = some (.int .i64 nx) := s3.blk2.cell 0
  have e1 : w4.cell? ⟨w.heap.size, 1, none⟩ = some (.slice A l.length cap) := s3.blk2.cell 1
  have f0 := s3.blk0.cell 0
  have f1 := s3.blk0.cell 1
  have z := s3.blk0.frozen
  have S2 := Lib.hid s3
  have HP := Lib.hid (RPlaces_calls (nx := nx) (cap := cap) h.holder (s3.whole.reads HA.out (by simp)) (by omega))
  have hpv : (placesR l h.holder).length ≤ 200 := by have := placesR_le l h.holder; omega
  have g3 : w4.cell? ⟨w1.heap.size, 3, none⟩ = some (.int .i64 h.holder) := s3.blk1.cell 3
  have hne2 : (((placesR l h.holder).length : Int) == 256) = false := by simp; omega
  generalize placesR l h.holder = l3 at *
  clear ho hk s3 HL d0 d1 hv hv2 hv3
  go_wp2_with fail
  refine HP.out.mono ?_
  rintro e w5 ⟨R2, q2, rfl, ho, hk⟩
  have s4 := S2.out.kept hk
  have e2 : w5.cell? ⟨w.heap.size, 0, none⟩ = some (.int .i64 nx) := s4.blk2.cell 0
  have c0 : w5.cell? ⟨w1.heap.size, 0, none⟩ = some (.int .i64 h.serial) := s4.blk1.cell 0
  have cz := s4.blk1.frozen 0
  have s5 := s4.swap.set 0 (.int .i64 nx)
  have S5 := Lib.hid s5
  clear ho hk s4 HP S2 e0 e1 f0 f1 z g3 s5
  go_upto_region 6 with fail
  generalize w5.setCell ⟨w1.heap.size, 0, none⟩ (.int .i64 nx) = W at *
  have S6 : Hid (St w W [.blk w1.heap.size 104 #[.int .i64 nx, .int .i64 h.parent, .int .i64 h.port, .int .i64 h.holder, .int .i64 h.rights, .bool h.gone], .blk w2.heap.size 88 #[.int .i64 0, .slice none 0 0], .blk w.heap.size 88 #[.int .i64 nx, .slice A l.length cap]]) := S5
  clear S5 e2 c0 cz
  go_cut [] from 27 to 34 (fun wx => ∃ R q, St w wx [.row (.slice R (l.length + 1) q) 104 6 (l.length + 1) (flatR (l ++ [{ h with serial := nx }])), .blk w1.heap.size 104 #[.int .i64 nx, .int .i64 h.parent, .int .i64 h.port, .int .i64 h.holder, .int .i64 h.rights, .bool h.gone], .blk w2.heap.size 88 #[.int .i64 0, .slice none 0 0], .blk w.heap.size 88 #[.int .i64 nx, .slice R (l.length + 1) q]])
  case first =>
    have HN := Lib.hid hn
    have sE := (S6.out.new (R := .row (.slice (some ⟨W.heap.size, 0, none⟩) 0 0) 104 6 0 []) (Kept.alloc [] W (.cells #[] 104)) (row_on (World.ownsRow_made (size := 6) (e := 104) (base := 0) W #[] 0 (Nat.zero_le _) (by unfold maxLen; omega) (by simp))) (by simp [Value.ownBlock]))
    have SA := Lib.hid (sE.kept (Kept.drew [] _))
    have sB := ((sE.alloc1 104 #[.int .i64 nx, .int .i64 h.parent, .int .i64 h.port, .int .i64 h.holder, .int .i64 h.rights, .bool h.gone]).kept (Kept.drew [] _))
    simp only [World.size_alloc] at sB
    have SB := Lib.hid sB
    clear sB
    have sH := S6.out.alloc 104 #[.int .i64 nx, .int .i64 h.parent, .int .i64 h.port, .int .i64 h.holder, .int .i64 h.rights, .bool h.gone]
    have SC := Lib.hid ((sH.new (R := .row (.slice (some ⟨W.heap.size + 1, 0, none⟩) 0 0) 104 6 0 []) (Kept.alloc [] _ (.cells #[] 104)) (row_on (by
      have := World.ownsRow_made (size := 6) (e := 104) (base := 0) (W.alloc (.cells #[.int .i64 nx, .int .i64 h.parent, .int .i64 h.port, .int .i64 h.holder, .int .i64 h.rights, .bool h.gone] 104)) #[] 0 (Nat.zero_le _) (by unfold maxLen; omega) (by simp)
      simpa using this)) (by simp [Value.ownBlock])).kept (Kept.drew [] _))
    have SD := Lib.hid (S6.out.kept (Kept.drew [] W))
    have SH := Lib.hid (sH.kept (Kept.drew [] _))
    clear sE sH
    have mD : (W.drew).cell? ⟨w.heap.size, 1, none⟩ = some (.slice A l.length cap) := SD.out.drop.drop.blk0.cell 1
    have hD0 : (W.drew).cell? ⟨w1.heap.size, 0, none⟩ = some (.int .i64 nx) := SD.out.blk0.cell 0
    have hD1 : (W.drew).cell? ⟨w1.heap.size, 1, none⟩ = some (.int .i64 h.parent) := SD.out.blk0.cell 1
    have hD2 : (W.drew).cell? ⟨w1.heap.size, 2, none⟩ = some (.int .i64 h.port) := SD.out.blk0.cell 2
    have hD3 : (W.drew).cell? ⟨w1.heap.size, 3, none⟩ = some (.int .i64 h.holder) := SD.out.blk0.cell 3
    have hD4 : (W.drew).cell? ⟨w1.heap.size, 4, none⟩ = some (.int .i64 h.rights) := SD.out.blk0.cell 4
    have hD5 : (W.drew).cell? ⟨w1.heap.size, 5, none⟩ = some (.bool h.gone) := SD.out.blk0.cell 5
    have mA : ((W.alloc (.cells #[] 104)).drew).cell? ⟨w.heap.size, 1, none⟩ = some (.slice A l.length cap) := SA.out.drop.drop.drop.blk0.cell 1
    have hA0 : ((W.alloc (.cells #[] 104)).drew).cell? ⟨w1.heap.size, 0, none⟩ = some (.int .i64 nx) := SA.out.drop.blk0.cell 0
    have hA1 : ((W.alloc (.cells #[] 104)).drew).cell? ⟨w1.heap.size, 1, none⟩ = some (.int .i64 h.parent) := SA.out.drop.blk0.cell 1
    have hA2 : ((W.alloc (.cells #[] 104)).drew).cell? ⟨w1.heap.size, 2, none⟩ = some (.int .i64 h.port) := SA.out.drop.blk0.cell 2
    have hA3 : ((W.alloc (.cells #[] 104)).drew).cell? ⟨w1.heap.size, 3, none⟩ = some (.int .i64 h.holder) := SA.out.drop.blk0.cell 3
    have hA4 : ((W.alloc (.cells #[] 104)).drew).cell? ⟨w1.heap.size, 4, none⟩ = some (.int .i64 h.rights) := SA.out.drop.blk0.cell 4
    have hA5 : ((W.alloc (.cells #[] 104)).drew).cell? ⟨w1.heap.size, 5, none⟩ = some (.bool h.gone) := SA.out.drop.blk0.cell 5
    have mH : ((W.alloc (.cells #[.int .i64 nx, .int .i64 h.parent, .int .i64 h.port, .int .i64 h.holder, .int .i64 h.rights, .bool h.gone] 104)).drew).cell? ⟨w.heap.size, 1, none⟩ = some (.slice A l.length cap) := SH.out.drop.drop.drop.blk0.cell 1
    have hH0 : ((W.alloc (.cells #[.int .i64 nx, .int .i64 h.parent, .int .i64 h.port, .int .i64 h.holder, .int .i64 h.rights, .bool h.gone] 104)).drew).cell? ⟨w1.heap.size, 0, none⟩ = some (.int .i64 nx) := SH.out.drop.blk0.cell 0
    have hH1 : ((W.alloc (.cells #[.int .i64 nx, .int .i64 h.parent, .int .i64 h.port, .int .i64 h.holder, .int .i64 h.rights, .bool h.gone] 104)).drew).cell? ⟨w1.heap.size, 1, none⟩ = some (.int .i64 h.parent) := SH.out.drop.blk0.cell 1
    have hH2 : ((W.alloc (.cells #[.int .i64 nx, .int .i64 h.parent, .int .i64 h.port, .int .i64 h.holder, .int .i64 h.rights, .bool h.gone] 104)).drew).cell? ⟨w1.heap.size, 2, none⟩ = some (.int .i64 h.port) := SH.out.drop.blk0.cell 2
    have hH3 : ((W.alloc (.cells #[.int .i64 nx, .int .i64 h.parent, .int .i64 h.port, .int .i64 h.holder, .int .i64 h.rights, .bool h.gone] 104)).drew).cell? ⟨w1.heap.size, 3, none⟩ = some (.int .i64 h.holder) := SH.out.drop.blk0.cell 3
    have hH4 : ((W.alloc (.cells #[.int .i64 nx, .int .i64 h.parent, .int .i64 h.port, .int .i64 h.holder, .int .i64 h.rights, .bool h.gone] 104)).drew).cell? ⟨w1.heap.size, 4, none⟩ = some (.int .i64 h.rights) := SH.out.drop.blk0.cell 4
    have hH5 : ((W.alloc (.cells #[.int .i64 nx, .int .i64 h.parent, .int .i64 h.port, .int .i64 h.holder, .int .i64 h.rights, .bool h.gone] 104)).drew).cell? ⟨w1.heap.size, 5, none⟩ = some (.bool h.gone) := SH.out.drop.blk0.cell 5
    have mB : (((W.alloc (.cells #[] 104)).alloc (.cells #[.int .i64 nx, .int .i64 h.parent, .int .i64 h.port, .int .i64 h.holder, .int .i64 h.rights, .bool h.gone] 104)).drew).cell? ⟨w.heap.size, 1, none⟩ = some (.slice A l.length cap) := SB.out.drop.drop.drop.drop.blk0.cell 1
    have hB0 : (((W.alloc (.cells #[] 104)).alloc (.cells #[.int .i64 nx, .int .i64 h.parent, .int .i64 h.port, .int .i64 h.holder, .int .i64 h.rights, .bool h.gone] 104)).drew).cell? ⟨w1.heap.size, 0, none⟩ = some (.int .i64 nx) := SB.out.drop.drop.blk0.cell 0
    have hB1 : (((W.alloc (.cells #[] 104)).alloc (.cells #[.int .i64 nx, .int .i64 h.parent, .int .i64 h.port, .int .i64 h.holder, .int .i64 h.rights, .bool h.gone] 104)).drew).cell? ⟨w1.heap.size, 1, none⟩ = some (.int .i64 h.parent) := SB.out.drop.drop.blk0.cell 1
    have hB2 : (((W.alloc (.cells #[] 104)).alloc (.cells #[.int .i64 nx, .int .i64 h.parent, .int .i64 h.port, .int .i64 h.holder, .int .i64 h.rights, .bool h.gone] 104)).drew).cell? ⟨w1.heap.size, 2, none⟩ = some (.int .i64 h.port) := SB.out.drop.drop.blk0.cell 2
    have hB3 : (((W.alloc (.cells #[] 104)).alloc (.cells #[.int .i64 nx, .int .i64 h.parent, .int .i64 h.port, .int .i64 h.holder, .int .i64 h.rights, .bool h.gone] 104)).drew).cell? ⟨w1.heap.size, 3, none⟩ = some (.int .i64 h.holder) := SB.out.drop.drop.blk0.cell 3
    have hB4 : (((W.alloc (.cells #[] 104)).alloc (.cells #[.int .i64 nx, .int .i64 h.parent, .int .i64 h.port, .int .i64 h.holder, .int .i64 h.rights, .bool h.gone] 104)).drew).cell? ⟨w1.heap.size, 4, none⟩ = some (.int .i64 h.rights) := SB.out.drop.drop.blk0.cell 4
    have hB5 : (((W.alloc (.cells #[] 104)).alloc (.cells #[.int .i64 nx, .int .i64 h.parent, .int .i64 h.port, .int .i64 h.holder, .int .i64 h.rights, .bool h.gone] 104)).drew).cell? ⟨w1.heap.size, 5, none⟩ = some (.bool h.gone) := SB.out.drop.drop.blk0.cell 5
    have mC : (((W.alloc (.cells #[.int .i64 nx, .int .i64 h.parent, .int .i64 h.port, .int .i64 h.holder, .int .i64 h.rights, .bool h.gone] 104)).alloc (.cells #[] 104)).drew).cell? ⟨w.heap.size, 1, none⟩ = some (.slice A l.length cap) := SC.out.drop.drop.drop.drop.blk0.cell 1
    have hC0 : (((W.alloc (.cells #[.int .i64 nx, .int .i64 h.parent, .int .i64 h.port, .int .i64 h.holder, .int .i64 h.rights, .bool h.gone] 104)).alloc (.cells #[] 104)).drew).cell? ⟨w1.heap.size, 0, none⟩ = some (.int .i64 nx) := SC.out.drop.drop.blk0.cell 0
    have hC1 : (((W.alloc (.cells #[.int .i64 nx, .int .i64 h.parent, .int .i64 h.port, .int .i64 h.holder, .int .i64 h.rights, .bool h.gone] 104)).alloc (.cells #[] 104)).drew).cell? ⟨w1.heap.size, 1, none⟩ = some (.int .i64 h.parent) := SC.out.drop.drop.blk0.cell 1
    have hC2 : (((W.alloc (.cells #[.int .i64 nx, .int .i64 h.parent, .int .i64 h.port, .int .i64 h.holder, .int .i64 h.rights, .bool h.gone] 104)).alloc (.cells #[] 104)).drew).cell? ⟨w1.heap.size, 2, none⟩ = some (.int .i64 h.port) := SC.out.drop.drop.blk0.cell 2
    have hC3 : (((W.alloc (.cells #[.int .i64 nx, .int .i64 h.parent, .int .i64 h.port, .int .i64 h.holder, .int .i64 h.rights, .bool h.gone] 104)).alloc (.cells #[] 104)).drew).cell? ⟨w1.heap.size, 3, none⟩ = some (.int .i64 h.holder) := SC.out.drop.drop.blk0.cell 3
    have hC4 : (((W.alloc (.cells #[.int .i64 nx, .int .i64 h.parent, .int .i64 h.port, .int .i64 h.holder, .int .i64 h.rights, .bool h.gone] 104)).alloc (.cells #[] 104)).drew).cell? ⟨w1.heap.size, 4, none⟩ = some (.int .i64 h.rights) := SC.out.drop.drop.blk0.cell 4
    have hC5 : (((W.alloc (.cells #[.int .i64 nx, .int .i64 h.parent, .int .i64 h.port, .int .i64 h.holder, .int .i64 h.rights, .bool h.gone] 104)).alloc (.cells #[] 104)).drew).cell? ⟨w1.heap.size, 5, none⟩ = some (.bool h.gone) := SC.out.drop.drop.blk0.cell 5
    go_region_law (first
      | (refine step_append_st rfl (.tmp 27) (.tmp 29) 86 rfl 104 i0 (.agg #[.int .i64 0, .int .i64 0, .int .i64 0, .int .i64 0, .int .i64 0, .bool false]) 6 48 Try.underlying86 hi hz0 hz1 hz2 rfl (by decide) (.slice (some ⟨W.heap.size, 0, none⟩) 0 0) 0 [] (by simp [Act.eval, Act.put]) SA.out A l.length cap (flatR l) (by simp [Act.eval, Act.put]) (flatR_len l) (SA.out.whole.reads HA.out (by simp)) (flatR_one l) (by unfold maxLen; omega) (by omega) ?_
         intro v' w6 hs
         simp only [Nat.zero_add, List.nil_append] at hs
         obtain ⟨R6, q6, rfl⟩ := own_slice hs.row
         have k0 : w6.cell? ⟨w1.heap.size, 0, none⟩ = some (.int .i64 nx) := hs.drop.blk0.cell 0
         have k1 : w6.cell? ⟨w1.heap.size, 1, none⟩ = some (.int .i64 h.parent) := hs.drop.blk0.cell 1
         have k2 : w6.cell? ⟨w1.heap.size, 2, none⟩ = some (.int .i64 h.port) := hs.drop.blk0.cell 2
         have k3 : w6.cell? ⟨w1.heap.size, 3, none⟩ = some (.int .i64 h.holder) := hs.drop.blk0.cell 3
         have k4 : w6.cell? ⟨w1.heap.size, 4, none⟩ = some (.int .i64 h.rights) := hs.drop.blk0.cell 4
         have k5 : w6.cell? ⟨w1.heap.size, 5, none⟩ = some (.bool h.gone) := hs.drop.blk0.cell 5
         have S7A := Lib.hid hs
         clear hs)
      | (refine step_append_st rfl (.tmp 27) (.tmp 29) 86 rfl 104 i0 (.agg #[.int .i64 0, .int .i64 0, .int .i64 0, .int .i64 0, .int .i64 0, .bool false]) 6 48 Try.underlying86 hi hz0 hz1 hz2 rfl (by decide) (.slice (some ⟨W.heap.size, 0, none⟩) 0 0) 0 [] (by simp [Act.eval, Act.put]) SB.out A l.length cap (flatR l) (by simp [Act.eval, Act.put]) (flatR_len l) (SB.out.whole.reads HA.out (by simp)) (flatR_one l) (by unfold maxLen; omega) (by omega) ?_
         intro v' w6 hs
         simp only [Nat.zero_add, List.nil_append] at hs
         obtain ⟨R6, q6, rfl⟩ := own_slice hs.row
         have k0 : w6.cell? ⟨w1.heap.size, 0, none⟩ = some (.int .i64 nx) := hs.drop.drop.blk0.cell 0
         have k1 : w6.cell? ⟨w1.heap.size, 1, none⟩ = some (.int .i64 h.parent) := hs.drop.drop.blk0.cell 1
         have k2 : w6.cell? ⟨w1.heap.size, 2, none⟩ = some (.int .i64 h.port) := hs.drop.drop.blk0.cell 2
         have k3 : w6.cell? ⟨w1.heap.size, 3, none⟩ = some (.int .i64 h.holder) := hs.drop.drop.blk0.cell 3
         have k4 : w6.cell? ⟨w1.heap.size, 4, none⟩ = some (.int .i64 h.rights) := hs.drop.drop.blk0.cell 4
         have k5 : w6.cell? ⟨w1.heap.size, 5, none⟩ = some (.bool h.gone) := hs.drop.drop.blk0.cell 5
         have S7B := Lib.hid hs
         clear hs)
      | (refine step_append_st rfl (.tmp 27) (.tmp 29) 86 rfl 104 i0 (.agg #[.int .i64 0, .int .i64 0, .int .i64 0, .int .i64 0, .int .i64 0, .bool false]) 6 48 Try.underlying86 hi hz0 hz1 hz2 rfl (by decide) (.slice (some ⟨W.heap.size + 1, 0, none⟩) 0 0) 0 [] (by simp [Act.eval, Act.put]) SC.out A l.length cap (flatR l) (by simp [Act.eval, Act.put]) (flatR_len l) (SC.out.whole.reads HA.out (by simp)) (flatR_one l) (by unfold maxLen; omega) (by omega) ?_
         intro v' w6 hs
         simp only [Nat.zero_add, List.nil_append] at hs
         obtain ⟨R6, q6, rfl⟩ := own_slice hs.row
         have k0 : w6.cell? ⟨w1.heap.size, 0, none⟩ = some (.int .i64 nx) := hs.drop.drop.blk0.cell 0
         have k1 : w6.cell? ⟨w1.heap.size, 1, none⟩ = some (.int .i64 h.parent) := hs.drop.drop.blk0.cell 1
         have k2 : w6.cell? ⟨w1.heap.size, 2, none⟩ = some (.int .i64 h.port) := hs.drop.drop.blk0.cell 2
         have k3 : w6.cell? ⟨w1.heap.size, 3, none⟩ = some (.int .i64 h.holder) := hs.drop.drop.blk0.cell 3
         have k4 : w6.cell? ⟨w1.heap.size, 4, none⟩ = some (.int .i64 h.rights) := hs.drop.drop.blk0.cell 4
         have k5 : w6.cell? ⟨w1.heap.size, 5, none⟩ = some (.bool h.gone) := hs.drop.drop.blk0.cell 5
         have S7C := Lib.hid hs
         clear hs)
      | (refine step_append_st rfl (.tmp 30) (.tmp 32) 86 rfl 104 i0 (.agg #[.int .i64 0, .int .i64 0, .int .i64 0, .int .i64 0, .int .i64 0, .bool false]) 6 48 Try.underlying86 hi hz0 hz1 hz2 rfl (by decide) (.slice R6 l.length q6) l.length (flatR l) (by simp [Act.eval, Act.put]) (S7A.out.alloc1 104 #[.int .i64 nx, .int .i64 h.parent, .int .i64 h.port, .int .i64 h.holder, .int .i64 h.rights, .bool h.gone]) (some ⟨w6.heap.size, 0, none⟩) 1 1 [.int .i64 nx, .int .i64 h.parent, .int .i64 h.port, .int .i64 h.holder, .int .i64 h.rights, .bool h.gone] (by simp [Act.eval, Act.put]) rfl (reads_blk (S7A.out.alloc1 104 #[.int .i64 nx, .int .i64 h.parent, .int .i64 h.port, .int .i64 h.holder, .int .i64 h.rights, .bool h.gone]).blk1) (by simp [Value.oneCell']) (by unfold maxLen; omega) (by omega) ?_
         intro v' w7 hs
         obtain ⟨R7, q7, rfl⟩ := own_slice hs.row
         have m7 : w7.cell? ⟨w.heap.size, 1, none⟩ = some (.slice A l.length cap) := hs.drop.drop.drop.drop.blk0.cell 1
         have z7 := hs.drop.drop.drop.drop.blk0.frozen 1
         have S8 := Lib.hid hs
         clear hs)
      | (refine step_append_st rfl (.tmp 30) (.tmp 32) 86 rfl 104 i0 (.agg #[.int .i64 0, .int .i64 0, .int .i64 0, .int .i64 0, .int .i64 0, .bool false]) 6 48 Try.underlying86 hi hz0 hz1 hz2 rfl (by decide) (.slice R6 l.length q6) l.length (flatR l) (by simp [Act.eval, Act.put]) S7B.out (some ⟨W.heap.size + 1, 0, none⟩) 1 1 [.int .i64 nx, .int .i64 h.parent, .int .i64 h.port, .int .i64 h.holder, .int .i64 h.rights, .bool h.gone] (by simp [Act.eval, Act.put]) rfl (reads_blk S7B.out.blk1) (by simp [Value.oneCell']) (by unfold maxLen; omega) (by omega) ?_
         intro v' w7 hs
         obtain ⟨R7, q7, rfl⟩ := own_slice hs.row
         have m7 : w7.cell? ⟨w.heap.size, 1, none⟩ = some (.slice A l.length cap) := hs.drop.drop.drop.drop.blk0.cell 1
         have z7 := hs.drop.drop.drop.drop.blk0.frozen 1
         have S8 := Lib.hid hs
         clear hs)
      | (refine step_append_st rfl (.tmp 30) (.tmp 32) 86 rfl 104 i0 (.agg #[.int .i64 0, .int .i64 0, .int .i64 0, .int .i64 0, .int .i64 0, .bool false]) 6 48 Try.underlying86 hi hz0 hz1 hz2 rfl (by decide) (.slice R6 l.length q6) l.length (flatR l) (by simp [Act.eval, Act.put]) S7C.out (some ⟨W.heap.size, 0, none⟩) 1 1 [.int .i64 nx, .int .i64 h.parent, .int .i64 h.port, .int .i64 h.holder, .int .i64 h.rights, .bool h.gone] (by simp [Act.eval, Act.put]) rfl (reads_blk S7C.out.blk1) (by simp [Value.oneCell']) (by unfold maxLen; omega) (by omega) ?_
         intro v' w7 hs
         obtain ⟨R7, q7, rfl⟩ := own_slice hs.row
         have m7 : w7.cell? ⟨w.heap.size, 1, none⟩ = some (.slice A l.length cap) := hs.drop.drop.drop.drop.blk0.cell 1
         have z7 := hs.drop.drop.drop.drop.blk0.frozen 1
         have S8 := Lib.hid hs
         clear hs))
    all_goals (go_wp2_with fail; go_meet; exact ⟨R7, q7, fin_add S8.out⟩)
  case rest =>
  obtain ⟨R, q, hs⟩ := hcut
  rename World => wx
  have s6 := hs.up4
  have e0 : wx.cell? ⟨w.heap.size, 0, none⟩ = some (.int .i64 nx) := s6.blk0.cell 0
  have z0 := s6.blk0.frozen 0
  have S6b := Lib.hid (s6.set 0 (.int .i64 (nx + 1)))
  clear hs s6 S6 hi hz0 hz1 hz2
  go_upto_region 8 with fail
  generalize wx.setCell ⟨w.heap.size, 0, none⟩ (.int .i64 (nx + 1)) = W8 at *
  have S8 : Hid (St w W8 [.blk w.heap.size 88 #[.int .i64 (nx + 1), .slice R (l.length + 1) q], .row (.slice R (l.length + 1) q) 104 6 (l.length + 1) (flatR (l ++ [{ h with serial := nx }])), .blk w1.heap.size 104 #[.int .i64 nx, .int .i64 h.parent, .int .i64 h.port, .int .i64 h.holder, .int .i64 h.rights, .bool h.gone], .blk w2.heap.size 88 #[.int .i64 0, .slice none 0 0]]) := S6b
  have s9 := S8.out.kept (Kept.drew [] _)
  have c0 : W8.drew.cell? ⟨w.heap.size, 0, none⟩ = some (.int .i64 (nx + 1)) := s9.blk0.cell 0
  have c1 : W8.drew.cell? ⟨w.heap.size, 1, none⟩ = some (.slice R (l.length + 1) q) := s9.blk0.cell 1
  have c2 : W8.drew.cell? ⟨w1.heap.size, 0, none⟩ = some (.int .i64 nx) := s9.drop.drop.blk0.cell 0
  have s10 := s9.up4
  have c3 : W8.drew.cell? ⟨w2.heap.size, 0, none⟩ = some (.int .i64 0) := s10.blk0.cell 0
  have c4 : W8.drew.cell? ⟨w2.heap.size, 1, none⟩ = some (.slice none 0 0) := s10.blk0.cell 1
  have c5 : W8.drew.frozen? ⟨w2.heap.size, 0, none⟩ = false := s10.blk0.frozen 0
  have c7 : W8.drew.frozen? ⟨w2.heap.size, 1, none⟩ = false := s10.blk0.frozen 1
  have s20 := S8.out.up4
  have x3 : W8.cell? ⟨w2.heap.size, 0, none⟩ = some (.int .i64 0) := s20.blk0.cell 0
  have x4 : W8.cell? ⟨w2.heap.size, 1, none⟩ = some (.slice none 0 0) := s20.blk0.cell 1
  have x5 : W8.frozen? ⟨w2.heap.size, 0, none⟩ = false := s20.blk0.frozen 0
  have x7 : W8.frozen? ⟨w2.heap.size, 1, none⟩ = false := s20.blk0.frozen 1
  have s11 := (s20.put2 (.int .i64 (nx + 1)) (.slice R (l.length + 1) q)).kept (Kept.drew [] _)
  have c6 : ((W8.setCell ⟨w2.heap.size, 0, none⟩ (.int .i64 (nx + 1))).setCell ⟨w2.heap.size, 1, none⟩ (.slice R (l.length + 1) q)).drew.cell? ⟨w1.heap.size, 0, none⟩ = some (.int .i64 nx) := s11.drop.drop.drop.blk0.cell 0
  have SX := Lib.hid s11
  clear s20
  clear s9 s10 s11 e0 z0 S6b
  go_region
  go_wp2
  refine (bodyPost_ret (results_c88_3 rfl rfl SX.out.blk0 rfl rfl) rfl ?_)
  exact ⟨R, q, rfl, SX.out.drop.drop.swap.drop⟩
end Go.Proofs.Ytmndckeohfcgkaa
