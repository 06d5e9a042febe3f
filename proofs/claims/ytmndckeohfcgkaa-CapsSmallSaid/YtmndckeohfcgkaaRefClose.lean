/- The reference of layer 23: Close. -/
import Derived.Test.YtmndckeohfcgkaaRefRevoke
namespace Go.Proofs.Ytmndckeohfcgkaa
open Go.RowKit
def portL (L : List RH) (p : Int) : List Int := (L.filter fun h => h.port == p).map (·.serial)
theorem portL_le (L : List RH) (p : Int) : (portL L p).length ≤ L.length := by
  unfold portL; rw [List.length_map]; exact List.length_filter_le _ _
theorem portL_step {p : Int} {L : List RH} {k : Nat} {x : RH} (hx : L[k]? = some x) : portL (L.take (k + 1)) p = portL (L.take k) p ++ if (x.port == p) = true then [x.serial] else [] := by
  unfold portL
  rw [filter_take hx, List.map_append]
  cases x.port == p <;> rfl
set_option maxRecDepth 100000 in
set_option maxHeartbeats 2000000 in
theorem RClose_calls {w : World} {A : Option Addr} {cap : Nat} {nx : Int} {l : List RH} (p : Int) (hA : Reads w A (flatR l)) (hn : l.length ≤ 1024) :
    Calls Try.prog 53 #[.agg #[.int .i64 nx, .slice A l.length cap], .int .i64 p] w fun e w' => ∃ R q R' q', e = .returned (.tuple #[.agg #[.int .i64 nx, .slice R' l.length q'], .slice R (portL (liveR l) p).length q]) ∧
      St w w' [.row (.slice R' l.length q') 104 6 l.length (flatR (takeR l (portL (liveR l) p))), .row (.slice R (portL (liveR l) p).length q) 3 1 (portL (liveR l) p).length ((portL (liveR l) p).map intV)] := by
  obtain ⟨i0, hi, hz0, hz1, hz2⟩ := info_parts info3'
  have hbn : (portL (liveR l) p).length ≤ 1024 := by
    have h1 := portL_le (liveR l) p
    have h2 := liveR_le l
    omega
  generalize hv : (w.alloc (.cells #[.int .i64 nx, .slice A l.length cap] 88)) = w1
  generalize hv2 : (w1.alloc (.cells #[.int .i64 0, .slice none 0 0] 88)) = w2
  have s0 : St w w1 [.blk w.heap.size 88 #[.int .i64 nx, .slice A l.length cap]] := by rw [← hv]; exact (St.nil w).alloc _ _
  have s1 : St w w2 [.blk w1.heap.size 88 #[.int .i64 0, .slice none 0 0], .blk w.heap.size 88 #[.int .i64 nx, .slice A l.length cap]] := by rw [← hv2]; exact s0.alloc _ _
  have d0 : w2.cell? ⟨w.heap.size, 0, none⟩ = some (.int .i64 nx) := s1.blk1.cell 0
  have d1 : w2.cell? ⟨w.heap.size, 1, none⟩ = some (.slice A l.length cap) := s1.blk1.cell 1
  have S1 := Lib.hid s1
  have HA := Lib.hid hA
  have HL := Lib.hid (RLive_calls (nx := nx) (cap := cap) (s1.whole.reads hA (by simp)) hn)
  have hlv : (liveR l).length ≤ 1024 := by have := liveR_le l; omega
  clear hA s0 s1
  go_enter Try.func53, Try.ntmps53
  go_wp2_with fail
  refine HL.out.mono ?_
  rintro e w4 ⟨R, q, rfl, ho, hk⟩
  have s2 := S1.out.new (R := .row _ _ _ _ _) hk (row_on ho) (fun b hb => (ho.lt b (by simpa using hb)).1)
  have S2 := Lib.hid s2
  have HO := Lib.hid (own_reads ho)
  clear ho hk s2 HL d0 d1 hv hv2
  generalize hl2 : liveR l = l2 at *
  have HL2 := Lib.hid hl2
  clear hl2
  go_wp2
  go_loopw [6, 8] (fun o i wr => ∃ k : Nat, k ≤ l2.length ∧ i = .int .i64 k ∧ wr.ownsRow w4.heap.size 3 1 o (portL (l2.take k) p).length ((portL (l2.take k) p).map intV) ∧ Kept [] w4 wr) (fun _ i _ => l2.length - (intOf i).toNat)
  case atStart => exact ⟨0, Nat.zero_le _, rfl, World.ownsRow_nil _ _ _ _, Kept.refl _ _⟩
  case round =>
    obtain ⟨k, hk, rfl, hO, hK⟩ := hrel
    obtain ⟨R2, q2, rfl⟩ := own_slice hO
    have X1 := Lib.hid hO
    have X2 := Lib.hid hK
    by_cases hlt : k < l2.length
    · obtain ⟨x, hx⟩ : ∃ x, l2[k]? = some x := ⟨_, List.getElem?_eq_getElem hlt⟩
      obtain ⟨b1, o1, rfl, hc1⟩ := HO.out.resolve_left (by intro e; rw [flatR_nil.1 e] at hx; simp at hx)
      obtain ⟨c0, c1, c2, c3, c4, c5⟩ := rh_cells hK hc1 hx
      have HST := Lib.hid (portL_step (p := p) hx)
      have hpl : (portL (l2.take k) p).length ≤ 1024 := by
        have := portL_le (l2.take k) p
        rw [List.length_take] at this
        omega
      have hsz := hK.size
      have HCN := Lib.hid (cell_one_new wr (.int .i64 x.serial) 3)
      clear hO hK hx hc1
      by_cases e : x.port = p
      · have he : (x.port == p) = true := by simp [e]
        have HE := Lib.hid he
        clear he
        go_wp2_with (at_builtin
                     refine wpList_append_own_at _ rfl _ _ 30 rfl w4.heap.size 3 i0 (.int .i64 0) 1 8 Try.underlying30 hi hz0 hz1 hz2 rfl (by decide) (.slice R2 (portL (l2.take k) p).length q2) (portL (l2.take k) p).length ((portL (l2.take k) p).map intV) rfl (X1.out.alloc _) ⟨wr.heap.size, 0, none⟩ 1 1 [.int .i64 x.serial] rfl rfl HCN.out (by simp [Value.oneCell']) (by unfold maxLen; omega) (by omega) (by simp; omega) ?_
                     intro v' w5 hown' hgrow hnil hloc
                     have Y2 := Lib.hid hown'
                     have Y3 := Lib.hid hgrow
                     clear hown' hgrow hnil hloc)
        go_roundw
        case rel =>
          refine ⟨k + 1, by omega, by go_num, ?_, ?_⟩
          · rw [HST.out, if_pos HE.out, List.length_append, List.map_append]
            exact Y2.out
          · refine X2.out.trans ((Kept.alloc (Value.slice R2 (portL (l2.take k) p).length q2).ownBlock.toList _ _).trans' (Kept.grown Y3.out (by simp))) fun b hb => .inr ((X1.out.lt b (by simpa using hb)).1)
        case measure => simp [intOf]; omega
      · have he : ¬ (x.port == p) = true := by simp [e]
        have HE := Lib.hid he
        clear he
        go_wp2
        go_roundw
        case rel => exact ⟨k + 1, by omega, by go_num, by rw [HST.out, if_neg HE.out, List.append_nil]; exact X1.out, X2.out⟩
        case measure => simp [intOf]; omega
    · obtain rfl : k = l2.length := by omega
      have htk : l2.take l2.length = l2 := List.take_length
      rw [htk] at hO X1 ⊢
      have s3 := S2.out.new (R := .row _ _ _ _ _) hK (row_on hO) (fun b hb => (hO.lt b (by simpa using hb)).1)
      have e0 : wr.cell? ⟨w.heap.size, 0, none⟩ = some (.int .i64 nx) := s3.blk3.cell 0
      have e1 : wr.cell? ⟨w.heap.size, 1, none⟩ = some (.slice A l.length cap) := s3.blk3.cell 1
      have S3 := Lib.hid s3
      have HT := Lib.hid (RTake_calls (nx := nx) (cap := cap) (cb := q2) (s3.whole.reads HA.out (by simp)) (own_reads s3.row) hn hbn)
      clear hO hK s3 X1 X2 htk
      go_wp2_with fail
      refine HT.out.mono ?_
      rintro e w5 ⟨R', q', rfl, ho, hk⟩
      have s4 := (S3.out.new (R := .row _ _ _ _ _) hk (row_on ho) (fun b hb => (ho.lt b (by simpa using hb)).1)).up4
      have f0 := s4.blk0.cell 0
      have f1 := s4.blk0.cell 1
      have z := s4.blk0.frozen
      have S4 := Lib.hid s4
      clear ho hk s4 HT e0 e1
      go_wp2
      have s5 := S4.out.put2 (.int .i64 nx) (.slice R' l.length q')
      refine bodyPost_ret (results_c88_2 rfl rfl s5.blk0 rfl rfl) rfl ?_
      rw [HL2.out]
      exact ⟨R2, q2, R', q', rfl, s5.drop.up4.drop.up3.drop⟩
end Go.Proofs.Ytmndckeohfcgkaa
