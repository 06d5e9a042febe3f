/- The walk of Close of package caps. -/
import Derived.Test.YtmndckeohfcgkaaBelow
import Derived.Test.YtmndckeohfcgkaaFind
namespace Go.Proofs.Ytmndckeohfcgkaa
open Go.RowKit
open Go.ChangeMaps (setBlock)
def ofPort (l : List Hd) (p : Int) : List Int := (l.filter fun h => h.port == p).map (·.serial)
def CT.close (c : CT) (p : Int) : CT := c.minus (ofPort c.live p)
theorem port_closed {c : CT} (ok : c.ok) (p : Int) : ∀ h ∈ c.live, h.parent ∈ ofPort c.live p → h.serial ∈ ofPort c.live p := by
  intro h hh hm
  simp only [ofPort, List.mem_map, List.mem_filter, beq_iff_eq] at hm ⊢
  obtain ⟨q, ⟨hq, hqp⟩, e⟩ := hm
  refine ⟨h, ⟨hh, ?_⟩, rfl⟩
  have := ok.low q hq
  rcases ok.par h hh with h0 | ⟨r, hr, h1, h2, h3, _⟩
  · omega
  · have := ok.tree.uniq hr hq (h1.trans e.symm)
    subst this
    omega
section
variable {w w' : World} {a r : Nat} {c : CT} {pv : List Value} {m : List (Int × Hd)} {F : List Nat}
set_option maxRecDepth 100000 in
set_option maxHeartbeats 1000000 in
theorem Close_calls (H : IsTab w a c F) (p : Int) :
    Calls Try.prog 15 #[.pointer (some ⟨a, 0, none⟩), .int .i64 p] w fun e w' => ∃ A cap, e = .returned (.slice A (ofPort c.live p).length cap) ∧
      w'.ownsRow w.heap.size 3 1 (.slice A (ofPort c.live p).length cap) (ofPort c.live p).length ((ofPort c.live p).map intV) ∧ IsTab w' a (c.close p) F ∧ Kept F w w' := by
  have HA := Lib.hid (All_calls H)
  obtain ⟨r, pv, m, T, rfl⟩ := H
  have HT := Lib.hid T
  obtain ⟨i0, hi, hz0, hz1, hz2⟩ := info_parts info3
  have few := T.ok.few
  clear T
  go_enter Try.func15, Try.ntmps15
  go_wp2_with (go_at_call 14; refine HA.out.mono ?_; rintro e w1 ⟨A, cp, rfl, z1, z2⟩; have Z1 := Lib.hid z1; have Z2 := Lib.hid z2; clear z1 z2)
  have hrl := HT.out.map.lt
  go_loopw [5, 7, 11] (fun o _ i wr => ∃ (k : Nat) (m' : List (Int × Hd)), k ≤ c.live.length ∧ i = .int .i64 k ∧ MapIs intV Hd.val wr r m' ∧ m'.Perm (c.minus (ofPort (c.live.take k) p)).ents ∧ Kept [r] w1 wr ∧
      wr.ownsRow w1.heap.size 3 1 o (ofPort (c.live.take k) p).length ((ofPort (c.live.take k) p).map intV)) (fun _ _ i _ => c.live.length - (intOf i).toNat)
  case atStart =>
    refine ⟨0, m, Nat.zero_le _, rfl, Z2.out.map HT.out.map (by simp), ?_, Kept.refl _ _, World.ownsRow_nil _ _ _ _⟩
    have : ofPort (c.live.take 0) p = [] := by simp [ofPort]
    rw [this, minus_nil]
    exact HT.out.perm
  case round =>
    obtain ⟨k, m', hk, rfl, hM, hP, hK, hO⟩ := hrel
    have hnb : ∀ b, (Value.slice A c.live.length cp).ownBlock = some b → b ≠ r := fun b hb => by
      have := (Z1.out.lt b hb).1
      omega
    have hw1 : w.heap.size ≤ w1.heap.size := Z2.out.size
    by_cases hlt : k < c.live.length
    · obtain ⟨x, hx⟩ : ∃ x, c.live[k]? = some x := ⟨_, List.getElem?_eq_getElem hlt⟩
      obtain ⟨b1, o1, rfl, hc1⟩ := (own_reads (hK.own Z1.out fun b hb => by simpa using hnb b hb)).resolve_left (by intro e; rw [flatH_nil.1 e] at hx; simp at hx)
      obtain ⟨c0, c1, c2, c3, c4⟩ := hd_cells (Kept.refl [] wr) hc1 hx
      have h2 := hK.cell (Z2.out.cell HT.out.handles (by simp)) (by simpa using HT.out.ra.symm)
      obtain ⟨R, q, rfl⟩ := own_slice hO
      have hlen : (ofPort (c.live.take k) p).length ≤ 256 := by
        unfold ofPort
        rw [List.length_map]
        have := List.length_filter_le (fun h => h.port == p) (c.live.take k)
        rw [List.length_take] at this
        omega
      have hkz := hK.size
      have X1 := Lib.hid hM
      have X2 := Lib.hid hP
      have X3 := Lib.hid hK
      have X4 := Lib.hid hO
      have X5 := Lib.hid hx
      clear hM hP hK hO hx hc1 hnb
      by_cases e : x.port = p
      · have he : (x.port == p) = true := by simp [e]
        have hop : ofPort (c.live.take (k + 1)) p = ofPort (c.live.take k) p ++ [x.serial] := by
          unfold ofPort
          rw [List.take_add_one, X5.out, List.filter_append]
          simp [he]
        have HOP := Lib.hid hop
        have hP2 := mdel_minus (s := x.serial) HT.out.ok X2.out
        rw [← hop] at hP2
        have X6 := Lib.hid hP2
        have BX : Hid (∀ W : World, Blk (W.alloc (.cells #[.int .i64 x.serial, .int .i64 x.parent, .int .i64 x.port, .int .i64 x.holder, .int .u8 (x.rights : Int)] 34)) W.heap.size 34 #[.int .i64 x.serial, .int .i64 x.parent, .int .i64 x.port, .int .i64 x.holder, .int .u8 (x.rights : Int)]) := Lib.hid fun W => Blk.new _ _ _
        have HC : Hid (∀ W : World, ∀ j u, [Value.int .i64 x.serial][j]? = some u → (W.alloc (.cells #[.int .i64 x.serial] 3)).cell? ((⟨W.heap.size, 0, none⟩ : Addr).add j) = some u) := Lib.hid fun W => cell_one_new W (.int .i64 x.serial) 3
        clear e hop hP2
        have hcn := cell_one_new (wr.alloc (.cells #[.int .i64 x.serial, .int .i64 x.parent, .int .i64 x.port, .int .i64 x.holder, .int .u8 (x.rights : Int)] 34)) (.int .i64 x.serial) 3
        rw [World.size_alloc] at hcn
        have HCN := Lib.hid hcn
        clear hcn HC
        go_wp2_with (at_builtin
                     refine wpList_append_own_at _ rfl _ _ 30 rfl w1.heap.size 3 i0 (.int .i64 0) 1 8 Try.underlying30 hi hz0 hz1 hz2 rfl (by decide) (.slice R (ofPort (c.live.take k) p).length q) (ofPort (c.live.take k) p).length ((ofPort (c.live.take k) p).map intV) rfl ((X4.out.alloc _).alloc _) ⟨wr.heap.size + 1, 0, none⟩ 1 1 [.int .i64 x.serial] rfl rfl HCN.out (by simp [Value.oneCell']) (by unfold maxLen; omega) (by omega) (by simp; omega) ?_
                     intro v' w2 hown' hgrow hnil hloc
                     have hRr : ∀ b, (Value.slice R (ofPort (c.live.take k) p).length q).ownBlock = some b → w1.heap.size ≤ b ∧ b < wr.heap.size := fun b hb => X4.out.lt b hb
                     have kall : Kept (Value.slice R (ofPort (c.live.take k) p).length q).ownBlock.toList wr w2 := ((Kept.alloc _ _ _).trans' (Kept.alloc _ _ _)).trans' (Kept.grown hgrow (by simp))
                     have kdr := kall.trans' (Kept.drew _ w2)
                     have hnr : r ∉ (Value.slice R (ofPort (c.live.take k) p).length q).ownBlock.toList := fun hm => by have := hRr r (by simpa using hm); omega
                     have hna : a ∉ (Value.slice R (ofPort (c.live.take k) p).length q).ownBlock.toList := fun hm => by have := hRr a (by simpa using hm); have := HT.out.blk.lt; omega
                     have d2 := kdr.cell h2 hna
                     have bx := grown_blk hgrow ((Kept.alloc [] _ (.cells #[.int .i64 x.serial] 3)).blk (BX.out wr) (by simp)) (fun e => by have := (hRr _ e).2; omega)
                     have dx : w2.drew.cell? ⟨wr.heap.size, 0, none⟩ = some (.int .i64 x.serial) := bx.cell 0
                     obtain ⟨o3, hup, hM2⟩ := run_delete int_keys Try.underlying66 (kdr.map X1.out hnr) x.serial 0
                     simp only [intV] at hup
                     have W1 := Lib.hid hown'
                     have W2 := Lib.hid kdr
                     have W3 := Lib.hid hM2
                     have W4 := Lib.hid hRr
                     clear hown' hgrow hnil hloc kall kdr hnr hna bx hM2 hRr)
        go_region
        all_goals
          go_wp2
          go_roundw
          case rel =>
            have ks : Kept [r] w2.drew (setBlock w2.drew r o3) := Kept.setBlock (by simp) _ _
            refine ⟨k + 1, _, by omega, by go_num, W3.out, X6.out, ?_, ?_⟩
            · refine (X3.out.trans W2.out fun b hb => .inr (W4.out b (by simpa using hb)).1).trans' ks
            · rw [HOP.out, List.length_append, List.map_append]
              refine ks.own ((Kept.drew [] w2).own W1.out (by simp)) fun b hb => ?_
              have := (W1.out.lt b hb).1
              simp only [List.mem_singleton]
              omega
          case measure => simp [intOf]; omega
      · have he : (x.port == p) = false := by simp [e]
        have hop : ofPort (c.live.take (k + 1)) p = ofPort (c.live.take k) p := by
          unfold ofPort
          rw [List.take_add_one, X5.out, List.filter_append]
          simp [he]
        have HOP := Lib.hid hop
        clear e hop
        go_wp2
        go_roundw
        case rel => exact ⟨k + 1, m', by omega, by go_num, (Kept.alloc [] _ _).map X1.out (by simp), by rw [HOP.out]; exact X2.out, X3.out.trans' (Kept.alloc _ _ _), by rw [HOP.out]; exact (Kept.alloc [] _ _).own X4.out (by simp)⟩
        case measure => simp [intOf]; omega
    · obtain rfl : k = c.live.length := by omega
      rw [List.take_length] at hP hO
      obtain ⟨R, q, rfl⟩ := own_slice hO
      have hT2 := (HT.out.kept Z2.out (by simp)).minus hK hM hP (HT.out.ok.minus (port_closed HT.out.ok p))
      have X1 := Lib.hid hT2
      have X3 := Lib.hid hK
      have X4 := Lib.hid hO
      clear hM hP hK hO hT2 hnb
      go_wp2
      go_ret
      refine ⟨R, q, rfl, own_base X4.out hw1, ⟨r, pv, m', X1.out, rfl⟩, Z2.out.nil_mono.trans' (X3.out.mono ?_)⟩
      intro b hb _
      simp only [List.mem_singleton] at hb
      subst hb
      simp [mem_tfoot]
end
end Go.Proofs.Ytmndckeohfcgkaa
