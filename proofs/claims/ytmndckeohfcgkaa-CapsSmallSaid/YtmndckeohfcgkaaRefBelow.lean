/- The reference of layer 23: Below. -/
import Derived.Test.YtmndckeohfcgkaaRefUnder
import Derived.Deep.CutRange
namespace Go.Proofs.Ytmndckeohfcgkaa
open Go.RowKit
theorem sub_filter {N M : List Int} (h : N.Sublist M) (nd : M.Nodup) : M.filter (fun x => N.contains x) = N := by
  induction h with
  | slnil => rfl
  | @cons N' M' a h ih =>
    rw [List.nodup_cons] at nd
    have ha : ¬ a ∈ N' := fun hm => nd.1 (h.subset hm)
    rw [List.filter_cons, if_neg (by simpa using ha), ih nd.2]
  | @cons_cons N' M' a h ih =>
    rw [List.nodup_cons] at nd
    rw [List.filter_cons, if_pos (by simp), show M'.filter (fun x => (a :: N').contains x) = M'.filter (fun x => N'.contains x) from List.filter_congr fun x hx => by
      have : x ≠ a := fun e => nd.1 (e ▸ hx)
      simp [this], ih nd.2]
def pickR (B : List Int) (L : List RH) : List Int := (L.filter fun h => B.contains h.serial).map (·.serial)
theorem pickR_le (B : List Int) (L : List RH) : (pickR B L).length ≤ L.length := by
  unfold pickR; rw [List.length_map]; exact List.length_filter_le _ _
theorem pickR_all {l : List RH} (t : Tree (liveH l)) (s : Int) : pickR (below (liveH l) s) (liveR l) = below (liveH l) s := by
  have h1 : (liveH l).map (·.serial) = (liveR l).map (·.serial) := by unfold liveH; rw [List.map_map]; rfl
  have h2 := below_sub (liveH l) s
  rw [h1] at h2
  have h3 : ((liveR l).map (·.serial)).Nodup := h1 ▸ t.nodup
  have h4 := sub_filter h2 h3
  rw [List.filter_map] at h4
  exact h4
theorem pickR_step {B : List Int} {L : List RH} {k : Nat} {x : RH} (hx : L[k]? = some x) : pickR B (L.take (k + 1)) = pickR B (L.take k) ++ if B.contains x.serial = true then [x.serial] else [] := by
  unfold pickR
  rw [filter_take hx, List.map_append]
  cases B.contains x.serial <;> rfl
def belowR (l : List RH) (s : Int) : List Int × Int := match (liveR l).find? (fun h => h.serial == s) with | some _ => (below (liveH l) s, 0) | none => ([], 6)
theorem info3' : (Try.prog.info? 3).map (fun i => (i.zero, i.size, i.bytes)) = some (some (.int .i64 0), 1, 8) := by kernel_rfl
set_option maxRecDepth 100000 in
set_option maxHeartbeats 2000000 in
theorem RBelow_calls {w : World} {A : Option Addr} {cap : Nat} {nx : Int} {l : List RH} (s : Int) (hA : Reads w A (flatR l)) (hn : l.length ≤ 1024) (t : Tree (liveH l)) :
    Calls Try.prog 67 #[.agg #[.int .i64 nx, .slice A l.length cap], .int .i64 s] w fun e w' => ∃ R q, e = .returned (.tuple #[.slice R (belowR l s).1.length q, .int .i64 (belowR l s).2]) ∧
      w'.ownsRow w.heap.size 3 1 (.slice R (belowR l s).1.length q) (belowR l s).1.length ((belowR l s).1.map intV) ∧ Kept [] w w' := by
  obtain ⟨i0, hi, hz0, hz1, hz2⟩ := info_parts info3'
  generalize hv : (w.alloc (.cells #[.int .i64 nx, .slice A l.length cap] 88)) = w1
  have hk1 : Kept [] w w1 := by rw [← hv]; exact Kept.alloc _ _ _
  have hb1 : Blk w1 w.heap.size 88 #[.int .i64 nx, .slice A l.length cap] := by rw [← hv]; exact Blk.new _ _ _
  have d0 : w1.cell? ⟨w.heap.size, 0, none⟩ = some (.int .i64 nx) := hb1.cell 0
  have d1 : w1.cell? ⟨w.heap.size, 1, none⟩ = some (.slice A l.length cap) := hb1.cell 1
  have HA := Lib.hid hA
  have K1 := Lib.hid hk1
  have B1 := Lib.hid hb1
  have HG := RGet_calls (nx := nx) (cap := cap) s (hk1.reads hA (by simp)) hn
  cases hfd : (liveR l).find? (fun h => h.serial == s) with
  | none =>
    have hg : getR l s = (noRH, 6) := by unfold getR; rw [hfd]
    have hb : belowR l s = ([], 6) := by unfold belowR; rw [hfd]
    rw [hg] at HG
    simp only [RH.val, noRH] at HG
    rw [hb]
    have H := Lib.hid HG
    clear hfd hg hb hA hk1 hb1 HG
    go_enter Try.func67, Try.ntmps67
    go_wp2_with fail
    refine H.out.mono ?_
    rintro e w2 ⟨rfl, hk⟩
    have X := Lib.hid hk
    clear hk H d0 d1 hv
    go_wp2
    go_ret2
    exact ⟨none, 0, rfl, World.ownsRow_nil _ _ _ _, (K1.out.trans' X.out).trans' (Kept.alloc _ _ _)⟩
  | some h =>
    have hg : getR l s = (h, 0) := by unfold getR; rw [hfd]
    have hb : belowR l s = (below (liveH l) s, 0) := by unfold belowR; rw [hfd]
    have hs : ∃ x ∈ liveR l, x.serial = s := ⟨h, List.mem_of_find?_eq_some hfd, by simpa using List.find?_some hfd⟩
    rw [hg] at HG
    simp only [RH.val] at HG
    rw [hb]
    have H := Lib.hid HG
    have HS := Lib.hid hs
    have HT := Lib.hid t
    clear hfd hg hb hA hk1 hb1 HG hs t
    go_enter Try.func67, Try.ntmps67
    go_wp2_with fail
    refine H.out.mono ?_
    rintro e w2 ⟨rfl, hk⟩
    generalize hv3 : w2.alloc (.cells #[.int .i64 h.serial, .int .i64 h.parent, .int .i64 h.port, .int .i64 h.holder, .int .i64 h.rights, .bool h.gone] 104) = w3
    have hk3 : Kept [] w1 w3 := hk.trans' (by rw [← hv3]; exact Kept.alloc _ _ _)
    have hb3 := hk3.blk B1.out (by simp)
    have e0 : w3.cell? ⟨w.heap.size, 0, none⟩ = some (.int .i64 nx) := hb3.cell 0
    have e1 : w3.cell? ⟨w.heap.size, 1, none⟩ = some (.slice A l.length cap) := hb3.cell 1
    have K3 := Lib.hid (K1.out.trans' hk3)
    have B3 := Lib.hid hb3
    clear hk H d0 d1 hv hk3 hb3
    have HL := Lib.hid (RLive_calls (nx := nx) (cap := cap) (K3.out.reads HA.out (by simp)) hn)
    have hlv : (liveR l).length ≤ 1024 := by have := liveR_le l; omega
    go_wp2_with fail
    refine HL.out.mono ?_
    rintro e w4 ⟨R, q, rfl, hO, hK⟩
    have hb4 := hK.blk B3.out (by simp)
    have HO := Lib.hid (own_reads hO)
    have K4 := Lib.hid (K3.out.trans' hK)
    have B4 := Lib.hid hb4
    clear hO hK hb4 e0 e1 HL hv3
    generalize hl2 : liveR l = l2 at *
    have HL2 := Lib.hid hl2
    clear hl2
    generalize hbb : below (liveH l) s = bl
    have HBB := Lib.hid hbb
    clear hbb
    go_wp2
    go_loopw [8, 10] (fun o i wr => ∃ k : Nat, k ≤ l2.length ∧ i = .int .i64 k ∧ wr.ownsRow w4.heap.size 3 1 o (pickR bl (l2.take k)).length ((pickR bl (l2.take k)).map intV) ∧ Kept [] w4 wr) (fun _ i _ => l2.length - (intOf i).toNat)
    case atStart => exact ⟨0, Nat.zero_le _, rfl, World.ownsRow_nil _ _ _ _, Kept.refl _ _⟩
    case round =>
      obtain ⟨k, hk, rfl, hO, hK⟩ := hrel
      obtain ⟨R2, q2, rfl⟩ := own_slice hO
      have X1 := Lib.hid hO
      have X2 := Lib.hid hK
      by_cases hlt : k < l2.length
      · obtain ⟨x, hx⟩ : ∃ x, l2[k]? = some x := ⟨_, List.getElem?_eq_getElem hlt⟩
        obtain ⟨b1, o1, rfl, hc1⟩ := HO.out.resolve_left (by intro e; rw [flatR_nil.1 e] at hx; simp at hx)
        obtain ⟨c0, c1, c2, c3, c4, c5⟩ := rh_cells hK hc1 hx
        have hbx := hK.blk B4.out (by simp)
        have g0 : wr.cell? ⟨w.heap.size, 0, none⟩ = some (.int .i64 nx) := hbx.cell 0
        have g1 : wr.cell? ⟨w.heap.size, 1, none⟩ = some (.slice A l.length cap) := hbx.cell 1
        have hu : Hid (∀ W, Kept [] wr W → Calls Try.prog 88 #[.agg #[.int .i64 nx, .slice A l.length cap], .agg #[.int .i64 x.serial, .int .i64 x.parent, .int .i64 x.port, .int .i64 x.holder, .int .i64 x.rights, .bool x.gone], .int .i64 s] W fun e w' => e = .returned (.bool (bl.contains x.serial)) ∧ Kept [] W w') := Lib.hid fun W hW => by
          have := RUnder_calls (nx := nx) (cap := cap) (w := W) (((K4.out.trans' hK).trans' hW).reads HA.out (by simp)) hn HT.out (by rw [HL2.out]; exact HS.out) (h := x) (by rw [HL2.out]; exact List.mem_of_getElem? hx)
          rwa [HBB.out] at this
        have HST := Lib.hid (pickR_step (B := bl) hx)
        have hxb : bl.contains x.serial = bl.contains x.serial := rfl
        generalize hbc : bl.contains x.serial = bc at hu HST
        clear hxb hbc
        have hpl : (pickR bl (l2.take k)).length ≤ 1024 := by
          have := pickR_le bl (l2.take k)
          rw [List.length_take] at this
          omega
        have CS := Lib.hid (show ∀ W, Kept [] wr W → W.cell? ⟨b1, o1 + k * 6, none⟩ = some (.int .i64 x.serial) from fun W hW => hW.cell c0 (by simp))
        clear hO hK hx hc1 hbx
        go_upto_region 9 with fail
        go_cut [34] from 22 to 42 (fun b wx => b = .bool bc ∧ Kept [] wr wx)
        case first =>
          go_region_law (first
            | (go_simp; go_at_call 88
               refine (hu.out _ (Kept.drew _ _)).mono ?_
               rintro e w' ⟨rfl, hk⟩
               have Y := Lib.hid hk
               clear hk))
          all_goals (go_wp2_with fail; go_meet; exact ⟨rfl, (Kept.drew _ _).trans' Y.out⟩)
        case rest =>
        obtain ⟨rfl, hkx⟩ := hcut
        have c0' := CS.out _ hkx
        have hcn := cell_one_new wc (.int .i64 x.serial) 3
        have X3 := Lib.hid (hkx.own X1.out (by simp))
        have X4 := Lib.hid (X2.out.trans' hkx)
        have HCN := Lib.hid hcn
        have hsz := X4.out.size
        clear hkx hcn c0 c1 c2 c3 c4 c5 g0 g1
        cases bc with
        | false =>
          go_wp2
          go_roundw
          case rel => exact ⟨k + 1, by omega, by go_num, by rw [HST.out, if_neg (by simp), List.append_nil]; exact X3.out, X4.out⟩
          case measure => simp [intOf]; omega
        | true =>
          go_wp2_with (at_builtin
                       refine wpList_append_own_at _ rfl _ _ 30 rfl w4.heap.size 3 i0 (.int .i64 0) 1 8 Try.underlying30 hi hz0 hz1 hz2 rfl (by decide) (.slice R2 (pickR bl (l2.take k)).length q2) (pickR bl (l2.take k)).length ((pickR bl (l2.take k)).map intV) rfl (X3.out.alloc _) ⟨wc.heap.size, 0, none⟩ 1 1 [.int .i64 x.serial] rfl rfl HCN.out (by simp [Value.oneCell']) (by unfold maxLen; omega) (by omega) (by simp; omega) ?_
                       intro v' w5 hown' hgrow hnil hloc
                       have Y2 := Lib.hid hown'
                       have Y3 := Lib.hid hgrow
                       clear hown' hgrow hnil hloc)
          go_roundw
          case rel =>
            refine ⟨k + 1, by omega, by go_num, ?_, ?_⟩
            · rw [HST.out, if_pos rfl, List.length_append, List.map_append]
              exact Y2.out
            · refine X4.out.trans ((Kept.alloc (Value.slice R2 (pickR bl (l2.take k)).length q2).ownBlock.toList _ _).trans' (Kept.grown Y3.out (by simp))) fun b hb => .inr ((X3.out.lt b (by simpa using hb)).1)
          case measure => simp [intOf]; omega
      · obtain rfl : k = l2.length := by omega
        have hpa : pickR bl (l2.take l2.length) = bl := by
          rw [List.take_length, ← HL2.out, ← HBB.out]
          exact pickR_all HT.out s
        rw [hpa] at hO
        have hp2 := hpa
        generalize hL : (pickR bl (l2.take l2.length)).length = LL at *
        have hLL : LL = bl.length := by rw [← hL, hpa]
        subst hLL
        have X5 := Lib.hid hO
        clear hO hK hpa hp2 hL
        go_wp2
        go_ret2
        rw [HBB.out]
        exact ⟨R2, q2, rfl, own_base X5.out K4.out.size, K4.out.trans' X2.out⟩
end Go.Proofs.Ytmndckeohfcgkaa
