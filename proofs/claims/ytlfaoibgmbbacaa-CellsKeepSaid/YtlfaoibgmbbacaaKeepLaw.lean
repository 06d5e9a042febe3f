/- The walk of CellsKeep. -/
import Derived.Test.YtlfaoibgmbbacaaMore
namespace Go.Proofs.Ytlfaoibgmbbacaa
open Go.RowKit

set_option maxRecDepth 100000 in
set_option maxHeartbeats 4000000 in
theorem cellsKeep_calls {w : World} {A B C : Option Addr} {cA cB cC : Nat} {l first second : List Sm} (hA : Reads w A (flatS l)) (hB : Reads w B (flatS first)) (hC : Reads w C (flatS second)) (lA : ∀ x ∈ l, x.ok) (lB : ∀ x ∈ first, x.ok) (lC : ∀ x ∈ second, x.ok)
    (nA : l.length ≤ maxLen) (nB : first.length ≤ maxLen) (nC : second.length ≤ maxLen) (kA : l.length ≤ cA) (kB : first.length ≤ cB) (kC : second.length ≤ cC) :
    Calls Try.prog 4 #[.slice A l.length cA, .slice B first.length cB, .slice C second.length cC] w fun e w' => e = .returned (.bool true) ∧ Kept [] w w' := by
  have HA := Lib.hid hA
  have HB := Lib.hid hB
  have HC := Lib.hid hC
  have LA := Lib.hid lA
  have LB := Lib.hid lB
  have LC := Lib.hid lC
  have NA := Lib.hid nA
  have NB := Lib.hid nB
  have NC := Lib.hid nC
  have KA := Lib.hid kA
  have KB := Lib.hid kB
  have KC := Lib.hid kC
  clear hA hB hC lA lB lC nA nB nC kA kB kC
  go_enter Try.func4, Try.ntmps4
  go_wp2_with fail
  refine (awake_calls w).mono ?_
  rintro e w1 ⟨rfl, hk⟩
  have K1 := Lib.hid hk
  clear hk
  go_wp2_with fail
  refine (Made_calls w1).mono ?_
  rintro e w2 ⟨a, rfl, hs⟩
  have S0 : Hid (St w w2 [.mem a c0]) := hs.from K1.out
  clear hs
  go_wp2_with fail
  refine (do_calls S0.out c0_ok HA.out LA.out NA.out KA.out false 0).mono ?_
  rintro e w3 ⟨rfl, hs⟩
  obtain ⟨n1, e1, f1⟩ := doAll_only 0 (l.take 60) (n := c0.now) (ms := []) c0_ok.1 (by simp)
  have hs : St w w3 [.mem a (doAll false 0 ⟨c0.now, []⟩ (l.take 60))] := hs
  rw [e1] at hs
  have F1 := Lib.hid f1
  have S1 := Lib.hid hs
  clear hs f1 e1
  -- was
  go_wp2_with fail
  refine (all9 S1.out F1.out).mono ?_
  rintro e w4 ⟨A1, p1, rfl, hs⟩
  have S2 := Lib.hid hs
  clear hs
  -- the first mark
  go_wp2_with fail
  refine (S2.out.mark (r := (1, 0)) (c' := ⟨n1, [n1]⟩) rfl rfl).mono ?_
  rintro e w5 ⟨rfl, hs⟩
  have S3 := Lib.hid hs
  clear hs
  go_wp2_with fail
  refine (do_calls S3.out (show CM.ok ⟨n1, [n1]⟩ from ⟨F1.out, fun s hs => by rw [List.mem_singleton] at hs; rw [hs]; exact F1.out⟩) HB.out LB.out NB.out KB.out false 0).mono ?_
  rintro e w6 ⟨rfl, hs⟩
  obtain ⟨n2, e2, f2⟩ := doAll_only 0 (first.take 60) (n := n1) (ms := [n1]) F1.out (fun s hs => by rw [List.mem_singleton] at hs; rw [hs]; exact F1.out)
  rw [e2] at hs
  have F2 := Lib.hid f2
  have S4 := Lib.hid hs
  clear hs f2 e2
  -- mid
  go_wp2_with fail
  refine (all9 S4.out F2.out).mono ?_
  rintro e w7 ⟨A2, p2, rfl, hs⟩
  have S5 := Lib.hid hs
  clear hs
  -- the second mark
  go_wp2_with fail
  refine (S5.out.mark (r := (2, 0)) (c' := ⟨n2, [n1, n2]⟩) rfl rfl).mono ?_
  rintro e w8 ⟨rfl, hs⟩
  have S6 := Lib.hid hs
  clear hs
  go_wp2_with fail
  refine (do_calls S6.out (show CM.ok ⟨n2, [n1, n2]⟩ from ⟨F2.out, by rintro s hs; simp at hs; rcases hs with rfl | rfl; exact F1.out; exact F2.out⟩) HC.out LC.out NC.out KC.out false 0).mono ?_
  rintro e w9 ⟨rfl, hs⟩
  obtain ⟨n3, e3, f3⟩ := doAll_only 0 (second.take 60) (n := n2) (ms := [n1, n2]) F2.out (by rintro s hs; simp at hs; rcases hs with rfl | rfl; exact F1.out; exact F2.out)
  rw [e3] at hs
  have F3 := Lib.hid f3
  have S7 := Lib.hid hs
  clear hs f3 e3
  -- now
  go_wp2_with fail
  refine (all9 S7.out F3.out).mono ?_
  rintro e w10 ⟨A3, p3, rfl, hs⟩
  have S8 := Lib.hid hs
  clear hs
  -- keep
  have g1 : n1.flatten.length = 9 := F1.out.flat9
  have g2 : n2.flatten.length = 9 := F2.out.flat9
  have g3 : n3.flatten.length = 9 := F3.out.flat9
  have H23 : Hid (cntNe n3.flatten n2.flatten = (others n2 n3).length) := cnt_others n2 n3 (F2.out.trans F3.out.symm)
  have H13 : Hid (cntNe n3.flatten n1.flatten = (others n1 n3).length) := cnt_others n1 n3 (F1.out.trans F3.out.symm)
  have G1 := Lib.hid g1
  have G2 := Lib.hid g2
  have G3 := Lib.hid g3
  clear g1 g2 g3
  generalize hN : (others n2 n3).length = N at *
  generalize hM : (others n1 n3).length = M at *
  go_wp2_with fail
  refine (S8.out.keep (r := ((N : Int), 0)) (c' := ⟨n3, [n1]⟩) (by rw [← hN]; rfl) rfl).mono ?_
  rintro e w11 ⟨rfl, hs⟩
  have S9 := Lib.hid hs
  have HN := Lib.hid hN
  have HM := Lib.hid hM
  clear hs hN hM
  go_wp2_with fail
  refine (all9 S9.out F3.out).mono ?_
  rintro e w12 ⟨A4, p4, rfl, hs⟩
  have S10 := Lib.hid hs
  clear hs
  go_wp2_with fail
  have Q := (equal18 (xs := n3.flatten) (ys := n3.flatten) (c := p4) (d := p3) (own_reads S10.out.swap.row) (own_reads S10.out.drop.drop.row) (by rw [G3.out]; decide) (by rw [G3.out]; decide))
  rw [G3.out] at Q
  refine Q.mono ?_
  rintro e w13 ⟨rfl, hk⟩
  have S11 := Lib.hid (S10.out.kept hk)
  have hd : decide (n3.flatten = n3.flatten) = true := by simp
  rw [hd]
  clear hk hd Q
  go_wp2_with fail
  refine S11.out.marks.mono ?_
  rintro e w' ⟨rfl, rfl⟩
  go_wp2
  go_loopw [18, 19, 109] (fun o sm i wr => ∃ k : Nat, k ≤ 9 ∧ i = .int .i64 k ∧ o = .int .i64 (cntNe (n3.flatten.take k) (n2.flatten.take k)) ∧ sm = .int .i64 (cntNe (n3.flatten.take k) (n1.flatten.take k)) ∧
    St w wr [.mem a ⟨n3, [n1]⟩, .row (.slice A3 9 p3) 2 1 9 (n3.flatten.map numV), .row (.slice A2 9 p2) 2 1 9 (n2.flatten.map numV), .row (.slice A1 9 p1) 2 1 9 (n1.flatten.map numV)]) (fun _ _ i _ => 9 - (intOf i).toNat)
  case atStart => exact ⟨0, Nat.zero_le _, rfl, rfl, rfl, S11.out.swap.drop⟩
  case round =>
    obtain ⟨k, hk, rfl, rfl, rfl, hS⟩ := hrel
    have hc1 := cntNe_le (n3.flatten.take k) (n2.flatten.take k)
    have hc2 := cntNe_le (n3.flatten.take k) (n1.flatten.take k)
    simp only [List.length_take] at hc1 hc2
    have hc3 : cntNe (n3.flatten.take k) (n2.flatten.take k) ≤ 9 := by omega
    have hc4 : cntNe (n3.flatten.take k) (n1.flatten.take k) ≤ 9 := by omega
    clear hc1 hc2
    by_cases hlt : k < 9
    · obtain ⟨x, hx⟩ : ∃ x, n3.flatten[k]? = some x := ⟨_, List.getElem?_eq_getElem (by rw [G3.out]; exact hlt)⟩
      obtain ⟨y, hy⟩ : ∃ x, n2.flatten[k]? = some x := ⟨_, List.getElem?_eq_getElem (by rw [G2.out]; exact hlt)⟩
      obtain ⟨z, hz⟩ : ∃ x, n1.flatten[k]? = some x := ⟨_, List.getElem?_eq_getElem (by rw [G1.out]; exact hlt)⟩
      obtain ⟨b3, q3, hv3, hc3', _⟩ := own_cell hS.drop.row (k := k) (u := numV x) (by rw [List.getElem?_map, hx]; rfl)
      obtain ⟨b2, q2, hv2, hc2', _⟩ := own_cell hS.drop.drop.row (k := k) (u := numV y) (by rw [List.getElem?_map, hy]; rfl)
      obtain ⟨b1, q1, hv1, hc1', _⟩ := own_cell hS.drop.drop.drop.row (k := k) (u := numV z) (by rw [List.getElem?_map, hz]; rfl)
      simp only [Value.slice.injEq, true_and] at hv3 hv2 hv1
      obtain ⟨rfl, rfl⟩ := hv3
      obtain ⟨rfl, rfl⟩ := hv2
      obtain ⟨rfl, rfl⟩ := hv1
      simp only [numV] at hc1' hc2' hc3'
      have T1 := Lib.hid (cntNe_take hx hy)
      have T2 := Lib.hid (cntNe_take hx hz)
      have S12 := Lib.hid hS
      clear hS hx hy hz
      generalize hcn : cntNe (n3.flatten.take k) (n2.flatten.take k) = cn at *
      generalize hcm : cntNe (n3.flatten.take k) (n1.flatten.take k) = cm at *
      clear hcn hcm
      by_cases hxy : x = y
      · by_cases hxz : x = z
        · have h1 : (x != y) = false := by simp [hxy]
          have h2 : (x != z) = false := by simp [hxz]
          have HXY := Lib.hid hxy
          have HXZ := Lib.hid hxz
          clear hxy hxz
          go_wp2
          go_region
          go_wp2
          go_region
          go_wp2
          go_roundw
          case rel => exact ⟨k + 1, by omega, by go_num, by rw [T1.out, if_pos HXY.out]; rfl, by rw [T2.out, if_pos HXZ.out]; rfl, (S12.out.kept (Kept.drew _ _)).kept (Kept.drew _ _)⟩
          case measure => simp [intOf]; omega
        · have h1 : (x != y) = false := by simp [hxy]
          have h2 : (x != z) = true := by simp [hxz]
          have HXY := Lib.hid hxy
          have HXZ := Lib.hid hxz
          clear hxy hxz
          go_wp2
          go_region
          go_wp2
          go_region
          go_wp2
          go_roundw
          case rel => exact ⟨k + 1, by omega, by go_num, by rw [T1.out, if_pos HXY.out]; rfl, by rw [T2.out, if_neg HXZ.out]; rfl, (S12.out.kept (Kept.drew _ _)).kept (Kept.drew _ _)⟩
          case measure => simp [intOf]; omega
      · by_cases hxz : x = z
        · have h1 : (x != y) = true := by simp [hxy]
          have h2 : (x != z) = false := by simp [hxz]
          have HXY := Lib.hid hxy
          have HXZ := Lib.hid hxz
          clear hxy hxz
          go_wp2
          go_region
          go_wp2
          go_region
          go_wp2
          go_roundw
          case rel => exact ⟨k + 1, by omega, by go_num, by rw [T1.out, if_neg HXY.out]; rfl, by rw [T2.out, if_pos HXZ.out]; rfl, (S12.out.kept (Kept.drew _ _)).kept (Kept.drew _ _)⟩
          case measure => simp [intOf]; omega
        · have h1 : (x != y) = true := by simp [hxy]
          have h2 : (x != z) = true := by simp [hxz]
          have HXY := Lib.hid hxy
          have HXZ := Lib.hid hxz
          clear hxy hxz
          go_wp2
          go_region
          go_wp2
          go_region
          go_wp2
          go_roundw
          case rel => exact ⟨k + 1, by omega, by go_num, by rw [T1.out, if_neg HXY.out]; rfl, by rw [T2.out, if_neg HXZ.out]; rfl, (S12.out.kept (Kept.drew _ _)).kept (Kept.drew _ _)⟩
          case measure => simp [intOf]; omega
    · obtain rfl : k = 9 := by omega
      rw [show ((9 : Nat) : Int) = 9 from rfl]
      have t1 : n1.flatten.take 9 = n1.flatten := List.take_of_length_le (by rw [G1.out]; exact Nat.le_refl _)
      have t2 : n2.flatten.take 9 = n2.flatten := List.take_of_length_le (by rw [G2.out]; exact Nat.le_refl _)
      have t3 : n3.flatten.take 9 = n3.flatten := List.take_of_length_le (by rw [G3.out]; exact Nat.le_refl _)
      rw [t1, t3] at hc4
      rw [t2, t3] at hc3
      rw [t1, t2, t3]
      rw [H23.out] at hc3 ⊢
      rw [H13.out] at hc4 ⊢
      have S12 := Lib.hid (hS.blkNew 39 #[.int .i64 0, .int .i64 0, .int .i64 0, .int .i64 0])
      generalize hL : wr.heap.size = L at S12
      have HL := Lib.hid hL
      clear hS t1 t2 t3 hL
      go_wp2_with fail
      refine (S12.out.swap.changes rfl).mono ?_
      rintro e w14 ⟨A5, p5, rfl, hs⟩
      have hch : (CM.changes ⟨n3, [n1]⟩).length = M := (changes_count _).trans HM.out
      have hord := fun (k : Nat) (x y : Ch) hx hy => changes_next (c := ⟨n3, [n1]⟩) (k := k) (x := x) (y := y) hx hy
      have hlod := fun (x : Ch) hx => changes_load (c := ⟨n3, [n1]⟩) (x := x) hx
      simp only [HL.out]
      generalize hcc : CM.changes ⟨n3, [n1]⟩ = ch at *
      have ORD := Lib.hid hord
      have LOD := Lib.hid hlod
      have HCH := Lib.hid hch
      have HCC := Lib.hid hcc
      rw [hch] at hs ⊢
      have S13 := Lib.hid hs
      clear hs hord hlod hch hcc HL
      go_wp2
      go_loopw [139] (fun i wr => ∃ (k : Nat) (o j p q : Int), k ≤ M ∧ i = .int .i64 k ∧ (k = 0 ∨ ∃ k' x, k = k' + 1 ∧ ch[k']? = some x ∧ o = (x.1.1 : Int) + 1 ∧ j = (x.1.2 : Int)) ∧
        St w wr [.blk L 39 #[.int .i64 o, .int .i64 j, .int .i64 p, .int .i64 q], .mem a ⟨n3, [n1]⟩, .row (.slice A5 M p5) 39 4 M (flatC ch), .row (.slice A3 9 p3) 2 1 9 (n3.flatten.map numV), .row (.slice A2 9 p2) 2 1 9 (n2.flatten.map numV), .row (.slice A1 9 p1) 2 1 9 (n1.flatten.map numV)]) (fun i _ => M - (intOf i).toNat)
      case atStart => exact ⟨0, 0, 0, 0, 0, Nat.zero_le _, rfl, .inl rfl, S13.out.third⟩
      case round =>
        obtain ⟨k, o, j, p, q, hk, rfl, hlast, hS⟩ := hrel
        by_cases hlt : k < M
        · have hkx : k < ch.length := by rw [HCH.out]; exact hlt
          obtain ⟨x, gx⟩ : ∃ x, ch[k]? = some x := ⟨_, List.getElem?_eq_getElem hkx⟩
          obtain ⟨hld, hne⟩ := LOD.out x (List.mem_of_getElem? gx)
          obtain ⟨b5, o5, rfl, hc5⟩ := (own_reads hS.drop.drop.row).resolve_left (by intro e; rw [flatC_nil.1 e] at hkx; simp at hkx)
          have c50 : wr.cell? ⟨b5, o5 + k * 4, none⟩ = _ := hc5 (k * 4 + 0) _ (flatC_get gx (by omega) rfl)
          have c51 : wr.cell? ⟨b5, o5 + k * 4 + 1, none⟩ = _ := hc5 (k * 4 + 1) _ (flatC_get gx (by omega) rfl)
          have c52 : wr.cell? ⟨b5, o5 + k * 4 + 2, none⟩ = _ := hc5 (k * 4 + 2) _ (flatC_get gx (by omega) rfl)
          have c53 : wr.cell? ⟨b5, o5 + k * 4 + 3, none⟩ = _ := hc5 (k * 4 + 3) _ (flatC_get gx (by omega) rfl)
          have d0 : wr.cell? ⟨L, 0, none⟩ = some (.int .i64 o) := (hS.blk.cell 0).trans rfl
          have d1 : wr.cell? ⟨L, 1, none⟩ = some (.int .i64 j) := (hS.blk.cell 1).trans rfl
          have d2 : wr.cell? ⟨L, 2, none⟩ = some (.int .i64 p) := (hS.blk.cell 2).trans rfl
          have d3 : wr.cell? ⟨L, 3, none⟩ = some (.int .i64 q) := (hS.blk.cell 3).trans rfl
          have hLl : L < wr.heap.size := hS.blk.lt
          have z0 : wr.frozen? ⟨L, 0, none⟩ = false := hS.blk.frozen 0
          have z1 : wr.frozen? ⟨L, 1, none⟩ = false := hS.blk.frozen 1
          have z2 : wr.frozen? ⟨L, 2, none⟩ = false := hS.blk.frozen 2
          have z3 : wr.frozen? ⟨L, 3, none⟩ = false := hS.blk.frozen 3
          obtain ⟨⟨x1, x2⟩, x3, x4⟩ := x
          simp only at c50 c51 c52 c53 hld hne
          have LD := Lib.hid ((hS.alloc (.cells #[.int .i64 ((x1 : Int) + 1), .int .i64 (x2 : Int), .int .i64 x3, .int .i64 x4] 39)).drop.load _ _ hld)
          have S14 := Lib.hid hS
          have GX := Lib.hid gx
          have hne' : (x3 == x4) = false := by simp [hne]
          clear hS gx hc5 hld hne
          rcases hlast with hk0 | ⟨k', ⟨⟨y1, y2⟩, y3, y4⟩, hk', gy, rfl, rfl⟩
          · have hk0' : ¬ (0 : Int) < (k : Int) := by omega
            clear hk0
            go_wp2_with (go_at_call 21; refine LD.out.mono ?_; rintro e w' ⟨rfl, rfl⟩)
            go_roundw
            case rel => exact ⟨k + 1, _, _, _, _, by omega, by go_num, .inr ⟨k, _, rfl, GX.out, rfl, rfl⟩, ((((S14.out.set_ 0 _).set_ 1 _).set_ 2 _).set_ 3 _).alloc _⟩
            case measure => simp [intOf]; omega
          · have hkp : (0 : Int) < (k : Int) := by omega
            have hb : Before (y1, y2) (x1, x2) := ORD.out k' _ _ gy (by rw [← hk']; exact GX.out)
            clear gy hk'
            rcases hb with hb | ⟨hb, hb2⟩
            · have h1 : ¬ ((x1 : Int) + 1 < (y1 : Int) + 1) := by simp only at hb; omega
              have h2 : ((x1 : Int) + 1 == (y1 : Int) + 1) = false := by simp only at hb; simp; omega
              have h3 : ¬ x1 < y1 := by simp only at hb; omega
              have h4 : ¬ x1 = y1 := by simp only at hb; omega
              clear hb
              go_wp2_with (go_at_call 21; refine LD.out.mono ?_; rintro e w' ⟨rfl, rfl⟩)
              go_roundw
              case rel => exact ⟨k + 1, _, _, _, _, by omega, by go_num, .inr ⟨k, _, rfl, GX.out, rfl, rfl⟩, ((((S14.out.set_ 0 _).set_ 1 _).set_ 2 _).set_ 3 _).alloc _⟩
              case measure => simp [intOf]; omega
            · simp only at hb hb2
              subst hb
              have h5 : ¬ (x2 : Int) ≤ (y2 : Int) := by omega
              clear hb2
              go_wp2_with (go_at_call 21; refine LD.out.mono ?_; rintro e w' ⟨rfl, rfl⟩)
              go_roundw
              case rel => exact ⟨k + 1, _, _, _, _, by omega, by go_num, .inr ⟨k, _, rfl, GX.out, rfl, rfl⟩, ((((S14.out.set_ 0 _).set_ 1 _).set_ 2 _).set_ 3 _).alloc _⟩
              case measure => simp [intOf]; omega
        · obtain rfl : k = M := by omega
          have S14 := Lib.hid hS.drop
          have MM : Hid (CM.changes ⟨n3, [n1]⟩ = ch) := HCC
          clear hS hlast
          go_wp2_with fail
          refine (S14.out.changes MM.out).mono ?_
          rintro e w15 ⟨A6, p6, rfl, hs⟩
          rw [HCH.out] at hs ⊢
          have S15 := Lib.hid hs
          clear hs
          go_wp2_with fail
          refine (S15.out.back (r := ((k : Int), 0)) (c' := ⟨n1, []⟩) (by unfold CM.popRes; simp [HM.out]) rfl).mono ?_
          rintro e w16 ⟨rfl, hs⟩
          have S16 := Lib.hid hs
          clear hs
          go_wp2_with fail
          refine (all9 S16.out F1.out).mono ?_
          rintro e w17 ⟨A7, p7, rfl, hs⟩
          have S17 := Lib.hid hs
          clear hs
          go_wp2_with fail
          have Q := (equal18 (xs := n1.flatten) (ys := n1.flatten) (c := p7) (d := p1) (own_reads S17.out.swap.row) (own_reads S17.out.drop.drop.drop.drop.drop.drop.row) (by rw [G1.out]; decide) (by rw [G1.out]; decide))
          rw [G1.out] at Q
          refine Q.mono ?_
          rintro e w18 ⟨rfl, hk⟩
          have S18 := Lib.hid (S17.out.kept hk)
          have hd : decide (n1.flatten = n1.flatten) = true := by simp
          rw [hd]
          clear hk hd Q
          go_wp2_with fail
          refine S18.out.marks.mono ?_
          rintro e w' ⟨rfl, rfl⟩
          go_wp2
          go_ret
          exact ⟨rfl, S18.out.whole⟩
end Go.Proofs.Ytlfaoibgmbbacaa
