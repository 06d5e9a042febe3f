/- The walk of acts of the laws on cells. -/
import Derived.Test.YtlfaoibgmbbacaaActsKit

namespace Go.Proofs.Ytlfaoibgmbbacaa
open Go.RowKit
attribute [local go_sem] min_lowM max_highM
theorem plan_ok {l : List Int} (h : rightB l = true) : l.length ≤ 16 ∧ ∀ n ∈ l, 0 ≤ n ∧ n ≤ 1024 := by
  obtain ⟨h1, h2, h3⟩ := (rightB_iff l).1 h
  exact ⟨h3, fun n hn => ⟨h1 n hn, Int.le_trans (sum_ge h1 hn).1 h2⟩⟩
set_option maxRecDepth 100000 in
set_option maxHeartbeats 8000000 in
theorem acts_calls {w : World} {A B : Option Addr} {cA cB : Nat} {plan : List Int} {l : List AC} (hA : Reads w A (plan.map numV)) (hB : Reads w B (flatA l)) (hl : ∀ x ∈ l, x.ok) (hpl : plan.length * 8 ≤ 140737488351232) (hpc : plan.length ≤ cA) (hn : l.length ≤ maxLen) :
    Calls Try.prog 28 #[.slice A plan.length cA, .slice B l.length cB] w fun e w' => e = .returned (.bool true) ∧ Kept [] w w' := by
  have HA := Lib.hid hA
  have HB := Lib.hid hB
  have HL := Lib.hid hl
  have HPL := Lib.hid hpl
  unfold maxLen at hn
  have hpn : plan.length ≤ maxLen := by unfold maxLen; omega
  have HPN := Lib.hid hpn
  obtain ⟨n20, hlow, hn1, hn2⟩ : ∃ n20 : Nat, lowM (plan.length : Int) 20 = (n20 : Int) ∧ n20 ≤ plan.length ∧ n20 ≤ 20 := by
    unfold lowM
    split
    · exact ⟨20, rfl, by omega, by omega⟩
    · exact ⟨plan.length, rfl, by omega, by omega⟩
  have hnc : (n20 : Int) ≤ cA := by omega
  clear hA hB hl hpl hpn
  go_enter Try.func28, Try.ntmps28
  go_wp2
  go_loopw [5, 33] (fun s i wr => ∃ (k : Nat) (y : Int), k ≤ n20 ∧ i = .int .i64 k ∧ s = .int .i64 y ∧ 0 ≤ y ∧ y ≤ 2000 ∧ y ≤ 100 * k ∧ wr = w) (fun _ i _ => n20 - (intOf i).toNat)
  case atStart => exact ⟨0, 0, Nat.zero_le _, rfl, rfl, by omega, by omega, by omega, rfl⟩
  case round =>
    obtain ⟨k, y, hk, rfl, rfl, hy0, hy1, hy2, rfl⟩ := hrel
    by_cases hlt : k < n20
    · obtain ⟨n, hgn⟩ : ∃ n, plan[k]? = some n := ⟨_, List.getElem?_eq_getElem (by omega)⟩
      obtain ⟨b, off, rfl, hc⟩ := HA.out.resolve_left (by intro e; simp at e; subst e; simp at hgn)
      have hck := hc k (numV n) (by simp [hgn])
      simp only [numV] at hck
      obtain ⟨y1, h1⟩ : ∃ y1, lowM n 100 = y1 := ⟨_, rfl⟩
      obtain ⟨z1, h2⟩ : ∃ z1, highM y1 0 = z1 := ⟨_, rfl⟩
      have hz : 0 ≤ z1 ∧ z1 ≤ 100 := by
        rw [← h2]
        unfold highM
        have : y1 ≤ 100 := by rw [← h1]; unfold lowM; split <;> omega
        split <;> omega
      obtain ⟨hz0, hz1⟩ := hz
      clear hc hgn
      go_wp2
      go_roundw
      case rel => exact ⟨k + 1, y + z1, by omega, by go_num, rfl, by omega, by omega, by omega, trivial⟩
      case measure => simp [intOf]; omega
    · obtain rfl : k = n20 := by omega
      clear hlt hk
      by_cases h80 : 80 < l.length
      · have h80' : (80 : Int) < l.length := by omega
        go_wp2
        go_ret
        exact ⟨rfl, Kept.refl _ _⟩
      have h80' : (l.length : Int) ≤ 80 := by omega
      have h80n : l.length ≤ 80 := by omega
      clear h80
      have HR : Hid (∀ W, Kept [] wr W → Calls Try.prog 29 #[.slice A plan.length cA] W fun e w' => e = .returned (.bool (rightB plan)) ∧ W = w') := Lib.hid fun W hW => refRight_calls (hW.reads HA.out (by simp)) HPN.out
      have HCP := Lib.hid (copyInts_calls (cp := cA) HA.out HPL.out)
      cases hrb : rightB plan with
      | false =>
        have HRB := Lib.hid hrb
        rw [hrb] at HR
        clear hrb
        go_wp2_with fail
        refine (HR.out _ (Kept.refl _ _)).mono ?_
        rintro e w1 ⟨rfl, rfl⟩
        go_wp2_with fail
        refine HCP.out.mono ?_
        rintro e w2 ⟨RO, qO, rfl, ho, hk⟩
        have HNB := Lib.hid (new_bad (c := qO) (own_reads ho) HPN.out HRB.out)
        have HRR := Lib.hid (Right_calls (c := qO) (own_reads ho) HPN.out)
        rw [HRB.out] at HRR
        have K2 := Lib.hid hk
        clear ho hk HCP
        go_wp2_with fail
        refine HNB.out.mono ?_
        rintro e w3 ⟨rfl, rfl⟩
        go_wp2_with fail
        refine (HR.out _ K2.out).mono ?_
        rintro e w3 ⟨rfl, rfl⟩
        go_wp2_with fail
        refine HRR.out.mono ?_
        rintro e w3 ⟨rfl, rfl⟩
        go_wp2
        go_ret
        exact ⟨rfl, K2.out⟩
      | true =>
        have HRB := Lib.hid hrb
        rw [hrb] at HR
        obtain ⟨hp16, hpok⟩ := plan_ok hrb
        have HPO := Lib.hid hpok
        clear hrb hpok
        by_cases h40 : 40 < y
        · go_wp2_with fail
          refine (HR.out _ (Kept.refl _ _)).mono ?_
          rintro e w1 ⟨rfl, rfl⟩
          go_wp2
          go_ret
          exact ⟨rfl, Kept.refl _ _⟩
        go_wp2_with fail
        refine (HR.out _ (Kept.refl _ _)).mono ?_
        rintro e w1 ⟨rfl, rfl⟩
        go_wp2_with fail
        refine HCP.out.mono ?_
        rintro e w2 ⟨RO, qO, rfl, ho, hk⟩
        have s1 := (St.nil wr).fresh1 ho hk
        have HNB := Lib.hid (new_good (c := qO) (own_reads ho) (fun b off e => by
          have := (ho.lt b (by rw [e]; rfl)).2
          exact this) hp16 HRB.out HPO.out)
        have S1 := Lib.hid s1
        clear ho hk HCP s1
        go_wp2_with fail
        refine HNB.out.mono ?_
        rintro e w3 ⟨a, F, rfl, hm, hk, hF⟩
        have S2 := Lib.hid ((S1.out.new (R := .mem a ⟨plan.map zeros, []⟩) hk hm hF).swap)
        have HRR := Lib.hid (Right_calls (c := qO) (own_reads S2.out.row) HPN.out)
        rw [HRB.out] at HRR
        clear hm hk hF HNB S1
        go_wp2_with fail
        refine (HR.out _ S2.out.whole).mono ?_
        rintro e w4 ⟨rfl, rfl⟩
        go_wp2_with fail
        refine HRR.out.mono ?_
        rintro e w4 ⟨rfl, rfl⟩
        have HOV := Lib.hid (S2.out.over (by omega))
        clear HRR
        go_wp2_with fail
        refine HOV.out.mono ?_
        rintro e w5 ⟨rfl, hs⟩
        have S3 := Lib.hid hs
        have HNW := Lib.hid (St.rnew (cp := cA) hs (hs.whole.reads HA.out (by simp)) hp16 HPO.out)
        clear hs HOV S2
        go_wp2_with fail
        refine HNW.out.mono ?_
        rintro e w6 ⟨A1, n1, p1, A2, n2, p2, rfl, hs⟩
        have s4 := (hs.swap.blkNew 86 #[(.slice A1 n1 p1), (.slice A2 n2 p2)]).swap
        clear hs S3 HNW
        go_upto_region 17 with fail
        generalize w6.alloc (.cells #[(.slice A1 n1 p1), (.slice A2 n2 p2)] 86) = w7 at *
        generalize w6.heap.size = g11 at *
        have S4 : Hid (St wr w7 [.mem a ⟨plan.map zeros, []⟩, .blk g11 86 #[(.slice A1 n1 p1), (.slice A2 n2 p2)], .refs [(.agg #[(.slice A1 n1 p1), (.slice A2 n2 p2)], ⟨plan.map zeros, []⟩)]]) := Lib.hid s4
        clear s4 HR HRB HPO
        go_wp2
        go_loopw [92] (fun i wx => ∃ (k : Nat) (c : CM) (A1 : Option Addr) (n1 p1 : Nat) (A2 : Option Addr) (n2 p2 : Nat), k ≤ l.length ∧ i = .int .i64 k ∧ St wr wx [.mem a c, .blk g11 86 #[(.slice A1 n1 p1), (.slice A2 n2 p2)], .refs [(.agg #[(.slice A1 n1 p1), (.slice A2 n2 p2)], c)]]) (fun i _ => l.length - (intOf i).toNat)
        case atStart => exact ⟨0, _, A1, n1, p1, A2, n2, p2, Nat.zero_le _, rfl, S4.out⟩
        case round =>
          obtain ⟨k, c, A1, n1, p1, A2, n2, p2, hk, rfl, hS⟩ := hrel
          rename World => wy
          clear S4
          by_cases hlt : k < l.length
          · obtain ⟨x, hx⟩ : ∃ x, l[k]? = some x := ⟨_, List.getElem?_eq_getElem hlt⟩
            have x1 := HL.out x (List.mem_of_getElem? hx)
            unfold AC.ok at x1
            obtain ⟨bB, oB, rfl, hc⟩ := HB.out.resolve_left (by intro e; rw [flatA_nil.1 e] at hx; simp at hx)
            obtain ⟨c0, c1, c2, c3⟩ := ac_cells hS.whole hc hx
            have HS := Lib.hid (hS.blkNew 59 #[.int .u8 (x.kind : Int), .int .i64 x.owner, .int .i64 x.index, .int .i64 x.value]).swap
            clear hS hc hx
            go_upto_region 20 with fail
            generalize wy.alloc (.cells #[.int .u8 (x.kind : Int), .int .i64 x.owner, .int .i64 x.index, .int .i64 x.value] 59) = W at *
            generalize wy.heap.size = g9 at *
            have S2 : Hid (St wr W [.mem a c, .blk g9 59 #[.int .u8 (x.kind : Int), .int .i64 x.owner, .int .i64 x.index, .int .i64 x.value], .blk g11 86 #[(.slice A1 n1 p1), (.slice A2 n2 p2)], .refs [(.agg #[(.slice A1 n1 p1), (.slice A2 n2 p2)], c)]]) := HS
            clear HS c0 c1 c2 c3
            have HCY := Lib.hid S2.out.copy
            clear S2
            go_wp2_with fail
            refine HCY.out.mono ?_
            rintro e w1 ⟨b, rfl, hs⟩
            have d0 : w1.cell? ⟨g11, 0, none⟩ = some (.slice A1 n1 p1) := hs.blk3.cell 0
            have d1 : w1.cell? ⟨g11, 1, none⟩ = some (.slice A2 n2 p2) := hs.blk3.cell 1
            have s3 := hs.blkNew 86 #[(.slice A1 n1 p1), (.slice A2 n2 p2)]
            clear hs HCY
            go_upto_region 23 with fail
            generalize w1.alloc (.cells #[(.slice A1 n1 p1), (.slice A2 n2 p2)] 86) = w2 at *
            generalize w1.heap.size = g19 at *
            have S3 : Hid (St wr w2 [.blk g19 86 #[(.slice A1 n1 p1), (.slice A2 n2 p2)], .mem b c, .mem a c, .blk g9 59 #[.int .u8 (x.kind : Int), .int .i64 x.owner, .int .i64 x.index, .int .i64 x.value], .blk g11 86 #[(.slice A1 n1 p1), (.slice A2 n2 p2)], .refs [(.agg #[(.slice A1 n1 p1), (.slice A2 n2 p2)], c)]]) := Lib.hid s3
            have k0 : w2.cell? ⟨g9, 0, none⟩ = some (.int .u8 (x.kind : Int)) := s3.blk3.cell 0
            have hmf := Lib.hid s3.up3.mfacts
            clear s3 d0 d1
            have hr8 : x.kind % 8 < 4 ∨ x.kind % 8 = 4 ∨ x.kind % 8 = 5 ∨ x.kind % 8 = 6 ∨ x.kind % 8 = 7 := by omega
            rcases hr8 with hr8 | hr8 | hr8 | hr8 | hr8
            · have m4 : ((x.kind : Int) % 8 == 4) = false := by simp; omega
              have m5 : ((x.kind : Int) % 8 == 5) = false := by simp; omega
              have m6 : ((x.kind : Int) % 8 == 6) = false := by simp; omega
              have m7 : ((x.kind : Int) % 8 == 7) = false := by simp; omega
              clear hr8
              obtain ⟨⟨r1, r2⟩, hr⟩ : ∃ y, c.load x.owner x.index = y := ⟨_, rfl⟩
              obtain ⟨c1, hc1⟩ : ∃ y, c.store x.owner x.index x.value = y := ⟨_, rfl⟩
              have qr1 : (r1 != r1) = false := by simp
              have qr2 : (r2 != r2) = false := by simp
              have k1 : w2.cell? ⟨g9, 1, none⟩ = some (.int .i64 x.owner) := S3.out.blk3.cell 1
              have k2 : w2.cell? ⟨g9, 2, none⟩ = some (.int .i64 x.index) := S3.out.blk3.cell 2
              have k3 : w2.cell? ⟨g9, 3, none⟩ = some (.int .i64 x.value) := S3.out.blk3.cell 3
              have HX := Lib.hid (S3.out.up3.store x.owner x.index x.value hr hc1)
              go_wp2_with fail
              refine HX.out.mono ?_
              rintro e w3 ⟨rfl, hs⟩
              clear k0 k1 k2 k3 S3 HX
              have d0 : w3.cell? ⟨g11, 0, none⟩ = some (.slice A1 n1 p1) := hs.blk4.cell 0
              have d1 : w3.cell? ⟨g11, 1, none⟩ = some (.slice A2 n2 p2) := hs.blk4.cell 1
              have k1 : w3.cell? ⟨g9, 1, none⟩ = some (.int .i64 x.owner) := hs.blk3.cell 1
              have k2 : w3.cell? ⟨g9, 2, none⟩ = some (.int .i64 x.index) := hs.blk3.cell 2
              have k3 : w3.cell? ⟨g9, 3, none⟩ = some (.int .i64 x.value) := hs.blk3.cell 3
              have HX := Lib.hid (hs.up6.rstore (v := .agg #[(.slice A1 n1 p1), (.slice A2 n2 p2)]) x.owner x.index x.value (by simp) hmf.out hr hc1)
              clear hs hr hc1
              go_wp2_with fail
              refine HX.out.mono ?_
              rintro e w4 ⟨B1, m1, u1, B2, m2, u2, rfl, hs⟩
              clear d0 d1 k1 k2 k3
              have s6 := St.up6 hs
              have y0 : w4.cell? ⟨g11, 0, none⟩ = some (.slice A1 n1 p1) := s6.blk0.cell 0
              have y1 : w4.cell? ⟨g11, 1, none⟩ = some (.slice A2 n2 p2) := s6.blk0.cell 1
              have y2 := s6.blk0.frozen
              have S4 := Lib.hid (s6.put2 (.slice B1 m1 u1) (.slice B2 m2 u2))
              clear s6 hs HX
              go_upto_region 44 with fail
              generalize (w4.setCell ⟨g11, 0, none⟩ (.slice B1 m1 u1)).setCell ⟨g11, 1, none⟩ (.slice B2 m2 u2) = w5 at *
              have S5 : Hid (St wr w5 [.blk g11 86 #[(.slice B1 m1 u1), (.slice B2 m2 u2)], .refs [(.agg #[(.slice B1 m1 u1), (.slice B2 m2 u2)], c1), (.agg #[(.slice A1 n1 p1), (.slice A2 n2 p2)], c)], .mem a c1, .blk g19 86 #[(.slice A1 n1 p1), (.slice A2 n2 p2)], .mem b c, .blk g9 59 #[.int .u8 (x.kind : Int), .int .i64 x.owner, .int .i64 x.index, .int .i64 x.value]]) := S4
              clear S4 y0 y1 y2
              have y0 : w5.cell? ⟨g11, 0, none⟩ = some (.slice B1 m1 u1) := S5.out.blk0.cell 0
              have y1 : w5.cell? ⟨g11, 1, none⟩ = some (.slice B2 m2 u2) := S5.out.blk0.cell 1
              have HT := Lib.hid (St.tells (v := .agg #[(.slice B1 m1 u1), (.slice B2 m2 u2)]) S5.out.swap.up3 (by simp))
              go_wp2_with fail
              refine HT.out.mono ?_
              rintro e w6 ⟨rfl, hs⟩
              have S6 := Lib.hid hs
              clear hs HT y0 y1 S5
              have z0 : w6.cell? ⟨g19, 0, none⟩ = some (.slice A1 n1 p1) := S6.out.blk3.cell 0
              have z1 : w6.cell? ⟨g19, 1, none⟩ = some (.slice A2 n2 p2) := S6.out.blk3.cell 1
              have HT := Lib.hid (St.tells (v := .agg #[(.slice A1 n1 p1), (.slice A2 n2 p2)]) S6.out.up5.up3.swap (by simp))
              go_wp2_with fail
              refine HT.out.mono ?_
              rintro e w7 ⟨rfl, hs⟩
              have S7 := Lib.hid hs
              clear hs HT z0 z1 S6
              go_wp2
              go_roundw
              case rel => exact ⟨k + 1, c1, B1, m1, u1, B2, m2, u2, by omega, by go_num, ((S7.out.drop.up4.drop.up4.drop).refsSub (L' := [(.agg #[(.slice B1 m1 u1), (.slice B2 m2 u2)], c1)]) (by simp)).swap.up3.swap⟩
              case measure => simp [intOf]; omega
            · have m4 : ((x.kind : Int) % 8 == 4) = true := by simp; omega
              have m5 : ((x.kind : Int) % 8 == 5) = false := by simp; omega
              have m6 : ((x.kind : Int) % 8 == 6) = false := by simp; omega
              have m7 : ((x.kind : Int) % 8 == 7) = false := by simp; omega
              clear hr8
              obtain ⟨⟨r1, r2⟩, hr⟩ : ∃ y, c.markRes = y := ⟨_, rfl⟩
              obtain ⟨c1, hc1⟩ : ∃ y, c.mark = y := ⟨_, rfl⟩
              have qr1 : (r1 != r1) = false := by simp
              have qr2 : (r2 != r2) = false := by simp
              have HX := Lib.hid (S3.out.up3.mark hr hc1)
              go_wp2_with fail
              refine HX.out.mono ?_
              rintro e w3 ⟨rfl, hs⟩
              clear k0 S3 HX
              have d0 : w3.cell? ⟨g11, 0, none⟩ = some (.slice A1 n1 p1) := hs.blk4.cell 0
              have d1 : w3.cell? ⟨g11, 1, none⟩ = some (.slice A2 n2 p2) := hs.blk4.cell 1
              have HX := Lib.hid (hs.up6.rmark (v := .agg #[(.slice A1 n1 p1), (.slice A2 n2 p2)]) (by simp) hmf.out hr hc1)
              clear hs hr hc1
              go_wp2_with fail
              refine HX.out.mono ?_
              rintro e w4 ⟨B1, m1, u1, B2, m2, u2, rfl, hs⟩
              clear d0 d1
              have s6 := St.up6 hs
              have y0 : w4.cell? ⟨g11, 0, none⟩ = some (.slice A1 n1 p1) := s6.blk0.cell 0
              have y1 : w4.cell? ⟨g11, 1, none⟩ = some (.slice A2 n2 p2) := s6.blk0.cell 1
              have y2 := s6.blk0.frozen
              have S4 := Lib.hid (s6.put2 (.slice B1 m1 u1) (.slice B2 m2 u2))
              clear s6 hs HX
              go_upto_region 44 with fail
              generalize (w4.setCell ⟨g11, 0, none⟩ (.slice B1 m1 u1)).setCell ⟨g11, 1, none⟩ (.slice B2 m2 u2) = w5 at *
              have S5 : Hid (St wr w5 [.blk g11 86 #[(.slice B1 m1 u1), (.slice B2 m2 u2)], .refs [(.agg #[(.slice B1 m1 u1), (.slice B2 m2 u2)], c1), (.agg #[(.slice A1 n1 p1), (.slice A2 n2 p2)], c)], .mem a c1, .blk g19 86 #[(.slice A1 n1 p1), (.slice A2 n2 p2)], .mem b c, .blk g9 59 #[.int .u8 (x.kind : Int), .int .i64 x.owner, .int .i64 x.index, .int .i64 x.value]]) := S4
              clear S4 y0 y1 y2
              have y0 : w5.cell? ⟨g11, 0, none⟩ = some (.slice B1 m1 u1) := S5.out.blk0.cell 0
              have y1 : w5.cell? ⟨g11, 1, none⟩ = some (.slice B2 m2 u2) := S5.out.blk0.cell 1
              have HT := Lib.hid (St.tells (v := .agg #[(.slice B1 m1 u1), (.slice B2 m2 u2)]) S5.out.swap.up3 (by simp))
              go_wp2_with fail
              refine HT.out.mono ?_
              rintro e w6 ⟨rfl, hs⟩
              have S6 := Lib.hid hs
              clear hs HT y0 y1 S5
              have z0 : w6.cell? ⟨g19, 0, none⟩ = some (.slice A1 n1 p1) := S6.out.blk3.cell 0
              have z1 : w6.cell? ⟨g19, 1, none⟩ = some (.slice A2 n2 p2) := S6.out.blk3.cell 1
              have HT := Lib.hid (St.tells (v := .agg #[(.slice A1 n1 p1), (.slice A2 n2 p2)]) S6.out.up5.up3.swap (by simp))
              go_wp2_with fail
              refine HT.out.mono ?_
              rintro e w7 ⟨rfl, hs⟩
              have S7 := Lib.hid hs
              clear hs HT z0 z1 S6
              go_wp2
              go_roundw
              case rel => exact ⟨k + 1, c1, B1, m1, u1, B2, m2, u2, by omega, by go_num, ((S7.out.drop.up4.drop.up4.drop).refsSub (L' := [(.agg #[(.slice B1 m1 u1), (.slice B2 m2 u2)], c1)]) (by simp)).swap.up3.swap⟩
              case measure => simp [intOf]; omega
            · have m4 : ((x.kind : Int) % 8 == 4) = false := by simp; omega
              have m5 : ((x.kind : Int) % 8 == 5) = true := by simp; omega
              have m6 : ((x.kind : Int) % 8 == 6) = false := by simp; omega
              have m7 : ((x.kind : Int) % 8 == 7) = false := by simp; omega
              clear hr8
              obtain ⟨⟨r1, r2⟩, hr⟩ : ∃ y, c.popRes = y := ⟨_, rfl⟩
              obtain ⟨c1, hc1⟩ : ∃ y, c.back = y := ⟨_, rfl⟩
              have qr1 : (r1 != r1) = false := by simp
              have qr2 : (r2 != r2) = false := by simp
              have HX := Lib.hid (S3.out.up3.back hr hc1)
              go_wp2_with fail
              refine HX.out.mono ?_
              rintro e w3 ⟨rfl, hs⟩
              clear k0 S3 HX
              have d0 : w3.cell? ⟨g11, 0, none⟩ = some (.slice A1 n1 p1) := hs.blk4.cell 0
              have d1 : w3.cell? ⟨g11, 1, none⟩ = some (.slice A2 n2 p2) := hs.blk4.cell 1
              have HX := Lib.hid (hs.up6.rpop (v := .agg #[(.slice A1 n1 p1), (.slice A2 n2 p2)]) true (by simp) hmf.out hr (show c.pop true = c1 from hc1))
              clear hs hr hc1
              go_wp2_with fail
              refine HX.out.mono ?_
              rintro e w4 ⟨B1, m1, u1, B2, m2, u2, rfl, hs⟩
              clear d0 d1
              have s6 := St.up6 hs
              have y0 : w4.cell? ⟨g11, 0, none⟩ = some (.slice A1 n1 p1) := s6.blk0.cell 0
              have y1 : w4.cell? ⟨g11, 1, none⟩ = some (.slice A2 n2 p2) := s6.blk0.cell 1
              have y2 := s6.blk0.frozen
              have S4 := Lib.hid (s6.put2 (.slice B1 m1 u1) (.slice B2 m2 u2))
              clear s6 hs HX
              go_upto_region 44 with fail
              generalize (w4.setCell ⟨g11, 0, none⟩ (.slice B1 m1 u1)).setCell ⟨g11, 1, none⟩ (.slice B2 m2 u2) = w5 at *
              have S5 : Hid (St wr w5 [.blk g11 86 #[(.slice B1 m1 u1), (.slice B2 m2 u2)], .refs [(.agg #[(.slice B1 m1 u1), (.slice B2 m2 u2)], c1), (.agg #[(.slice A1 n1 p1), (.slice A2 n2 p2)], c)], .mem a c1, .blk g19 86 #[(.slice A1 n1 p1), (.slice A2 n2 p2)], .mem b c, .blk g9 59 #[.int .u8 (x.kind : Int), .int .i64 x.owner, .int .i64 x.index, .int .i64 x.value]]) := S4
              clear S4 y0 y1 y2
              have y0 : w5.cell? ⟨g11, 0, none⟩ = some (.slice B1 m1 u1) := S5.out.blk0.cell 0
              have y1 : w5.cell? ⟨g11, 1, none⟩ = some (.slice B2 m2 u2) := S5.out.blk0.cell 1
              have HT := Lib.hid (St.tells (v := .agg #[(.slice B1 m1 u1), (.slice B2 m2 u2)]) S5.out.swap.up3 (by simp))
              go_wp2_with fail
              refine HT.out.mono ?_
              rintro e w6 ⟨rfl, hs⟩
              have S6 := Lib.hid hs
              clear hs HT y0 y1 S5
              have z0 : w6.cell? ⟨g19, 0, none⟩ = some (.slice A1 n1 p1) := S6.out.blk3.cell 0
              have z1 : w6.cell? ⟨g19, 1, none⟩ = some (.slice A2 n2 p2) := S6.out.blk3.cell 1
              have HT := Lib.hid (St.tells (v := .agg #[(.slice A1 n1 p1), (.slice A2 n2 p2)]) S6.out.up5.up3.swap (by simp))
              go_wp2_with fail
              refine HT.out.mono ?_
              rintro e w7 ⟨rfl, hs⟩
              have S7 := Lib.hid hs
              clear hs HT z0 z1 S6
              go_wp2
              go_roundw
              case rel => exact ⟨k + 1, c1, B1, m1, u1, B2, m2, u2, by omega, by go_num, ((S7.out.drop.up4.drop.up4.drop).refsSub (L' := [(.agg #[(.slice B1 m1 u1), (.slice B2 m2 u2)], c1)]) (by simp)).swap.up3.swap⟩
              case measure => simp [intOf]; omega
            · have m4 : ((x.kind : Int) % 8 == 4) = false := by simp; omega
              have m5 : ((x.kind : Int) % 8 == 5) = false := by simp; omega
              have m6 : ((x.kind : Int) % 8 == 6) = true := by simp; omega
              have m7 : ((x.kind : Int) % 8 == 7) = false := by simp; omega
              clear hr8
              obtain ⟨⟨r1, r2⟩, hr⟩ : ∃ y, c.popRes = y := ⟨_, rfl⟩
              obtain ⟨c1, hc1⟩ : ∃ y, c.keep = y := ⟨_, rfl⟩
              have qr1 : (r1 != r1) = false := by simp
              have qr2 : (r2 != r2) = false := by simp
              have HX := Lib.hid (S3.out.up3.keep hr hc1)
              go_wp2_with fail
              refine HX.out.mono ?_
              rintro e w3 ⟨rfl, hs⟩
              clear k0 S3 HX
              have d0 : w3.cell? ⟨g11, 0, none⟩ = some (.slice A1 n1 p1) := hs.blk4.cell 0
              have d1 : w3.cell? ⟨g11, 1, none⟩ = some (.slice A2 n2 p2) := hs.blk4.cell 1
              have HX := Lib.hid (hs.up6.rpop (v := .agg #[(.slice A1 n1 p1), (.slice A2 n2 p2)]) false (by simp) hmf.out hr (show c.pop false = c1 from hc1))
              clear hs hr hc1
              go_wp2_with fail
              refine HX.out.mono ?_
              rintro e w4 ⟨B1, m1, u1, B2, m2, u2, rfl, hs⟩
              clear d0 d1
              have s6 := St.up6 hs
              have y0 : w4.cell? ⟨g11, 0, none⟩ = some (.slice A1 n1 p1) := s6.blk0.cell 0
              have y1 : w4.cell? ⟨g11, 1, none⟩ = some (.slice A2 n2 p2) := s6.blk0.cell 1
              have y2 := s6.blk0.frozen
              have S4 := Lib.hid (s6.put2 (.slice B1 m1 u1) (.slice B2 m2 u2))
              clear s6 hs HX
              go_upto_region 44 with fail
              generalize (w4.setCell ⟨g11, 0, none⟩ (.slice B1 m1 u1)).setCell ⟨g11, 1, none⟩ (.slice B2 m2 u2) = w5 at *
              have S5 : Hid (St wr w5 [.blk g11 86 #[(.slice B1 m1 u1), (.slice B2 m2 u2)], .refs [(.agg #[(.slice B1 m1 u1), (.slice B2 m2 u2)], c1), (.agg #[(.slice A1 n1 p1), (.slice A2 n2 p2)], c)], .mem a c1, .blk g19 86 #[(.slice A1 n1 p1), (.slice A2 n2 p2)], .mem b c, .blk g9 59 #[.int .u8 (x.kind : Int), .int .i64 x.owner, .int .i64 x.index, .int .i64 x.value]]) := S4
              clear S4 y0 y1 y2
              have y0 : w5.cell? ⟨g11, 0, none⟩ = some (.slice B1 m1 u1) := S5.out.blk0.cell 0
              have y1 : w5.cell? ⟨g11, 1, none⟩ = some (.slice B2 m2 u2) := S5.out.blk0.cell 1
              have HT := Lib.hid (St.tells (v := .agg #[(.slice B1 m1 u1), (.slice B2 m2 u2)]) S5.out.swap.up3 (by simp))
              go_wp2_with fail
              refine HT.out.mono ?_
              rintro e w6 ⟨rfl, hs⟩
              have S6 := Lib.hid hs
              clear hs HT y0 y1 S5
              have z0 : w6.cell? ⟨g19, 0, none⟩ = some (.slice A1 n1 p1) := S6.out.blk3.cell 0
              have z1 : w6.cell? ⟨g19, 1, none⟩ = some (.slice A2 n2 p2) := S6.out.blk3.cell 1
              have HT := Lib.hid (St.tells (v := .agg #[(.slice A1 n1 p1), (.slice A2 n2 p2)]) S6.out.up5.up3.swap (by simp))
              go_wp2_with fail
              refine HT.out.mono ?_
              rintro e w7 ⟨rfl, hs⟩
              have S7 := Lib.hid hs
              clear hs HT z0 z1 S6
              go_wp2
              go_roundw
              case rel => exact ⟨k + 1, c1, B1, m1, u1, B2, m2, u2, by omega, by go_num, ((S7.out.drop.up4.drop.up4.drop).refsSub (L' := [(.agg #[(.slice B1 m1 u1), (.slice B2 m2 u2)], c1)]) (by simp)).swap.up3.swap⟩
              case measure => simp [intOf]; omega
            · have m4 : ((x.kind : Int) % 8 == 4) = false := by simp; omega
              have m5 : ((x.kind : Int) % 8 == 5) = false := by simp; omega
              have m6 : ((x.kind : Int) % 8 == 6) = false := by simp; omega
              have m7 : ((x.kind : Int) % 8 == 7) = true := by simp; omega
              clear hr8
              obtain ⟨⟨r1, r2⟩, hr⟩ : ∃ y, c.load x.owner x.index = y := ⟨_, rfl⟩
              have qr1 : (r1 != r1) = false := by simp
              have qr2 : (r2 != r2) = false := by simp
              have k1 : w2.cell? ⟨g9, 1, none⟩ = some (.int .i64 x.owner) := S3.out.blk3.cell 1
              have k2 : w2.cell? ⟨g9, 2, none⟩ = some (.int .i64 x.index) := S3.out.blk3.cell 2
              have d0 : w2.cell? ⟨g11, 0, none⟩ = some (.slice A1 n1 p1) := S3.out.blk4.cell 0
              have d1 : w2.cell? ⟨g11, 1, none⟩ = some (.slice A2 n2 p2) := S3.out.blk4.cell 1
              have HX := Lib.hid (S3.out.up3.load x.owner x.index hr)
              have HX2 := Lib.hid (S3.out.up3.up6.rload x.owner x.index (v := .agg #[(.slice A1 n1 p1), (.slice A2 n2 p2)]) (by simp) hmf.out hr)
              clear hr
              go_wp2_with fail
              refine HX.out.mono ?_
              rintro e w3 ⟨rfl, rfl⟩
              clear HX
              go_wp2_with fail
              refine HX2.out.mono ?_
              rintro e w5 ⟨rfl, hs⟩
              clear d0 d1 k0 k1 k2 HX2 S3
              obtain ⟨B1, hB1⟩ : ∃ y, A1 = y := ⟨_, rfl⟩
              obtain ⟨m1, hm1⟩ : ∃ y, n1 = y := ⟨_, rfl⟩
              obtain ⟨u1, hu1⟩ : ∃ y, p1 = y := ⟨_, rfl⟩
              obtain ⟨B2, hB2⟩ : ∃ y, A2 = y := ⟨_, rfl⟩
              obtain ⟨m2, hm2⟩ : ∃ y, n2 = y := ⟨_, rfl⟩
              obtain ⟨u2, hu2⟩ : ∃ y, p2 = y := ⟨_, rfl⟩
              obtain ⟨c1, hc1⟩ : ∃ y, c = y := ⟨_, rfl⟩
              have S5 : Hid (St wr w5 [.blk g11 86 #[(.slice B1 m1 u1), (.slice B2 m2 u2)], .refs [(.agg #[(.slice B1 m1 u1), (.slice B2 m2 u2)], c1), (.agg #[(.slice A1 n1 p1), (.slice A2 n2 p2)], c)], .mem a c1, .blk g19 86 #[(.slice A1 n1 p1), (.slice A2 n2 p2)], .mem b c, .blk g9 59 #[.int .u8 (x.kind : Int), .int .i64 x.owner, .int .i64 x.index, .int .i64 x.value]]) := Lib.hid (by
                subst hB1 hm1 hu1 hB2 hm2 hu2 hc1
                have := (St.up6 hs)
                exact (this.swap.refsSub (L' := [(.agg #[(.slice A1 n1 p1), (.slice A2 n2 p2)], c), (.agg #[(.slice A1 n1 p1), (.slice A2 n2 p2)], c)]) (by simp)).swap)
              clear hs hB1 hm1 hu1 hB2 hm2 hu2 hc1
              have y0 : w5.cell? ⟨g11, 0, none⟩ = some (.slice B1 m1 u1) := S5.out.blk0.cell 0
              have y1 : w5.cell? ⟨g11, 1, none⟩ = some (.slice B2 m2 u2) := S5.out.blk0.cell 1
              have HT := Lib.hid (St.tells (v := .agg #[(.slice B1 m1 u1), (.slice B2 m2 u2)]) S5.out.swap.up3 (by simp))
              go_wp2_with fail
              refine HT.out.mono ?_
              rintro e w6 ⟨rfl, hs⟩
              have S6 := Lib.hid hs
              clear hs HT y0 y1 S5
              have z0 : w6.cell? ⟨g19, 0, none⟩ = some (.slice A1 n1 p1) := S6.out.blk3.cell 0
              have z1 : w6.cell? ⟨g19, 1, none⟩ = some (.slice A2 n2 p2) := S6.out.blk3.cell 1
              have HT := Lib.hid (St.tells (v := .agg #[(.slice A1 n1 p1), (.slice A2 n2 p2)]) S6.out.up5.up3.swap (by simp))
              go_wp2_with fail
              refine HT.out.mono ?_
              rintro e w7 ⟨rfl, hs⟩
              have S7 := Lib.hid hs
              clear hs HT z0 z1 S6
              go_wp2
              go_roundw
              case rel => exact ⟨k + 1, c1, B1, m1, u1, B2, m2, u2, by omega, by go_num, ((S7.out.drop.up4.drop.up4.drop).refsSub (L' := [(.agg #[(.slice B1 m1 u1), (.slice B2 m2 u2)], c1)]) (by simp)).swap.up3.swap⟩
              case measure => simp [intOf]; omega
          · obtain rfl : k = l.length := by omega
            have S9 := Lib.hid hS
            clear hS
            go_wp2
            go_ret
            exact ⟨rfl, S9.out.whole⟩
end Go.Proofs.Ytlfaoibgmbbacaa

