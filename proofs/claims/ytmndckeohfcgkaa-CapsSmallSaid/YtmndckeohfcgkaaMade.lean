/- The walk of Made of the laws on caps. -/
import Derived.Test.YtmndckeohfcgkaaMadeLaw
namespace Go.Proofs.Ytmndckeohfcgkaa
open Go.RowKit
set_option maxRecDepth 100000 in
set_option maxHeartbeats 4000000 in
theorem Made_calls {w0 w : World} {rs : List Res} {A : Option Addr} {cp : Nat} {l : List Sm} (h : St w0 w rs) (hr : Reads w0 A (flatS l)) (hl : ∀ x ∈ l, x.ok) (hn : l.length ≤ maxLen) (hcp : l.length ≤ cp) :
    Calls Try.prog 12 #[.slice A l.length cp] w fun e w' => ∃ a, e = .returned (.tuple #[.pointer (some ⟨a, 0, none⟩), .bool true]) ∧ St w0 w' (.tab a (madeAll (newCT 100) (l.take 60)) :: rs) ∧ (madeAll (newCT 100) (l.take 60)).few' 60 := by
  obtain ⟨n, hn1, hn2, hmin, htk⟩ : ∃ n : Nat, n ≤ 60 ∧ n ≤ l.length ∧ min (l.length : Int) 60 = (n : Int) ∧ l.take n = l.take 60 := by
    by_cases h60 : l.length ≤ 60
    · exact ⟨l.length, h60, Nat.le_refl _, by omega, by rw [List.take_length, List.take_of_length_le h60]⟩
    · exact ⟨60, Nat.le_refl _, by omega, by omega, rfl⟩
  have HR := Lib.hid hr
  have HL := Lib.hid hl
  have H0 := Lib.hid h
  have HTK := Lib.hid htk
  have hcp' : (n : Int) ≤ cp := by omega
  unfold maxLen at hn
  clear hr hl h htk
  have HN := Lib.hid (H0.out.fresh (n := 100) (by omega) (by omega))
  go_enter Try.func12, Try.ntmps12
  go_wp2_with (go_at_call 31; refine HN.out.mono ?_; rintro e w1 ⟨a, rfl, hs⟩; have S1 := Lib.hid hs; clear hs)
  go_loopw [32] (fun i wr => ∃ k : Nat, k ≤ n ∧ i = .int .i64 k ∧ St w0 wr (.tab a (madeAll (newCT 100) (l.take k)) :: rs) ∧ (madeAll (newCT 100) (l.take k)).few' k) (fun i _ => n - (intOf i).toNat)
  case atStart => exact ⟨0, by omega, rfl, S1.out, few_new⟩
  case round =>
    obtain ⟨k, hk, rfl, hS, hF⟩ := hrel
    by_cases hlt : k < n
    · obtain ⟨x, hx⟩ : ∃ x, l[k]? = some x := ⟨_, List.getElem?_eq_getElem (by omega)⟩
      have hxok := HL.out x (List.mem_of_getElem? hx)
      obtain ⟨x1, x2, x3, x4⟩ := hxok
      obtain ⟨b, off, rfl, hc⟩ := HR.out.resolve_left (by intro e; rw [flatS_nil.1 e] at hx; simp at hx)
      have hK := hS.whole
      have c0 : wr.cell? ⟨b, off + k * 4, none⟩ = _ := hK.cell (hc (k * 4 + 0) _ (flatS_get hx (by omega) rfl)) (by simp)
      have c1 : wr.cell? ⟨b, off + k * 4 + 1, none⟩ = _ := hK.cell (hc (k * 4 + 1) _ (flatS_get hx (by omega) rfl)) (by simp)
      have c2 : wr.cell? ⟨b, off + k * 4 + 2, none⟩ = _ := hK.cell (hc (k * 4 + 2) _ (flatS_get hx (by omega) rfl)) (by simp)
      have c3 : wr.cell? ⟨b, off + k * 4 + 3, none⟩ = _ := hK.cell (hc (k * 4 + 3) _ (flatS_get hx (by omega) rfl)) (by simp)
      have e1 := madeAll_snoc (newCT 100) l k x hx
      have hF2 := made_few hS.ok hF (by omega) x ⟨x1, x2, x3, x4⟩
      have hX := hS.alloc1 58 #[.int .u8 (x.kind : Int), .int .u8 (x.a : Int), .int .u8 (x.b : Int), .int .u8 (x.rights : Int)]
      generalize madeAll (newCT 100) (l.take k) = d at *
      rw [← e1] at hF2
      have E1 := Lib.hid e1
      have S2 := Lib.hid hX
      have F1 := Lib.hid hF
      have F2 := Lib.hid hF2
      have HA := Lib.hid hX.all
      have hor := orG_eq x.rights
      clear e1 hS hF hF2 hX hK hc hx
      have hk60 : k < 60 := by omega
      by_cases hA : d.live.length = 0 ∨ x.kind % 8 = 0
      · have hrt := rootRes_small F1.out (Nat.lt_of_lt_of_le hk60 (by omega)) (p := ((x.a % 4 : Nat) : Int)) (o := ((x.b % 5 : Nat) : Int)) (t := orG x.rights) ⟨by omega, by omega⟩ ⟨by omega, by omega⟩ (orG_le _)
        have hms : madeStep d x = d.root ((x.a % 4 : Nat) : Int) ((x.b % 5 : Nat) : Int) (orG x.rights) := by unfold madeStep; rw [if_pos hA]
        have hroot : ∀ (W : World) (rs' : List Res), St w0 W (.tab a d :: rs') → Calls Try.prog 28 #[.pointer (some ⟨a, 0, none⟩), .int .i64 ((x.a : Int) % 4), .int .i64 ((x.b : Int) % 5), .int .u8 (orG x.rights : Int)] W fun e w' => e = .returned (.tuple #[.int .i64 d.next, .int .i64 0]) ∧ St w0 w' (.tab a (madeStep d x) :: rs') := by
          intro W rs' hS
          have := hS.root ((x.a % 4 : Nat) : Int) ((x.b % 5 : Nat) : Int) (orG x.rights)
          rw [hrt.1, ← hms] at this
          rw [show ((x.a % 4 : Nat) : Int) = (x.a : Int) % 4 by omega, show ((x.b % 5 : Nat) : Int) = (x.b : Int) % 5 by omega] at this
          exact this
        have HROOT := Lib.hid hroot
        clear hrt hms hroot
        by_cases h0 : d.live.length = 0
        · have h0' : ((d.live.length : Int) == 0) = true := by rw [h0]; rfl
          clear hA h0
          go_wp2_with (first
            | (go_at_call 14; refine HA.out.mono ?_; rintro e w2 ⟨A2, p2, rfl, hs⟩; have bx := hs.blk2; have d0 := bx.cell 0; have d1 := bx.cell 1; have d2 := bx.cell 2; have d3 := bx.cell 3; have S3 := Lib.hid hs; clear hs bx)
            | (go_at_call 28; refine (HROOT.out _ _ S3.out).mono ?_; rintro e w3 ⟨rfl, hs⟩; have S4 := Lib.hid hs; clear hs))
          go_roundw
          case rel => exact ⟨k + 1, by omega, by go_num, by rw [E1.out]; exact S4.out.swap.drop.swap.drop, F2.out⟩
          case measure => simp [intOf]; omega
        · have h0' : ((d.live.length : Int) == 0) = false := by simp; intro e; rw [e] at h0; exact h0 rfl
          have hk8 : ((x.kind : Int) % 8 == 0) = true := by have := hA.resolve_left h0; simp; omega
          clear hA h0
          go_wp2_with (first
            | (go_at_call 14; refine HA.out.mono ?_; rintro e w2 ⟨A2, p2, rfl, hs⟩; have bx := hs.blk2; have d0 := bx.cell 0; have d1 := bx.cell 1; have d2 := bx.cell 2; have d3 := bx.cell 3; have S3 := Lib.hid hs; clear hs bx)
            | (go_at_call 28; refine (HROOT.out _ _ S3.out).mono ?_; rintro e w3 ⟨rfl, hs⟩; have S4 := Lib.hid hs; clear hs))
          go_roundw
          case rel => exact ⟨k + 1, by omega, by go_num, by rw [E1.out]; exact S4.out.swap.drop.swap.drop, F2.out⟩
          case measure => simp [intOf]; omega
      · have h0 : ¬ d.live.length = 0 := fun e => hA (.inl e)
        have hk0 : ¬ x.kind % 8 = 0 := fun e => hA (.inr e)
        have h0' : ((d.live.length : Int) == 0) = false := by simp; intro e; rw [e] at h0; exact h0 rfl
        have hk8 : ((x.kind : Int) % 8 == 0) = false := by simp; omega
        have hjl : x.a % d.live.length < d.live.length := Nat.mod_lt _ (by omega)
        obtain ⟨y, hy⟩ : ∃ y, d.live[x.a % d.live.length]? = some y := ⟨_, List.getElem?_eq_getElem hjl⟩
        have hym := List.mem_of_getElem? hy
        have hjj : (x.a : Int) % (d.live.length : Int) = ((x.a % d.live.length : Nat) : Int) := by omega
        have hand := andR_eq x.rights y.rights
        obtain ⟨j, hjd⟩ : ∃ j, x.a % d.live.length = j := ⟨_, rfl⟩
        rw [hjd] at hjl hy hjj
        have HY := Lib.hid hy
        have hjl' : (j : Int) < d.live.length := by omega
        by_cases h7 : x.kind % 8 = 7
        · have hk7 : ((x.kind : Int) % 8 == 7) = true := by simp; omega
          have hms : madeStep d x = d.revoke y.serial := by
            unfold madeStep
            rw [if_neg hA]
            simp only [hjd, hy, h7, if_true]
          have hrev : ∀ (W : World) (rs' : List Res), St w0 W (.tab a d :: rs') → Calls Try.prog 17 #[.pointer (some ⟨a, 0, none⟩), .int .i64 y.serial] W fun e w' => ∃ A c, e = .returned (.tuple #[.slice A (d.belowRes y.serial).1.length c, .int .i64 0]) ∧ St w0 w' (.tab a (madeStep d x) :: .row (.slice A (d.belowRes y.serial).1.length c) 3 1 (d.belowRes y.serial).1.length ((d.belowRes y.serial).1.map intV) :: rs') := by
            intro W rs' hS
            have h1 := hS.revoke y.serial
            have h2 : (d.belowRes y.serial).2 = 0 := by unfold CT.belowRes; rw [hS.ok.get_mem hym]
            rw [h2, ← hms] at h1
            exact h1
          have HREV := Lib.hid hrev
          clear hrev hms hA h0 hk0 hy hym h7 hjd
          go_wp2_with (first
            | (go_at_call 14
               refine HA.out.mono ?_
               rintro e w2 ⟨A2, p2, rfl, hs⟩
               have bx := hs.blk2
               have d0 := bx.cell 0
               have d1 := bx.cell 1
               have d2 := bx.cell 2
               have d3 := bx.cell 3
               have lx := bx.lt
               obtain ⟨b2, o2, rfl, hc2⟩ := (own_reads hs.drop.row).resolve_left (by intro e; rw [flatH_nil.1 e] at hjl; exact Nat.not_lt_zero _ hjl)
               obtain ⟨g0, g1, g2, g3, g4⟩ := hd_cells (Kept.refl [] w2) hc2 HY.out
               have S3 := Lib.hid (hs.alloc1 34 #[.int .i64 y.serial, .int .i64 y.parent, .int .i64 y.port, .int .i64 y.holder, .int .u8 (y.rights : Int)])
               clear hs bx hc2)
            | (go_at_call 17; refine (HREV.out _ _ S3.out).mono ?_; rintro e w3 ⟨A3, p3, rfl, hs⟩; have S4 := Lib.hid hs; clear hs))
          go_roundw
          case rel => exact ⟨k + 1, by omega, by go_num, by rw [E1.out]; exact S4.out.swap.drop.swap.drop.swap.drop.swap.drop, F2.out⟩
          case measure => simp [intOf]; omega
        · have hk7 : ((x.kind : Int) % 8 == 7) = false := by simp; omega
          have hms : madeStep d x = d.derive y.serial ((x.b % 5 : Nat) : Int) (andR x.rights y.rights) := by
            unfold madeStep
            rw [if_neg hA]
            simp only [hjd, hy, h7, if_false]
          cases hg : grants y.rights with
          | true =>
            have hg' : (bits .and .u8 (y.rights : Int) 4 == 0) = false := by unfold grants at hg; simpa using hg
            have hg2 : (bits .and .u8 (y.rights : Int) 4 != 0) = true := by unfold grants at hg; simpa using hg
            have hder : ∀ (W : World) (rs' : List Res), St w0 W (.tab a d :: rs') → Calls Try.prog 25 #[.pointer (some ⟨a, 0, none⟩), .int .i64 y.serial, .int .i64 ((x.b : Int) % 5), .int .u8 (andR x.rights y.rights : Int)] W fun e w' => e = .returned (.tuple #[.int .i64 d.next, .int .i64 0]) ∧ St w0 w' (.tab a (madeStep d x) :: rs') := by
              intro W rs' hS
              have h1 := hS.derive y.serial ((x.b % 5 : Nat) : Int) (andR x.rights y.rights)
              rw [((deriveRes_small hS.ok F1.out (Nat.lt_of_lt_of_le hk60 (by omega)) hym (o := ((x.b % 5 : Nat) : Int)) ⟨by omega, by omega⟩ x4).1 hg).1, ← hms] at h1
              rw [show ((x.b % 5 : Nat) : Int) = (x.b : Int) % 5 by omega] at h1
              exact h1
            have HDER := Lib.hid hder
            clear hder hms hA h0 hk0 hy hym h7 hjd hg
            go_wp2_with (first
              | (go_at_call 14
                 refine HA.out.mono ?_
                 rintro e w2 ⟨A2, p2, rfl, hs⟩
                 have bx := hs.blk2
                 have d0 := bx.cell 0
                 have d1 := bx.cell 1
                 have d2 := bx.cell 2
                 have d3 := bx.cell 3
                 have lx := bx.lt
                 obtain ⟨b2, o2, rfl, hc2⟩ := (own_reads hs.drop.row).resolve_left (by intro e; rw [flatH_nil.1 e] at hjl; exact Nat.not_lt_zero _ hjl)
                 obtain ⟨g0, g1, g2, g3, g4⟩ := hd_cells (Kept.refl [] w2) hc2 HY.out
                 have S3 := Lib.hid (hs.alloc1 34 #[.int .i64 y.serial, .int .i64 y.parent, .int .i64 y.port, .int .i64 y.holder, .int .u8 (y.rights : Int)])
                 clear hs bx hc2)
              | (go_at_call 25; refine (HDER.out _ _ S3.out).mono ?_; rintro e w3 ⟨rfl, hs⟩; have bh := hs.blk1; have q4 := bh.cell 4; have S4 := Lib.hid hs; clear hs bh))
            go_roundw
            case rel => exact ⟨k + 1, by omega, by go_num, by rw [E1.out]; exact S4.out.swap.drop.swap.drop.swap.drop, F2.out⟩
            case measure => simp [intOf]; omega
          | false =>
            have hg' : (bits .and .u8 (y.rights : Int) 4 == 0) = true := by unfold grants at hg; simpa using hg
            have hg2 : (bits .and .u8 (y.rights : Int) 4 != 0) = false := by unfold grants at hg; simpa using hg
            have hder : ∀ (W : World) (rs' : List Res), St w0 W (.tab a d :: rs') → Calls Try.prog 25 #[.pointer (some ⟨a, 0, none⟩), .int .i64 y.serial, .int .i64 ((x.b : Int) % 5), .int .u8 (andR x.rights y.rights : Int)] W fun e w' => e = .returned (.tuple #[.int .i64 0, .int .i64 221]) ∧ St w0 w' (.tab a (madeStep d x) :: rs') := by
              intro W rs' hS
              have h1 := hS.derive y.serial ((x.b % 5 : Nat) : Int) (andR x.rights y.rights)
              rw [((deriveRes_small hS.ok F1.out (Nat.lt_of_lt_of_le hk60 (by omega)) hym (o := ((x.b % 5 : Nat) : Int)) ⟨by omega, by omega⟩ x4).2 hg).1, ← hms] at h1
              rw [show ((x.b % 5 : Nat) : Int) = (x.b : Int) % 5 by omega] at h1
              exact h1
            have HDER := Lib.hid hder
            clear hder hms hA h0 hk0 hy hym h7 hjd hg
            go_wp2_with (first
              | (go_at_call 14
                 refine HA.out.mono ?_
                 rintro e w2 ⟨A2, p2, rfl, hs⟩
                 have bx := hs.blk2
                 have d0 := bx.cell 0
                 have d1 := bx.cell 1
                 have d2 := bx.cell 2
                 have d3 := bx.cell 3
                 have lx := bx.lt
                 obtain ⟨b2, o2, rfl, hc2⟩ := (own_reads hs.drop.row).resolve_left (by intro e; rw [flatH_nil.1 e] at hjl; exact Nat.not_lt_zero _ hjl)
                 obtain ⟨g0, g1, g2, g3, g4⟩ := hd_cells (Kept.refl [] w2) hc2 HY.out
                 have S3 := Lib.hid (hs.alloc1 34 #[.int .i64 y.serial, .int .i64 y.parent, .int .i64 y.port, .int .i64 y.holder, .int .u8 (y.rights : Int)])
                 clear hs bx hc2)
              | (go_at_call 25; refine (HDER.out _ _ S3.out).mono ?_; rintro e w3 ⟨rfl, hs⟩; have bh := hs.blk1; have q4 := bh.cell 4; have S4 := Lib.hid hs; clear hs bh))
            go_roundw
            case rel => exact ⟨k + 1, by omega, by go_num, by rw [E1.out]; exact S4.out.swap.drop.swap.drop.swap.drop, F2.out⟩
            case measure => simp [intOf]; omega
    · obtain rfl : k = n := by omega
      rw [HTK.out] at hS hF
      have S2 := Lib.hid hS
      have F2 := Lib.hid (few_mono hF hn1)
      clear hS hF
      go_wp2
      go_ret2
      exact ⟨a, rfl, S2.out, F2.out⟩
end Go.Proofs.Ytmndckeohfcgkaa
