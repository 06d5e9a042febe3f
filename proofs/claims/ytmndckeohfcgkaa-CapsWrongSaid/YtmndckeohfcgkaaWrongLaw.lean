/- The walk of CapsWrong. -/
import Derived.Test.YtmndckeohfcgkaaRevokeLaw
namespace Go.Proofs.Ytmndckeohfcgkaa
open Go.RowKit
theorem get_far {c : CT} (ok : c.ok) (f : c.few' 60) {s : Int} (h : s ≤ 99 ∨ c.next ≤ s) : c.get s = none := by
  cases e : c.get s with
  | none => rfl
  | some y =>
    obtain ⟨h1, h2⟩ := get_some e
    have := ok.low y h1
    have := f.ser y h1
    omega
theorem more_all : ∀ r : Fin 16, ((bits .andNot .u8 15 ((r.val : Nat) : Int) == 0) = false → sub (bits .or .u8 ((r.val : Nat) : Int) (bits .andNot .u8 15 ((r.val : Nat) : Int))).toNat r.val = false ∧ bits .or .u8 ((r.val : Nat) : Int) (bits .andNot .u8 15 ((r.val : Nat) : Int)) = 15) := by decide +kernel
theorem derive_far {c : CT} {s to : Int} {t : Nat} (h : c.get s = none) : c.deriveRes s to t = (0, 6) ∧ c.derive s to t = c := by
  have e : c.deriveRes s to t = (0, 6) := by unfold CT.deriveRes; rw [h]
  exact ⟨e, by unfold CT.derive; rw [e]; rfl⟩
theorem derive_who {c : CT} {s to : Int} {t : Nat} {y : Hd} (h : c.get s = some y) (hh : holds to = false) : c.deriveRes s to t = (0, 2) ∧ c.derive s to t = c := by
  have e : c.deriveRes s to t = (0, 2) := by unfold CT.deriveRes; rw [h]; simp [hh]
  exact ⟨e, by unfold CT.derive; rw [e]; rfl⟩
theorem derive_bad {c : CT} {s to : Int} {t : Nat} {y : Hd} {x : Int} (h : c.get s = some y) (hh : holds to = true) (hx : handN y.rights t = x) (h0 : x ≠ 0) : c.deriveRes s to t = (0, x) ∧ c.derive s to t = c := by
  have e : c.deriveRes s to t = (0, x) := by unfold CT.deriveRes; rw [h]; simp [hh, hx, h0]
  exact ⟨e, by unfold CT.derive; rw [e]; exact if_neg h0⟩
theorem root_bad {c : CT} {p o : Int} {t : Nat} (h : ¬ (0 ≤ p ∧ p ≤ 4294967295) ∨ holds o = false) : c.rootRes p o t = (0, 2) ∧ c.root p o t = c := by
  have e : c.rootRes p o t = (0, 2) := by unfold CT.rootRes; rw [if_pos h]
  exact ⟨e, by unfold CT.root; rw [e]; rfl⟩
theorem root_bits {c : CT} {p o : Int} {t : Nat} (h : ¬ (¬ (0 ≤ p ∧ p ≤ 4294967295) ∨ holds o = false)) (ht : 15 < t) : c.rootRes p o t = (0, 220) ∧ c.root p o t = c := by
  have e : c.rootRes p o t = (0, 220) := by unfold CT.rootRes; rw [if_neg h, if_pos ht]
  exact ⟨e, by unfold CT.root; rw [e]; rfl⟩
theorem hand_bad {f t : Nat} (ht : 15 < t) : handN f t = 220 := by unfold handN; rw [if_pos (by omega)]
set_option maxRecDepth 100000 in
set_option maxHeartbeats 8000000 in
theorem capsWrong_calls {w : World} {A : Option Addr} {cA : Nat} {l : List Sm} (hA : Reads w A (flatS l)) (lA : ∀ x ∈ l, x.ok) (nA : l.length ≤ maxLen) (kA : l.length ≤ cA) (x : Int) (wx : (Lit.int .u8 x).wf = true) (n : Int) (wn : (Lit.int .i64 n).wf = true) (m : Int) (wm : (Lit.int .u8 m).wf = true) :
    Calls Try.prog 5 #[.slice A l.length cA, .int .u8 x, .int .i64 n, .int .u8 m] w fun e w' => e = .returned (.bool true) ∧ Kept [] w w' := by
  have HA := Lib.hid hA
  have LA := Lib.hid lA
  have NA := Lib.hid nA
  have KA := Lib.hid kA
  obtain ⟨q, rfl⟩ : ∃ q : Nat, x = (q : Int) := ⟨x.toNat, by have := bounds_u8 wx; omega⟩
  have hq : (q : Int) < 256 := by have := bounds_u8 wx; omega
  obtain ⟨bd, hbd, hbd1, hbd2⟩ : ∃ bd : Nat, max m 16 = (bd : Int) ∧ 15 < bd ∧ bd < 256 := ⟨(max m 16).toNat, by omega, by omega, by have := bounds_u8 wm; omega⟩
  obtain ⟨s1, hs1, bs1⟩ : ∃ s1, min n 99 = s1 ∧ s1 ≤ 99 := ⟨_, rfl, by omega⟩
  obtain ⟨o1, ho1, bo1⟩ : ∃ o1, min n (-1) = o1 ∧ o1 ≤ -1 := ⟨_, rfl, by omega⟩
  obtain ⟨o2, ho2, bo2⟩ : ∃ o2, max n 17 = o2 ∧ 17 ≤ o2 := ⟨_, rfl, by omega⟩
  obtain ⟨r2, hr2, br2⟩ : ∃ r2, max n 4294967296 = r2 ∧ 4294967296 ≤ r2 := ⟨_, rfl, by omega⟩
  obtain ⟨k1, hk1, bk1⟩ : ∃ k1, min n 0 = k1 ∧ k1 ≤ 0 := ⟨_, rfl, by omega⟩
  obtain ⟨k2, hk2, bk2⟩ : ∃ k2, max n 281474976710657 = k2 ∧ 281474976710657 ≤ k2 := ⟨_, rfl, by omega⟩
  clear hA lA nA kA wx wn wm
  go_enter Try.func5, Try.ntmps5
  go_wp2_with fail
  refine (awake_calls w).mono ?_
  rintro e w1 ⟨rfl, hk⟩
  have K1 := Lib.hid hk
  clear hk
  go_wp2_with fail
  refine (Made_calls ((St.nil w).kept K1.out) HA.out LA.out NA.out KA.out).mono ?_
  rintro e w2 ⟨a, rfl, hs, hf⟩
  generalize madeAll (newCT 100) (l.take 60) = c at hs hf
  have S2 := Lib.hid hs
  have few := hs.ok.few
  have FW := Lib.hid hf
  clear hs hf
  go_wp2_with fail
  refine S2.out.all.mono ?_
  rintro e w3 ⟨A3, p3, rfl, hs⟩
  have S3 := Lib.hid hs
  clear hs
  obtain ⟨s2, hs2, bs2⟩ : ∃ s2, max n c.next = s2 ∧ c.next ≤ s2 := ⟨_, rfl, by omega⟩
  go_wp2_with fail
  refine S3.out.next.mono ?_
  rintro e w' ⟨rfl, rfl⟩
  have S4 := Lib.hid (S3.out.alloc1 3 #[.int .i64 s1, .int .i64 s2])
  go_wp2
  go_loopw [70] (fun i wr => ∃ k : Nat, k ≤ 2 ∧ i = .int .i64 k ∧ St w wr [.tab a c, .blk w3.heap.size 3 #[.int .i64 s1, .int .i64 s2], .row (.slice A3 c.live.length p3) 34 5 c.live.length (flatH c.live)]) (fun i _ => 2 - (intOf i).toNat)
  case atStart => exact ⟨0, by omega, rfl, S4.out⟩
  case round =>
    obtain ⟨k, hk, rfl, hS⟩ := hrel
    by_cases hlt : k < 2
    · obtain ⟨s, hsv, hsb⟩ : ∃ s : Int, (#[Value.int .i64 s1, Value.int .i64 s2])[k]? = some (.int .i64 s) ∧ (s ≤ 99 ∨ c.next ≤ s) := by
        match k, hlt with
        | 0, _ => exact ⟨s1, rfl, .inl bs1⟩
        | 1, _ => exact ⟨s2, rfl, .inr bs2⟩
      have c0 := hS.blk1.cell k
      rw [hsv] at c0
      have hg := get_far S2.out.ok FW.out hsb
      have hd := derive_far (to := -1) (t := bd) hg
      have hbr : c.belowRes s = ([], 6) := by unfold CT.belowRes; rw [hg]
      have hrv : c.revoke s = c := by unfold CT.revoke; rw [hbr]; exact minus_nil c
      have hgr : c.getRes s = (noHd, 6) := by unfold CT.getRes; rw [hg]
      have T1 := Lib.hid hS
      have HD := Lib.hid hd
      have HBR := Lib.hid hbr
      have HRV := Lib.hid hrv
      have HGR := Lib.hid hgr
      clear hS hg hd hbr hrv hgr hsv hsb
      go_wp2_with fail
      refine (T1.out.derive' s (-1) bd HD.out.1 HD.out.2).mono ?_
      rintro e v1 ⟨rfl, hs⟩
      have T2 := Lib.hid hs
      clear hs
      go_wp2_with fail
      refine (T2.out.revoke' s HBR.out HRV.out).mono ?_
      rintro e v2 ⟨A5, p5, rfl, hs⟩
      have T3 := Lib.hid hs.swap.drop
      clear hs
      have hget := T3.out.get s
      rw [HGR.out] at hget
      simp only [Hd.val, noHd] at hget
      go_wp2_with fail
      refine hget.mono ?_
      rintro e v3 ⟨rfl, hs⟩
      have T4 := Lib.hid (hs.keptAlloc (.cells #[.int .i64 0, .int .i64 0, .int .i64 0, .int .i64 0, .int .u8 0] 34))
      clear hs hget
      go_wp2_with fail
      refine (T4.out.below' s HBR.out).mono ?_
      rintro e v4 ⟨A6, p6, rfl, hs⟩
      have T5 := Lib.hid hs.swap.drop
      clear hs
      go_wp2
      go_roundw
      case rel => exact ⟨k + 1, by omega, by go_num, T5.out⟩
      case measure => simp [intOf]; omega
    · have hge : (2 : Int) ≤ k := by omega
      clear hlt hk
      have S5 := Lib.hid (hS.alloc1 3 #[.int .i64 o1, .int .i64 o2])
      clear hS
      go_wp2
      go_loopw [120] (fun i wq => ∃ k : Nat, k ≤ 2 ∧ i = .int .i64 k ∧ St w wq [.tab a c, .blk wr.heap.size 3 #[.int .i64 o1, .int .i64 o2], .blk w3.heap.size 3 #[.int .i64 s1, .int .i64 s2], .row (.slice A3 c.live.length p3) 34 5 c.live.length (flatH c.live)]) (fun i _ => 2 - (intOf i).toNat)
      case atStart => exact ⟨0, by omega, rfl, S5.out⟩
      case round =>
        obtain ⟨k, hk, rfl, hS⟩ := hrel
        by_cases hlt : k < 2
        · obtain ⟨o, hsv, hob⟩ : ∃ o : Int, (#[Value.int .i64 o1, Value.int .i64 o2])[k]? = some (.int .i64 o) ∧ holds o = false := by
            match k, hlt with
            | 0, _ => exact ⟨o1, rfl, by simp [holds]; omega⟩
            | 1, _ => exact ⟨o2, rfl, by simp [holds]; omega⟩
          have c0 := hS.blk1.cell k
          rw [hsv] at c0
          have hr := root_bad (c := c) (p := 0) (t := bd) (.inr hob)
          have hpr : c.placeRes o 0 = (noHd, 2) := by unfold CT.placeRes; rw [if_pos hob]
          have hat : c.at o = [] := by unfold CT.at; rw [hob]; rfl
          have T1 := Lib.hid hS
          have HRR := Lib.hid hr
          have HPR := Lib.hid hpr
          have HAT := Lib.hid hat
          have HOB := Lib.hid hob
          clear hS hr hpr hat hsv hob
          go_wp2_with fail
          refine (T1.out.root' 0 o bd HRR.out.1 HRR.out.2).mono ?_
          rintro e v1 ⟨rfl, hs⟩
          have T2 := Lib.hid hs
          clear hs
          go_wp2_with fail
          refine (T2.out.place' o 0 HPR.out).mono ?_
          rintro e v2 ⟨rfl, hs⟩
          simp only [Hd.val, noHd]
          have T3 := Lib.hid (hs.keptAlloc (.cells #[.int .i64 0, .int .i64 0, .int .i64 0, .int .i64 0, .int .u8 0] 34))
          clear hs
          have hpl := T3.out.places o
          rw [HAT.out] at hpl
          go_wp2_with fail
          refine hpl.mono ?_
          rintro e v3 ⟨A7, p7, rfl, hs, _⟩
          have T4 := Lib.hid hs.swap.drop
          clear hs hpl
          by_cases h0 : c.live.length = 0
          · have h0' : (c.live.length : Int) ≤ 0 := by omega
            clear h0
            go_wp2
            go_roundw
            case rel => exact ⟨k + 1, by omega, by go_num, T4.out⟩
            case measure => simp [intOf]; omega
          · have hjl : 0 < c.live.length := by omega
            obtain ⟨y, hy⟩ : ∃ y, c.live[0]? = some y := ⟨_, List.getElem?_eq_getElem hjl⟩
            have hpos : (0 : Int) < c.live.length := by omega
            obtain ⟨b2, o3, rfl, hc2⟩ := (own_reads T4.out.drop.drop.drop.row).resolve_left (by intro e; rw [flatH_nil.1 e] at hjl; exact Nat.not_lt_zero _ hjl)
            obtain ⟨g0, _⟩ := hd_cells (Kept.refl [] v3) hc2 hy
            simp only [Nat.zero_mul, Nat.add_zero] at g0
            have hd := derive_who (t := bd) (S2.out.ok.get_mem (List.mem_of_getElem? hy)) HOB.out
            have HD := Lib.hid hd
            clear h0 hc2 hy hd
            go_wp2_with fail
            refine (T4.out.derive' y.serial o bd HD.out.1 HD.out.2).mono ?_
            rintro e v4 ⟨rfl, hs⟩
            have T5 := Lib.hid hs
            clear hs
            go_wp2
            go_roundw
            case rel => exact ⟨k + 1, by omega, by go_num, T5.out⟩
            case measure => simp [intOf]; omega
        · have hge2 : (2 : Int) ≤ k := by omega
          clear hlt hk
          have U0 := Lib.hid hS
          clear hS
          have HR1 := Lib.hid (root_bad (c := c) (p := o1) (o := 0) (t := bd) (.inl (by omega)))
          have HR2 := Lib.hid (root_bad (c := c) (p := r2) (o := 0) (t := bd) (.inl (by omega)))
          have HR3 := Lib.hid (root_bits (c := c) (p := 0) (o := 0) (t := bd) (by simp [holds]) hbd1)
          go_wp2_with fail
          refine (U0.out.root' o1 0 bd HR1.out.1 HR1.out.2).mono ?_
          rintro e u1 ⟨rfl, hs⟩
          have U1 := Lib.hid hs
          clear hs
          go_wp2_with fail
          refine (U1.out.root' r2 0 bd HR2.out.1 HR2.out.2).mono ?_
          rintro e u2 ⟨rfl, hs⟩
          have U2 := Lib.hid hs
          clear hs
          go_wp2_with fail
          refine (U2.out.root' 0 0 bd HR3.out.1 HR3.out.2).mono ?_
          rintro e u3 ⟨rfl, hs⟩
          have U3 := Lib.hid hs
          clear hs
          by_cases h0 : c.live.length = 0
          · have h0' : (c.live.length : Int) ≤ 0 := by omega
            have US := U3
            clear h0
            have V0 := Lib.hid (US.out.alloc1 3 #[.int .i64 k1, .int .i64 k2])
            go_wp2
            generalize hWV : World.alloc _ (.cells #[.int .i64 k1, .int .i64 k2] 3) = WV at *
            clear hWV
            have hdz : decide (0 < c.live.length) = false := decide_eq_false (by omega)
            simp only [hdz]
            go_loopw [244] (fun i wz => ∃ k : Nat, k ≤ 2 ∧ i = .int .i64 k ∧ wz = WV) (fun i _ => 2 - (intOf i).toNat)
            case atStart => exact ⟨0, by omega, rfl, rfl⟩
            case round =>
              obtain ⟨k, hk, rfl, rfl⟩ := hrel
              by_cases hlt : k < 2
              · obtain ⟨kk, hsv, hkb⟩ : ∃ o : Int, (#[Value.int .i64 k1, Value.int .i64 k2])[k]? = some (.int .i64 o) ∧ (o < 1 ∨ 281474976710656 < o) := by
                  match k, hlt with
                  | 0, _ => exact ⟨k1, rfl, by omega⟩
                  | 1, _ => exact ⟨k2, rfl, by omega⟩
                have c0 := V0.out.blk1.cell k
                rw [hsv] at c0
                have HKB := Lib.hid hkb
                clear hsv hkb
                go_wp2_with fail
                refine (new_bad HKB.out).mono ?_
                rintro e x1 ⟨rfl, rfl⟩
                go_wp2
                go_roundw
                case rel => exact ⟨k + 1, by omega, by go_num, by first | trivial | rfl⟩
                case measure => simp [intOf]; omega
              · obtain rfl : k = 2 := by omega
                go_wp2_with fail
                refine V0.out.all.mono ?_
                rintro e x1 ⟨A9, p9, rfl, hs⟩
                have V1 := Lib.hid hs
                clear hs
                go_wp2_with fail
                refine (sameH (own_reads V1.out.drop.row) (own_reads V1.out.drop.drop.drop.drop.drop.row) (by omega)).mono ?_
                rintro e x2 ⟨rfl, hk9⟩
                have V2 := Lib.hid (V1.out.kept hk9)
                clear hk9
                go_wp2_with fail
                refine V2.out.next.mono ?_
                rintro e x3 ⟨rfl, rfl⟩
                go_wp2
                go_ret
                exact ⟨by simp, V2.out.whole⟩
          · have hjl : q % c.live.length < c.live.length := Nat.mod_lt _ (by omega)
            obtain ⟨y, hy⟩ : ∃ y, c.live[q % c.live.length]? = some y := ⟨_, List.getElem?_eq_getElem hjl⟩
            have hym := List.mem_of_getElem? hy
            have hjj : (q : Int) % (c.live.length : Int) = ((q % c.live.length : Nat) : Int) := by omega
            have hpos : (0 : Int) < c.live.length := by omega
            have hd0 : ((c.live.length : Int) == 0) = false := by simp; intro e; rw [e] at h0; exact h0 rfl
            generalize q % c.live.length = j at *
            have hjl' : (j : Int) < c.live.length := by omega
            obtain ⟨b2, o3, rfl, hc2⟩ := (own_reads U3.out.drop.drop.drop.row).resolve_left (by intro e; rw [flatH_nil.1 e] at hjl; exact Nat.not_lt_zero _ hjl)
            obtain ⟨g0, g1, g2, g3, g4⟩ := hd_cells (Kept.refl [] u3) hc2 hy
            have U4 := Lib.hid (U3.out.alloc1 34 #[.int .i64 y.serial, .int .i64 y.parent, .int .i64 y.port, .int .i64 y.holder, .int .u8 (y.rights : Int)])
            have hg := S2.out.ok.get_mem hym
            have HD := Lib.hid (derive_bad (to := 0) hg (by decide) (hand_bad (f := y.rights) hbd1) (by decide))
            have hyr := S2.out.ok.rts y hym
            have hma := more_all ⟨y.rights, by omega⟩
            have HG := Lib.hid hg
            have HMA := Lib.hid hma
            clear h0 hc2 hy hym hg hma
            go_wp2_with fail
            refine (U4.out.derive' y.serial 0 bd HD.out.1 HD.out.2).mono ?_
            rintro e u4 ⟨rfl, hs⟩
            have bh := hs.blk1
            have e0 := bh.cell 0
            have e4 := bh.cell 4
            have U5 := Lib.hid hs
            clear hs bh
            by_cases hm : (bits .andNot .u8 15 (y.rights : Int) == 0) = true
            · have hm2 : (bits .andNot .u8 15 (y.rights : Int) != 0) = false := by simp only [bne, hm]; rfl
              have US := U5
              clear hm
              have V0 := Lib.hid (US.out.alloc1 3 #[.int .i64 k1, .int .i64 k2])
              go_wp2
              generalize hWV : World.alloc _ (.cells #[.int .i64 k1, .int .i64 k2] 3) = WV at *
              clear hWV
              go_loopw [244] (fun i wz => ∃ k : Nat, k ≤ 2 ∧ i = .int .i64 k ∧ wz = WV) (fun i _ => 2 - (intOf i).toNat)
              case atStart => exact ⟨0, by omega, rfl, rfl⟩
              case round =>
                obtain ⟨k, hk, rfl, rfl⟩ := hrel
                by_cases hlt : k < 2
                · obtain ⟨kk, hsv, hkb⟩ : ∃ o : Int, (#[Value.int .i64 k1, Value.int .i64 k2])[k]? = some (.int .i64 o) ∧ (o < 1 ∨ 281474976710656 < o) := by
                    match k, hlt with
                    | 0, _ => exact ⟨k1, rfl, by omega⟩
                    | 1, _ => exact ⟨k2, rfl, by omega⟩
                  have c0 := V0.out.blk1.cell k
                  rw [hsv] at c0
                  have HKB := Lib.hid hkb
                  clear hsv hkb
                  go_wp2_with fail
                  refine (new_bad HKB.out).mono ?_
                  rintro e x1 ⟨rfl, rfl⟩
                  go_wp2
                  go_roundw
                  case rel => exact ⟨k + 1, by omega, by go_num, by first | trivial | rfl⟩
                  case measure => simp [intOf]; omega
                · obtain rfl : k = 2 := by omega
                  go_wp2_with fail
                  refine V0.out.all.mono ?_
                  rintro e x1 ⟨A9, p9, rfl, hs⟩
                  have V1 := Lib.hid hs
                  clear hs
                  go_wp2_with fail
                  refine (sameH (own_reads V1.out.drop.row) (own_reads V1.out.drop.drop.drop.drop.drop.drop.row) (by omega)).mono ?_
                  rintro e x2 ⟨rfl, hk9⟩
                  have V2 := Lib.hid (V1.out.kept hk9)
                  clear hk9
                  go_wp2_with fail
                  refine V2.out.next.mono ?_
                  rintro e x3 ⟨rfl, rfl⟩
                  go_wp2
                  go_ret
                  exact ⟨by simp, V2.out.whole⟩
            · have hm1 : (bits .andNot .u8 15 (y.rights : Int) == 0) = false := by simpa using hm
              have hm2 : (bits .andNot .u8 15 (y.rights : Int) != 0) = true := by simp only [bne, hm1]; rfl
              obtain ⟨hsub, h15⟩ := HMA.out hm1
              try simp only at hsub h15
              have hN : handN y.rights 15 = 221 := by
                rw [h15] at hsub
                unfold handN
                rw [if_neg (by omega)]
                have : sub 15 y.rights = false := hsub
                simp [this]
              have HD2 := Lib.hid (derive_bad (to := 0) HG.out (by decide) hN (by decide))
              clear hm hm1 hsub hN
              go_wp2_with fail
              refine (U5.out.derive' y.serial 0 15 HD2.out.1 HD2.out.2).mono ?_
              rintro e u5 ⟨rfl, hs⟩
              have US := Lib.hid hs
              clear hs
              have V0 := Lib.hid (US.out.alloc1 3 #[.int .i64 k1, .int .i64 k2])
              go_wp2
              generalize hWV : World.alloc _ (.cells #[.int .i64 k1, .int .i64 k2] 3) = WV at *
              clear hWV
              go_loopw [244] (fun i wz => ∃ k : Nat, k ≤ 2 ∧ i = .int .i64 k ∧ wz = WV) (fun i _ => 2 - (intOf i).toNat)
              case atStart => exact ⟨0, by omega, rfl, rfl⟩
              case round =>
                obtain ⟨k, hk, rfl, rfl⟩ := hrel
                by_cases hlt : k < 2
                · obtain ⟨kk, hsv, hkb⟩ : ∃ o : Int, (#[Value.int .i64 k1, Value.int .i64 k2])[k]? = some (.int .i64 o) ∧ (o < 1 ∨ 281474976710656 < o) := by
                    match k, hlt with
                    | 0, _ => exact ⟨k1, rfl, by omega⟩
                    | 1, _ => exact ⟨k2, rfl, by omega⟩
                  have c0 := V0.out.blk1.cell k
                  rw [hsv] at c0
                  have HKB := Lib.hid hkb
                  clear hsv hkb
                  go_wp2_with fail
                  refine (new_bad HKB.out).mono ?_
                  rintro e x1 ⟨rfl, rfl⟩
                  go_wp2
                  go_roundw
                  case rel => exact ⟨k + 1, by omega, by go_num, by first | trivial | rfl⟩
                  case measure => simp [intOf]; omega
                · obtain rfl : k = 2 := by omega
                  go_wp2_with fail
                  refine V0.out.all.mono ?_
                  rintro e x1 ⟨A9, p9, rfl, hs⟩
                  have V1 := Lib.hid hs
                  clear hs
                  go_wp2_with fail
                  refine (sameH (own_reads V1.out.drop.row) (own_reads V1.out.drop.drop.drop.drop.drop.drop.row) (by omega)).mono ?_
                  rintro e x2 ⟨rfl, hk9⟩
                  have V2 := Lib.hid (V1.out.kept hk9)
                  clear hk9
                  go_wp2_with fail
                  refine V2.out.next.mono ?_
                  rintro e x3 ⟨rfl, rfl⟩
                  go_wp2
                  go_ret
                  exact ⟨by simp, V2.out.whole⟩
end Go.Proofs.Ytmndckeohfcgkaa
