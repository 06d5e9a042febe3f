/- The walk of CapsRevoke. -/
import Derived.Test.YtmndckeohfcgkaaMore
namespace Go.Proofs.Ytmndckeohfcgkaa
open Go.RowKit
def restOf (l : List Hd) (cut : List Int) : List Hd := l.filter fun h => !cut.contains h.serial
theorem get_minus {c : CT} (ok : c.ok) {cut : List Int} {h : Hd} (hh : h ∈ c.live) : (c.minus cut).getRes h.serial = if cut.contains h.serial then (noHd, 6) else (h, 0) := by
  unfold CT.getRes
  cases hc : cut.contains h.serial with
  | true =>
    have : (c.minus cut).get h.serial = none := by
      cases e : (c.minus cut).get h.serial with
      | none => rfl
      | some y =>
        obtain ⟨h1, h2⟩ := get_some e
        have := (mem_minus.1 h1).2
        rw [h2] at this
        exact absurd (by simpa using hc) this
    rw [this]
    simp
  | false =>
    have hm : h ∈ (c.minus cut).live := mem_minus.2 ⟨hh, by simpa using hc⟩
    have ok2 : (c.minus cut).get h.serial = some h := by
      cases e : (c.minus cut).get h.serial with
      | none => exact absurd rfl (get_none e h hm)
      | some y =>
        obtain ⟨h1, h2⟩ := get_some e
        rw [ok.tree.uniq (mem_minus.1 h1).1 hh h2]
    rw [ok2]
    simp
theorem get_gone {c : CT} {s : Int} {cut : List Int} (hs : s ∈ cut) : (c.minus cut).get s = none := by
  cases e : (c.minus cut).get s with
  | none => rfl
  | some y =>
    obtain ⟨h1, h2⟩ := get_some e
    exact absurd (h2 ▸ hs) (mem_minus.1 h1).2
set_option maxRecDepth 100000 in
set_option maxHeartbeats 4000000 in
theorem capsRevoke_calls {w : World} {A : Option Addr} {cA : Nat} {l : List Sm} (hA : Reads w A (flatS l)) (lA : ∀ x ∈ l, x.ok) (nA : l.length ≤ maxLen) (kA : l.length ≤ cA) (x : Int) (wx : (Lit.int .u8 x).wf = true) :
    Calls Try.prog 7 #[.slice A l.length cA, .int .u8 x] w fun e w' => e = .returned (.bool true) ∧ Kept [] w w' := by
  have HA := Lib.hid hA
  have LA := Lib.hid lA
  have NA := Lib.hid nA
  have KA := Lib.hid kA
  obtain ⟨q, rfl⟩ : ∃ q : Nat, x = (q : Int) := ⟨x.toNat, by have := bounds_u8 wx; omega⟩
  have hq : (q : Int) < 256 := by have := bounds_u8 wx; omega
  obtain ⟨i0, hi, hz0, hz1, hz2⟩ := info_parts info34'
  clear hA lA nA kA wx
  go_enter Try.func7, Try.ntmps7
  go_wp2_with fail
  refine (awake_calls w).mono ?_
  rintro e w1 ⟨rfl, hk⟩
  have K1 := Lib.hid hk
  clear hk
  go_wp2_with fail
  refine (Made_calls ((St.nil w).kept K1.out) HA.out LA.out NA.out KA.out).mono ?_
  rintro e w2 ⟨a, rfl, hs, hf⟩
  generalize madeAll (newCT 100) (l.take 60) = c at hs hf
  have S2 := Lib.hid hs
  have few := hs.ok.few
  clear hs hf
  go_wp2_with fail
  refine S2.out.all.mono ?_
  rintro e w3 ⟨A3, p3, rfl, hs⟩
  have S3 := Lib.hid hs
  clear hs
  by_cases h0 : c.live.length = 0
  · have h0' : ((c.live.length : Int) == 0) = true := by rw [h0]; rfl
    go_wp2_with fail
    refine S3.out.len.mono ?_
    rintro e w' ⟨rfl, rfl⟩
    clear h0
    go_wp2
    go_ret
    exact ⟨rfl, S3.out.whole⟩
  · have hjl : q % c.live.length < c.live.length := Nat.mod_lt _ (by omega)
    obtain ⟨y, hy⟩ : ∃ y, c.live[q % c.live.length]? = some y := ⟨_, List.getElem?_eq_getElem hjl⟩
    have hym := List.mem_of_getElem? hy
    have hjj : (q : Int) % (c.live.length : Int) = ((q % c.live.length : Nat) : Int) := by omega
    have hd0 : ((c.live.length : Int) == 0) = false := by simp; intro e; rw [e] at h0; exact h0 rfl
    generalize q % c.live.length = j at *
    have hjl' : (j : Int) < c.live.length := by omega
    obtain ⟨b2, o2, rfl, hc2⟩ := (own_reads S3.out.drop.row).resolve_left (by intro e; rw [flatH_nil.1 e] at hjl; exact Nat.not_lt_zero _ hjl)
    obtain ⟨g0, _⟩ := hd_cells (Kept.refl [] w3) hc2 hy
    have hbr : c.belowRes y.serial = (below c.live y.serial, 0) := by unfold CT.belowRes; rw [S2.out.ok.get_mem hym]
    have hB := S3.out.below' y.serial hbr
    have HB := Lib.hid hB
    have HBR := Lib.hid hbr
    have HYM := Lib.hid hym
    have hble := S2.out.ok.below_le y.serial
    clear hc2 hy hym h0 hB hbr
    go_wp2_with fail
    refine HB.out.mono ?_
    rintro e w4 ⟨A4, p4, rfl, hs⟩
    have S4 := Lib.hid hs
    clear hs
    go_wp2_with fail
    refine S4.out.next.mono ?_
    rintro e w' ⟨rfl, rfl⟩
    go_wp2_with fail
    refine (S4.out.revoke' y.serial (c' := c.minus (below c.live y.serial)) HBR.out (by unfold CT.revoke; rw [HBR.out])).mono ?_
    rintro e w5 ⟨A5, p5, rfl, hs⟩
    have S5 := Lib.hid hs
    clear hs
    -- tab, cut, below, all
    go_wp2_with fail
    refine (same34 (own_reads S5.out.drop.drop.row) (own_reads S5.out.drop.row) (by omega)).mono ?_
    rintro e w6 ⟨rfl, hk⟩
    have S6 := Lib.hid (S5.out.kept hk)
    clear hk
    have hsrt : (below c.live y.serial).Pairwise (· ≤ ·) := by
      have : (c.live.map (·.serial)).Pairwise (fun a b => a ≤ b) := by
        rw [List.pairwise_map]
        exact S2.out.ok.asc.imp fun h => by omega
      exact this.sublist (below_sub c.live y.serial)
    have HSRT := Lib.hid hsrt
    clear hsrt
    go_wp2_with fail
    refine (sorted18 (own_reads S6.out.drop.row) (by omega) HSRT.out).mono ?_
    rintro e w7 ⟨rfl, hk⟩
    have S7 := Lib.hid (S6.out.kept hk)
    clear hk
    have hmn : (c.minus (below c.live y.serial)).next = c.next := rfl
    have hnx := S7.out.next
    rw [hmn] at hnx
    go_wp2_with fail
    refine hnx.mono ?_
    rintro e w' ⟨rfl, rfl⟩
    clear hnx hmn
    have S8 := Lib.hid (((S7.out.rowNil 34 5).swap))
    -- tab, rest, cut, below, all
    generalize hcut : below c.live y.serial = cut at *
    have HCUT := Lib.hid hcut
    clear hcut
    go_wp2
    go_loopw [14, 87] (fun o i wr => ∃ (k : Nat) (R : Option Addr) (rp : Nat), k ≤ c.live.length ∧ i = .int .i64 k ∧ o = .slice R (restOf (c.live.take k) cut).length rp ∧
      St w wr [.tab a (c.minus cut), .row (.slice R (restOf (c.live.take k) cut).length rp) 34 5 (restOf (c.live.take k) cut).length (flatH (restOf (c.live.take k) cut)), .row (.slice A5 cut.length p5) 3 1 cut.length (cut.map intV), .row (.slice A4 cut.length p4) 3 1 cut.length (cut.map intV), .row (.slice (some ⟨b2, o2, none⟩) c.live.length p3) 34 5 c.live.length (flatH c.live)]) (fun _ i _ => c.live.length - (intOf i).toNat)
    case atStart => exact ⟨0, none, 0, Nat.zero_le _, rfl, rfl, S8.out⟩
    case round =>
      obtain ⟨k, R, rp, hk, rfl, rfl, hS⟩ := hrel
      by_cases hlt : k < c.live.length
      · obtain ⟨h, hh⟩ : ∃ h, c.live[k]? = some h := ⟨_, List.getElem?_eq_getElem hlt⟩
        have hhm := List.mem_of_getElem? hh
        obtain ⟨b3, o3, hbe, hc3⟩ := (own_reads hS.drop.drop.drop.drop.row).resolve_left (by intro e; rw [flatH_nil.1 e] at hlt; exact Nat.not_lt_zero _ hlt)
        simp only [Option.some.injEq, Addr.mk.injEq, and_true] at hbe
        obtain ⟨rfl, rfl⟩ := hbe
        obtain ⟨f0, f1, f2, f3, f4⟩ := hd_cells (Kept.refl [] wr) hc3 hh
        have hS1 := hS.alloc1 34 #[.int .i64 h.serial, .int .i64 h.parent, .int .i64 h.port, .int .i64 h.holder, .int .u8 (h.rights : Int)]
        have hab := above35 (cp := p3) (own_reads hS1.drop.drop.drop.drop.drop.row) S2.out.ok.few S2.out.ok.tree ⟨y, HYM.out, rfl⟩ hhm
        rw [HCUT.out] at hab
        simp only [Hd.val] at hab
        have hgm := get_minus S2.out.ok (cut := cut) hhm
        have hrl : (restOf (c.live.take k) cut).length ≤ 256 := by
          have := List.length_filter_le (fun h : Hd => !cut.contains h.serial) (c.live.take k)
          rw [List.length_take] at this
          unfold restOf
          omega
        have hrs : restOf (c.live.take (k + 1)) cut = restOf (c.live.take k) cut ++ (if cut.contains h.serial then [] else [h]) := by
          unfold restOf
          rw [List.take_add_one, hh, List.filter_append, Option.toList_some, List.filter_cons, List.filter_nil]
          cases cut.contains h.serial <;> rfl
        have hfr := hS1.blk1.lt
        obtain ⟨ct, hct⟩ : ∃ ct, cut.contains h.serial = ct := ⟨_, rfl⟩
        have hcn : ∀ W, Reads W A5 (cut.map intV) → Calls Try.prog 16 #[.slice A5 cut.length p5, .int .i64 h.serial] W fun e w' => e = .returned (.bool ct) ∧ W = w' := fun W hW => by
          have := contains16 (cp := p5) (x := h.serial) hW (by omega)
          rwa [hct] at this
        rw [hct] at hab hgm hrs
        have T1 := Lib.hid hS1
        have HAB := Lib.hid hab
        have HGM := Lib.hid hgm
        have HRS := Lib.hid hrs
        have HCN := Lib.hid hcn
        clear hS hS1 hab hgm hrs hc3 hh hhm hcn hct
        cases ct with
        | true =>
          go_wp2_with fail
          refine HAB.out.mono ?_
          rintro e v1 ⟨rfl, hk1⟩
          have T2 := Lib.hid (T1.out.kept hk1)
          have d0 := (T1.out.kept hk1).blk1.cell 0
          clear hk1
          go_wp2_with fail
          refine (HCN.out _ (own_reads T2.out.drop.drop.drop.row)).mono ?_
          rintro e v' ⟨rfl, rfl⟩
          have hget := T2.out.get h.serial
          rw [HGM.out] at hget
          simp only [if_true, Hd.val, noHd] at hget
          have HGET := Lib.hid hget
          clear hget
          go_wp2_with fail
          refine HGET.out.mono ?_
          rintro e v2 ⟨rfl, hs⟩
          have T3 := Lib.hid (hs.keptAlloc (.cells #[.int .i64 0, .int .i64 0, .int .i64 0, .int .i64 0, .int .u8 0] 34))
          clear hs
          go_wp2
          go_roundw
          case rel => exact ⟨k + 1, R, rp, by omega, by go_num, by rw [HRS.out]; simp, by rw [HRS.out]; simpa using T3.out.swap.drop⟩
          case measure => simp [intOf]; omega
        | false =>
          go_wp2_with fail
          refine HAB.out.mono ?_
          rintro e v1 ⟨rfl, hk1⟩
          have T2 := Lib.hid (T1.out.kept hk1)
          have d0 := (T1.out.kept hk1).blk1.cell 0
          clear hk1
          go_wp2_with fail
          refine (HCN.out _ (own_reads T2.out.drop.drop.drop.row)).mono ?_
          rintro e v' ⟨rfl, rfl⟩
          have hget := T2.out.get h.serial
          rw [HGM.out] at hget
          simp only [Bool.false_eq_true, if_false, Hd.val] at hget
          have HGET := Lib.hid hget
          clear hget
          go_wp2_with fail
          refine HGET.out.mono ?_
          rintro e v2 ⟨rfl, hs⟩
          have bh := hs.blk1
          have e0 := bh.cell 0
          have e1 := bh.cell 1
          have e2 := bh.cell 2
          have e3 := bh.cell 3
          have e4 := bh.cell 4
          have el := bh.lt
          have hT4 := ((hs.keptAlloc (.cells #[.int .i64 h.serial, .int .i64 h.parent, .int .i64 h.port, .int .i64 h.holder, .int .u8 (h.rights : Int)] 34)).keptAlloc (.cells #[.int .i64 h.serial, .int .i64 h.parent, .int .i64 h.port, .int .i64 h.holder, .int .u8 (h.rights : Int)] 34)).up3
          have hcn := cell_row_new (v2.alloc (.cells #[.int .i64 h.serial, .int .i64 h.parent, .int .i64 h.port, .int .i64 h.holder, .int .u8 (h.rights : Int)] 34)) h.cells 34
          rw [World.size_alloc] at hcn
          have T4 := Lib.hid hT4
          have HCELL := Lib.hid hcn
          clear hs bh hT4 hcn
          go_wp2_with (at_builtin
                       refine wpList_append_own_at _ rfl _ _ 28 rfl 0 34 i0 (.agg #[.int .i64 0, .int .i64 0, .int .i64 0, .int .i64 0, .int .u8 0]) 5 40 Try.underlying28 hi hz0 hz1 hz2 rfl (by decide) (.slice R (restOf (c.live.take k) cut).length rp) (restOf (c.live.take k) cut).length (flatH (restOf (c.live.take k) cut)) rfl T4.out.row ⟨v2.heap.size + 1, 0, none⟩ 1 1 h.cells rfl rfl HCELL.out (by simp [Hd.cells, Value.oneCell']) (by unfold maxLen; omega) (by omega) (Nat.zero_le _) ?_
                       intro v' w9 hown' hgrow hnil hloc
                       have hT5 := T4.out.append hgrow hown' hloc
                       obtain ⟨R2, rp2, rfl⟩ := own_slice hown'
                       have T5 := Lib.hid hT5
                       clear hown' hgrow hnil hloc hT5)
          go_roundw
          case rel =>
            have e1 : restOf (c.live.take (k + 1)) cut = restOf (c.live.take k) cut ++ [h] := by rw [HRS.out]; rfl
            have e2 : flatH (restOf (c.live.take k) cut ++ [h]) = flatH (restOf (c.live.take k) cut) ++ h.cells := by simp [flatH]
            refine ⟨k + 1, R2, rp2, by omega, by go_num, by rw [e1]; simp, ?_⟩
            rw [e1, e2]
            simp only [List.length_append, List.length_singleton]
            exact T5.out.up3.drop.swap
          case measure => simp [intOf]; omega
      · obtain rfl : k = c.live.length := by omega
        rw [List.take_length] at hS ⊢
        have T1 := Lib.hid hS
        have hrl : (restOf c.live cut).length ≤ 256 := by
          have := List.length_filter_le (fun h : Hd => !cut.contains h.serial) c.live
          unfold restOf
          omega
        have hin : y.serial ∈ cut := by
          rw [← HCUT.out, mem_below S2.out.ok.tree]
          exact ⟨⟨y, HYM.out, rfl⟩, .self, y, HYM.out, rfl⟩
        have hgn := get_gone (c := c) hin
        have hbr : (c.minus cut).belowRes y.serial = ([], 6) := by unfold CT.belowRes; rw [hgn]
        have hrv : (c.minus cut).revoke y.serial = c.minus cut := by unfold CT.revoke; rw [hbr]; exact minus_nil _
        have hdr : (c.minus cut).deriveRes y.serial 0 0 = (0, 6) := by unfold CT.deriveRes; rw [hgn]
        have hdv : (c.minus cut).derive y.serial 0 0 = c.minus cut := by unfold CT.derive; rw [hdr]; rfl
        have hlv : (c.minus cut).live = restOf c.live cut := rfl
        have G1 := Lib.hid hbr
        have G2 := Lib.hid hrv
        have G3 := Lib.hid hdr
        have G4 := Lib.hid hdv
        clear hS hin hgn hbr hrv hdr hdv
        go_wp2_with fail
        refine (T1.out.revoke' y.serial G1.out G2.out).mono ?_
        rintro e v1 ⟨A9, p9, rfl, hs⟩
        have T2 := Lib.hid hs.swap.drop
        clear hs
        go_wp2_with fail
        refine (T2.out.derive' y.serial 0 0 G3.out G4.out).mono ?_
        rintro e v2 ⟨rfl, hs⟩
        have T3 := Lib.hid hs
        clear hs
        go_wp2_with fail
        have hal := T3.out.all
        rw [hlv] at hal
        refine hal.mono ?_
        rintro e v3 ⟨B3, q3, rfl, hs⟩
        have T4 := Lib.hid hs
        clear hs hal
        go_wp2_with fail
        refine (sameH (own_reads T4.out.drop.row) (own_reads T4.out.drop.drop.row) (by omega)).mono ?_
        rintro e v4 ⟨rfl, hk9⟩
        have T5 := Lib.hid (T4.out.kept hk9)
        clear hk9
        go_wp2_with fail
        have hln := T5.out.len
        rw [hlv] at hln
        refine hln.mono ?_
        rintro e v' ⟨rfl, rfl⟩
        clear hln hlv
        go_wp2
        go_ret
        exact ⟨rfl, T5.out.whole⟩
end Go.Proofs.Ytmndckeohfcgkaa
