/- The walk of CapsCopies. -/
import Derived.Test.YtmndckeohfcgkaaAwake
import Derived.Test.YtmndckeohfcgkaaArgs
namespace Go.Proofs.Ytmndckeohfcgkaa
open Go.RowKit
theorem sameH {w : World} {A B : Option Addr} {c d : Nat} {xs : List Hd} (hA : Reads w A (flatH xs)) (hB : Reads w B (flatH xs)) (hx : xs.length ≤ 1024) :
    Calls Try.prog 19 #[.slice A xs.length c, .slice B xs.length d] w fun e w' => e = .returned (.bool true) ∧ Kept [] w w' := by
  refine (equal19 hA hB (by unfold maxLen; omega) (by unfold maxLen; omega)).mono ?_
  rintro e w' ⟨rfl, h⟩
  exact ⟨by simp, h⟩
theorem at_add {c : CT} (ok : c.ok) {h : Hd} (hh : h.holder = 0) : ((c.add h).at 0).length = (c.at 0).length + 1 := by
  obtain ⟨l, hl⟩ : ∃ l, c.places[0]? = some l := ⟨_, List.getElem?_eq_getElem (by rw [ok.p17]; omega)⟩
  have e : holds 0 = true := by decide
  simp only [CT.at, CT.add, e, if_true, hh, Int.toNat_zero, modify_get, hl, Option.map_some, Option.getD_some, List.length_append, List.length_singleton]
set_option maxRecDepth 100000 in
set_option maxHeartbeats 4000000 in
theorem capsCopies_calls {w : World} {A : Option Addr} {cA : Nat} {l : List Sm} (hA : Reads w A (flatS l)) (lA : ∀ x ∈ l, x.ok) (nA : l.length ≤ maxLen) (kA : l.length ≤ cA) (x : Int) (wx : (Lit.int .u8 x).wf = true) :
    Calls Try.prog 10 #[.slice A l.length cA, .int .u8 x] w fun e w' => e = .returned (.bool true) ∧ Kept [] w w' := by
  have HA := Lib.hid hA
  have LA := Lib.hid lA
  have NA := Lib.hid nA
  have KA := Lib.hid kA
  obtain ⟨q, rfl⟩ : ∃ q : Nat, x = (q : Int) := ⟨x.toNat, by have := bounds_u8 wx; omega⟩
  have hq : (q : Int) < 256 := by have := bounds_u8 wx; omega
  clear hA lA nA kA wx
  go_enter Try.func10, Try.ntmps10
  go_wp2_with fail
  refine (awake_calls w).mono ?_
  rintro e w1 ⟨rfl, hk⟩
  have K1 := Lib.hid hk
  clear hk
  go_wp2_with fail
  refine (Made_calls ((St.nil w).kept K1.out) HA.out LA.out NA.out KA.out).mono ?_
  rintro e w2 ⟨a, rfl, hs, hf⟩
  generalize madeAll (newCT 100) (l.take 60) = c at hs hf
  have S2 := Lib.hid hs
  have FW := Lib.hid hf
  have few := hs.ok.few
  clear hs hf
  go_wp2_with fail
  refine S2.out.copy.mono ?_
  rintro e w3 ⟨b, rfl, hs⟩
  have S3 := Lib.hid hs
  clear hs
  go_wp2_with fail
  refine S3.out.all.mono ?_
  rintro e w4 ⟨A4, p4, rfl, hs⟩
  have S4 := Lib.hid hs.up3
  clear hs
  go_wp2_with fail
  refine S4.out.all.mono ?_
  rintro e w5 ⟨A5, p5, rfl, hs⟩
  have S5 := Lib.hid hs
  clear hs
  -- a, row5, b, row4
  go_wp2_with fail
  refine (sameH (own_reads S5.out.drop.drop.drop.row) (own_reads S5.out.drop.row) (by omega)).mono ?_
  rintro e w6 ⟨rfl, hk⟩
  have S6 := Lib.hid (S5.out.kept hk).up3
  clear hk
  -- b, a, row5, row4
  go_wp2_with fail
  refine S6.out.next.mono ?_
  rintro e w' ⟨rfl, rfl⟩
  go_wp2_with fail
  refine S6.out.swap.next.mono ?_
  rintro e w' ⟨rfl, rfl⟩
  go_wp2_with fail
  refine S6.out.swap.all.mono ?_
  rintro e w7 ⟨A7, p7, rfl, hs⟩
  have S7 := Lib.hid hs
  clear hs
  -- a, all, b, ..
  go_wp2_with fail
  refine S7.out.next.mono ?_
  rintro e w' ⟨rfl, rfl⟩
  go_wp2_with fail
  refine (S7.out.places 0).mono ?_
  rintro e w8 ⟨A8, p8, rfl, hs, hp8⟩
  have S8 := Lib.hid hs.up4
  clear hs
  -- b, a, places, all
  have hr := rootRes_small FW.out (by omega) (p := 9) (o := 0) (t := 3) ⟨by omega, by omega⟩ ⟨by omega, by omega⟩ (by omega)
  have hat := at_add (c := c) S2.out.ok (h := ⟨0, 0, 9, 0, 3⟩) rfl
  have hmem : ∀ y ∈ c.live, y ∈ (c.add ⟨0, 0, 9, 0, 3⟩).live := fun y hy => List.mem_append_left _ hy
  have hnx : (c.add ⟨0, 0, 9, 0, 3⟩).next = c.next + 1 := rfl
  go_wp2_with fail
  refine (S8.out.root' 9 0 3 hr.1 hr.2).mono ?_
  rintro e w9 ⟨rfl, hs⟩
  generalize (c.add ⟨0, 0, 9, 0, 3⟩) = u at *
  have S9 := Lib.hid hs
  have HAT := Lib.hid hat
  have HMEM := Lib.hid hmem
  have HNX := Lib.hid hnx
  clear hs hr hat hmem hnx
  by_cases h0 : c.live.length = 0
  · have h0' : (c.live.length : Int) ≤ 0 := by omega
    have S10 := Lib.hid S9.out.swap
    have HNX2 := HNX
    have HAT2 := HAT
    clear h0
    have hS := S10.out
    have NX := HNX2.out
    have AT := HAT2.out
    go_wp2_with fail
    refine S10.out.all.mono ?_
    rintro e v1 ⟨B1, q1, rfl, hs⟩
    have T1 := Lib.hid hs
    clear hs hS
    go_wp2_with fail
    refine (sameH (own_reads T1.out.drop.row) (own_reads T1.out.drop.drop.drop.drop.row) (by omega)).mono ?_
    rintro e v2 ⟨rfl, hk⟩
    have T2 := Lib.hid (T1.out.kept hk)
    clear hk
    go_wp2_with fail
    refine T2.out.next.mono ?_
    rintro e w' ⟨rfl, rfl⟩
    go_wp2_with fail
    refine (T2.out.places 0).mono ?_
    rintro e v3 ⟨B3, q3, rfl, hs, hp3⟩
    have T3 := Lib.hid hs
    clear hs
    go_wp2_with fail
    refine (same34 (own_reads T3.out.drop.row) (own_reads T3.out.drop.drop.drop.drop.row) (by omega)).mono ?_
    rintro e v4 ⟨rfl, hk⟩
    have T4 := Lib.hid (T3.out.kept hk).up4
    clear hk
    have ok := T4.out.ok
    have hn1 := ok.n1
    have hn2 := ok.n2
    rw [NX] at hn2
    have hcn := S2.out.ok.n1
    clear ok
    go_wp2_with fail
    have hnext := T4.out.next
    rw [NX] at hnext
    refine hnext.mono ?_
    rintro e w' ⟨rfl, rfl⟩
    clear hnext
    go_wp2_with fail
    refine (T4.out.places 0).mono ?_
    rintro e v5 ⟨B5, q5, rfl, hs, hp5⟩
    rw [AT] at hs ⊢
    have T5 := Lib.hid hs
    clear hs
    go_wp2
    go_ret
    exact ⟨rfl, T5.out.whole⟩
  · have hjl : q % c.live.length < c.live.length := Nat.mod_lt _ (by omega)
    obtain ⟨y, hy⟩ : ∃ y, c.live[q % c.live.length]? = some y := ⟨_, List.getElem?_eq_getElem hjl⟩
    have hym := HMEM.out y (List.mem_of_getElem? hy)
    have hjj : (q : Int) % (c.live.length : Int) = ((q % c.live.length : Nat) : Int) := by omega
    have hpos : (0 : Int) < c.live.length := by omega
    have hd0 : ((c.live.length : Int) == 0) = false := by simp; intro e; rw [e] at h0; exact h0 rfl
    generalize q % c.live.length = j at *
    have hjl' : (j : Int) < c.live.length := by omega
    obtain ⟨b2, o2, rfl, hc2⟩ := (own_reads S9.out.drop.drop.drop.row).resolve_left (by intro e; rw [flatH_nil.1 e] at hjl; exact Nat.not_lt_zero _ hjl)
    obtain ⟨g0, _⟩ := hd_cells (Kept.refl [] w9) hc2 hy
    have hrev := S9.out.revoke y.serial
    have h2 : (u.belowRes y.serial).2 = 0 := by unfold CT.belowRes; rw [S9.out.ok.get_mem hym]
    rw [h2] at hrev
    have HREV := Lib.hid hrev
    clear hrev h2 hc2 hy hym h0
    go_wp2_with fail
    refine HREV.out.mono ?_
    rintro e w10 ⟨A10, p10, rfl, hs⟩
    have S10 := Lib.hid hs.swap.drop.swap
    have HNX2 : Hid ((u.revoke y.serial).next = c.next + 1) := HNX
    have HAT2 : Hid (((u.revoke y.serial).at 0).length = (c.at 0).length + 1) := HAT
    clear hs
    have hS := S10.out
    have NX := HNX2.out
    have AT := HAT2.out
    go_wp2_with fail
    refine S10.out.all.mono ?_
    rintro e v1 ⟨B1, q1, rfl, hs⟩
    have T1 := Lib.hid hs
    clear hs hS
    go_wp2_with fail
    refine (sameH (own_reads T1.out.drop.row) (own_reads T1.out.drop.drop.drop.drop.row) (by omega)).mono ?_
    rintro e v2 ⟨rfl, hk⟩
    have T2 := Lib.hid (T1.out.kept hk)
    clear hk
    go_wp2_with fail
    refine T2.out.next.mono ?_
    rintro e w' ⟨rfl, rfl⟩
    go_wp2_with fail
    refine (T2.out.places 0).mono ?_
    rintro e v3 ⟨B3, q3, rfl, hs, hp3⟩
    have T3 := Lib.hid hs
    clear hs
    go_wp2_with fail
    refine (same34 (own_reads T3.out.drop.row) (own_reads T3.out.drop.drop.drop.drop.row) (by omega)).mono ?_
    rintro e v4 ⟨rfl, hk⟩
    have T4 := Lib.hid (T3.out.kept hk).up4
    clear hk
    have ok := T4.out.ok
    have hn1 := ok.n1
    have hn2 := ok.n2
    rw [NX] at hn2
    have hcn := S2.out.ok.n1
    clear ok
    go_wp2_with fail
    have hnext := T4.out.next
    rw [NX] at hnext
    refine hnext.mono ?_
    rintro e w' ⟨rfl, rfl⟩
    clear hnext
    go_wp2_with fail
    refine (T4.out.places 0).mono ?_
    rintro e v5 ⟨B5, q5, rfl, hs, hp5⟩
    rw [AT] at hs ⊢
    have T5 := Lib.hid hs
    clear hs
    go_wp2
    go_ret
    exact ⟨rfl, T5.out.whole⟩
end Go.Proofs.Ytmndckeohfcgkaa
