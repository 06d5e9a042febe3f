/- The walk of CellsAlone. -/
import Derived.Test.YtlfaoibgmbbacaaMore
namespace Go.Proofs.Ytlfaoibgmbbacaa
open Go.RowKit

def planOf : List Nat := [2, 3, 0, 4]
theorem planOf_at {n : List (List Int)} (h : Four n) {q : Nat} (hq : q < 4) : ∃ xs, n[q]? = some xs ∧ planOf[q]? = some xs.length := by
  have hl : n.length = 4 := by have := congrArg List.length h; simpa [lens] using this
  refine ⟨n[q], List.getElem?_eq_getElem (by omega), ?_⟩
  have h' : lens n = planOf := h
  rw [← h']
  simp [lens, List.getElem?_eq_getElem (show q < n.length by omega)]
theorem planOf_cell {q len : Nat} (h : planOf[q]? = some len) : (([2, 3, 0, 4] : List Int).map numV)[q]? = some (.int .i64 (len : Int)) := by
  match q with
  | 0 | 1 | 2 | 3 => simp [planOf] at h; subst h; rfl
  | n + 4 => simp [planOf] at h
theorem planOf_sum (k : Nat) : (planOf.take k).sum ≤ 9 := by
  match k with
  | 0 | 1 | 2 | 3 => decide
  | n + 4 => simp [planOf]
theorem planOf_next {k len : Nat} (h : planOf[k]? = some len) : (planOf.take (k + 1)).sum = (planOf.take k).sum + len := by
  rw [List.take_add_one, h]
  simp
theorem planOf_in {q j len : Nat} (h : planOf[q]? = some len) (hj : j < len) : (planOf.take q).sum + j < 9 := by
  match q with
  | 0 | 1 | 2 | 3 => simp [planOf] at h ⊢; omega
  | n + 4 => simp [planOf] at h

set_option maxRecDepth 100000 in
set_option maxHeartbeats 4000000 in
theorem cellsAlone_calls {w : World} {A : Option Addr} {cA : Nat} {l : List Sm} (hA : Reads w A (flatS l)) (lA : ∀ x ∈ l, x.ok) (nA : l.length ≤ maxLen) (kA : l.length ≤ cA)
    (x1 : Int) (w1 : Lit.wf (.int .u8 x1) = true) (x2 : Int) (w2 : Lit.wf (.int .u8 x2) = true) (v : Int) (w3 : Lit.wf (.int .i64 v) = true) :
    Calls Try.prog 5 #[.slice A l.length cA, .int .u8 x1, .int .u8 x2, .int .i64 v] w fun e w' => e = .returned (.bool true) ∧ Kept [] w w' := by
  simp [Lit.wf, IntKind.min, IntKind.max, IntKind.signed, IntKind.bits] at w1 w2
  obtain ⟨n1, rfl⟩ : ∃ n : Nat, x1 = n := ⟨x1.toNat, by omega⟩
  obtain ⟨n2, rfl⟩ : ∃ n : Nat, x2 = n := ⟨x2.toNat, by omega⟩
  obtain ⟨q, hq, hq5⟩ : ∃ q : Nat, (n1 : Int) % 5 = q ∧ q < 5 := ⟨n1 % 5, by omega, by omega⟩
  obtain ⟨j, hj, hj5⟩ : ∃ q : Nat, (n2 : Int) % 5 = q ∧ q < 5 := ⟨n2 % 5, by omega, by omega⟩
  have HA := Lib.hid hA
  have LA := Lib.hid lA
  have NA := Lib.hid nA
  have KA := Lib.hid kA
  have HQ := Lib.hid hq
  have HJ := Lib.hid hj
  clear hA lA nA kA hq hj
  go_enter Try.func5, Try.ntmps5
  go_wp2_with fail
  refine (awake_calls w).mono ?_
  rintro e w1 ⟨rfl, hk⟩
  have K1 := Lib.hid hk
  clear hk
  go_wp2_with fail
  refine (Made_calls w1).mono ?_
  rintro e w2 ⟨a, rfl, hs⟩
  have S0 : Hid (St w w2 [.mem a c0]) := hs.from K1.out
  clear hs
  go_wp2_with fail
  refine (do_calls S0.out c0_ok HA.out LA.out NA.out KA.out true 0).mono ?_
  rintro e w3 ⟨rfl, hs⟩
  have ok1 := doAll_ok c0_ok true 0 (l.take 60)
  generalize doAll true 0 c0 (l.take 60) = c1 at hs ok1
  have OK1 := Lib.hid ok1
  have S1 := Lib.hid hs
  clear hs ok1
  go_wp2_with fail
  refine (plan4 S1.out OK1.out.1).mono ?_
  rintro e w4 ⟨A1, p1, rfl, hs⟩
  have S2 := Lib.hid hs
  clear hs
  go_wp2_with fail
  refine (equal23 (own_reads (S2.out.alloc _).swap.row) (lit_reads w4 3 (([2, 3, 0, 4] : List Int).map numV)) (by decide) (by decide)).mono ?_
  rintro e w5 ⟨rfl, hk⟩
  have S3 := Lib.hid ((S2.out.alloc _).kept hk)
  clear hk
  go_wp2_with fail
  refine (all9 S3.out OK1.out.1).mono ?_
  rintro e w6 ⟨A2, p2, rfl, hs⟩
  have S4 := Lib.hid hs
  clear hs
  go_wp2_with fail
  generalize hqq : (n1 : Int) % 5 = qq at *
  obtain rfl := HQ.out
  generalize hjj : (n2 : Int) % 5 = jj at *
  obtain rfl := HJ.out
  have e9 : Hid (c1.now.flatten.length = 9) := Four.flat9 OK1.out.1
  have hn4 : c1.now.length = 4 := by have := congrArg List.length OK1.out.1; simpa [lens] using this
  have et : ((1 + (q : Int)) - 1).toNat = q := by omega
  clear hqq hjj HQ HJ K1 S0 S1 S2 S3
  by_cases hq4 : q = 4
  · subst hq4
    have hld : c1.load (1 + ((4 : Nat) : Int)) (j : Int) = (0, 211) := by
      unfold CM.load
      rw [if_pos (by omega)]
    refine (S4.out.store (1 + ((4 : Nat) : Int)) (j : Int) v hld (by unfold CM.store; rw [hld]; first | done | rfl)).mono ?_
    rintro e w7 ⟨rfl, hs⟩
    have S5 := Lib.hid hs
    clear hs hld hn4
    go_wp2_with fail
    refine (all9 S5.out OK1.out.1).mono ?_
    rintro e w8 ⟨A3, p3, rfl, hs⟩
    have S6 := Lib.hid hs
    clear hs
    go_wp2_with fail
    have Q := (equal18 (xs := c1.now.flatten) (ys := c1.now.flatten) (c := p2) (d := p3) (own_reads S6.out.drop.drop.row) (own_reads S6.out.swap.row) (by rw [e9.out]; decide) (by rw [e9.out]; decide))
    rw [e9.out] at Q
    refine Q.mono ?_
    rintro e w9 ⟨rfl, hk⟩
    have S7 := Lib.hid (S6.out.kept hk)
    have hd : decide (c1.now.flatten = c1.now.flatten) = true := by simp
    rw [hd]
    clear hk hd Q
    go_wp2
    go_ret
    exact ⟨rfl, S7.out.whole⟩
  · have hq4' : q < 4 := by omega
    obtain ⟨xs, hx, hp⟩ := planOf_at OK1.out.1 hq4'
    have HPC := Lib.hid (planOf_cell hp)
    by_cases hin : j < xs.length
    · obtain ⟨y, hy⟩ : ∃ y, xs[j]? = some y := ⟨_, List.getElem?_eq_getElem hin⟩
      have hlk : look c1.now (q, j) = y := by unfold look; simp only [hx, Option.getD_some, hy]
      have hld : c1.load (1 + (q : Int)) (j : Int) = (y, 0) := by
        unfold CM.load
        rw [if_neg (by omega)]
        simp only [et, hx, Option.getD_some]
        rw [if_neg (by omega)]
        simp only [Int.toNat_natCast, hlk]
      have hf2 : Four (put c1.now (q, j) v) := (lens_put _ _ _).trans OK1.out.1
      have hst : c1.store (1 + (q : Int)) (j : Int) v = ⟨put c1.now (q, j) v, c1.marks⟩ := by
        unfold CM.store
        rw [hld, if_pos rfl]
        simp only [et, Int.toNat_natCast]
      have hl : lens c1.now = planOf := OK1.out.1
      have hat : c1.now.flatten[(planOf.take q).sum + j]? = some y := by rw [← hl, flat_at hx hin, hy]
      have hput : (put c1.now (q, j) v).flatten = c1.now.flatten.set ((planOf.take q).sum + j) v := by rw [← hl]; exact flat_put v hx hin
      have hlt9 := planOf_in hp hin
      refine (S4.out.store (1 + (q : Int)) (j : Int) v hld hst).mono ?_
      rintro e w7 ⟨rfl, hs⟩
      have S5 := Lib.hid hs
      have LD : Hid (CM.load ⟨put c1.now (q, j) v, c1.marks⟩ (1 + (q : Int)) (j : Int) = (v, 0)) := by
        have hl2 : (put c1.now (q, j) v).length = c1.now.length := by simp [put]
        have hg : (put c1.now (q, j) v)[q]? = some (xs.set j v) := by simp [put, hx]
        unfold CM.load
        rw [if_neg (by rw [hl2]; omega)]
        simp only [et, hg, Option.getD_some, List.length_set]
        rw [if_neg (by omega)]
        simp only [Int.toNat_natCast, look, hg, Option.getD_some]
        rw [List.getElem?_set_self hin]
        rfl
      have F2 := Lib.hid hf2
      have HAT := Lib.hid hat
      have HPUT := Lib.hid hput
      clear hs hld hlk hst hl hat hput hf2
      go_wp2_with fail
      refine (all9 S5.out F2.out).mono ?_
      rintro e w8 ⟨A3, p3, rfl, hs⟩
      have S6 := Lib.hid hs
      clear hs
      obtain ⟨b1, r1, hv1, hc1', _⟩ := own_cell S6.out.drop.drop.drop.row HPC.out
      simp only [Value.slice.injEq, true_and] at hv1
      obtain ⟨rfl, rfl⟩ := hv1
      have hge : ¬ (xs.length : Int) ≤ (j : Int) := by omega
      have HP := Lib.hid hp
      clear hx hy hp
      go_wp2
      go_loopw [19, 94] (fun at_ i wr => ∃ k : Nat, k ≤ q ∧ i = .int .i64 k ∧ at_ = .int .i64 (((planOf.take k).sum + j : Nat) : Int) ∧
        St w wr [.mem a ⟨put c1.now (q, j) v, c1.marks⟩, .row (.slice A3 9 p3) 2 1 9 ((put c1.now (q, j) v).flatten.map numV), .row (.slice A2 9 p2) 2 1 9 (c1.now.flatten.map numV), .row (.slice (some ⟨b1, 0, none⟩) 4 p1) 3 1 4 (([2, 3, 0, 4] : List Int).map numV)]) (fun _ i _ => q - (intOf i).toNat)
      case atStart => exact ⟨0, Nat.zero_le _, rfl, by simp, S6.out⟩
      case round =>
        obtain ⟨k, hk, rfl, rfl, hS⟩ := hrel
        have hsum := planOf_sum k
        by_cases hlt : k < q
        · obtain ⟨ys, _, hpk⟩ := planOf_at OK1.out.1 (show k < 4 by omega)
          obtain ⟨b', r', hv1, hck, _⟩ := own_cell hS.drop.drop.drop.row (planOf_cell hpk)
          simp only [Value.slice.injEq, Option.some.injEq, Addr.mk.injEq, true_and, and_true] at hv1
          obtain ⟨rfl, rfl⟩ := hv1
          have hys : ys.length ≤ 9 := by have := planOf_next hpk; have := planOf_sum (k + 1); omega
          have HN := Lib.hid (planOf_next hpk)
          have S7 := Lib.hid hS
          clear hS hpk
          generalize (planOf.take k).sum = sm at *
          go_wp2
          go_roundw
          case rel => exact ⟨k + 1, by omega, by go_num, by rw [HN.out]; go_num, S7.out⟩
          case measure => simp [intOf]; omega
        · obtain rfl : k = q := by omega
          have hv1 : (put c1.now (k, j) v).flatten = _ := HPUT.out
          have hv2 : c1.now.flatten[_]? = some y := HAT.out
          generalize (planOf.take k).sum + j = m at *
          rw [hv1] at hS
          obtain ⟨b2, r2, hvv, hc2', _⟩ := own_cell hS.drop.drop.row (k := m) (u := numV y) (by rw [List.getElem?_map, hv2]; rfl)
          obtain ⟨b3, r3, hvw, hc3', _⟩ := own_cell hS.drop.row (k := m) (u := numV v) (by rw [List.getElem?_map, List.getElem?_set_self (by rw [e9.out]; exact hlt9)]; rfl)
          simp only [Value.slice.injEq, true_and] at hvv hvw
          obtain ⟨rfl, rfl⟩ := hvv
          obtain ⟨rfl, rfl⟩ := hvw
          simp only [numV] at hc2' hc3'
          have S7 := Lib.hid hS
          have S8 := Lib.hid (hS.third.rowSet m (numV v))
          have hl1 : (v != v) = false := by simp
          have hl2 : (y != y) = false := by simp
          clear hS hv1 hv2
          go_wp2_with fail
          refine (S7.out.load _ _ LD.out).mono ?_
          rintro e w' ⟨rfl, rfl⟩
          go_wp2_with fail
          have hq : (c1.now.flatten.map numV).set m (numV v) = (c1.now.flatten.set m v).map numV := by rw [List.map_set]
          have S9 := S8.out
          rw [hq] at S9
          have Q := (equal18 (xs := c1.now.flatten.set m v) (ys := c1.now.flatten.set m v) (c := p2) (d := p3) (own_reads S9.row) (own_reads S9.drop.drop.row) (by rw [List.length_set, e9.out]; decide) (by rw [List.length_set, e9.out]; decide))
          rw [List.length_set, e9.out] at Q
          refine Q.mono ?_
          rintro e w9 ⟨rfl, hk⟩
          have S10 := Lib.hid (S9.kept hk)
          have hd : decide (c1.now.flatten.set m v = c1.now.flatten.set m v) = true := by simp
          rw [hd]
          clear hk hd Q S9
          go_wp2
          go_ret
          exact ⟨rfl, S10.out.whole⟩
    · have hld : c1.load (1 + (q : Int)) (j : Int) = (0, 212) := by
        unfold CM.load
        rw [if_neg (by omega)]
        simp only [et, hx, Option.getD_some]
        rw [if_pos (by omega)]
      refine (S4.out.store (1 + (q : Int)) (j : Int) v hld (by unfold CM.store; rw [hld]; first | done | rfl)).mono ?_
      rintro e w7 ⟨rfl, hs⟩
      have S5 := Lib.hid hs
      clear hs hld
      go_wp2_with fail
      refine (all9 S5.out OK1.out.1).mono ?_
      rintro e w8 ⟨A3, p3, rfl, hs⟩
      have S6 := Lib.hid hs
      clear hs
      obtain ⟨b1, r1, hv1, hc1', _⟩ := own_cell S6.out.drop.drop.drop.row HPC.out
      simp only [Value.slice.injEq, true_and] at hv1
      obtain ⟨rfl, rfl⟩ := hv1
      have hge : (xs.length : Int) ≤ (j : Int) := by omega
      go_wp2_with fail
      have Q := (equal18 (xs := c1.now.flatten) (ys := c1.now.flatten) (c := p2) (d := p3) (own_reads S6.out.drop.drop.row) (own_reads S6.out.swap.row) (by rw [e9.out]; decide) (by rw [e9.out]; decide))
      rw [e9.out] at Q
      refine Q.mono ?_
      rintro e w9 ⟨rfl, hk⟩
      have S7 := Lib.hid (S6.out.kept hk)
      have hd : decide (c1.now.flatten = c1.now.flatten) = true := by simp
      rw [hd]
      clear hk hd Q
      go_wp2
      go_ret
      exact ⟨rfl, S7.out.whole⟩
end Go.Proofs.Ytlfaoibgmbbacaa
