/- The walk of CellsBack. -/
import Derived.Test.YtlfaoibgmbbacaaAwake
import Derived.Test.YtlfaoibgmbbacaaDo
import Derived.Deep.QuietTactic
import Derived.BigQuiet
namespace Go.Proofs.Ytlfaoibgmbbacaa
open Go.RowKit

theorem c0_ok : c0.ok := by refine ⟨rfl, ?_⟩; simp [c0]
def cntNe : List Int → List Int → Nat
  | x :: xs, y :: ys => (if x = y then 0 else 1) + cntNe xs ys
  | _, _ => 0
theorem doStep_pre {P : List (List (List Int))} {c : CM} (h : P <+: c.marks) (x : Sm) {n : Nat} (hn : P.length = n) : P <+: (doStep true n c x).marks := by
  have hk : ¬ ((c.marks.length : Int) ≤ n) → P <+: c.marks.dropLast := by
    intro hlt
    obtain ⟨t, ht⟩ := h
    rcases List.eq_nil_or_concat t with rfl | ⟨t', y, rfl⟩
    · exfalso
      rw [← ht] at hlt
      simp at hlt
      omega
    · rw [← ht, List.concat_eq_append, ← List.append_assoc, List.dropLast_concat]
      exact List.prefix_append _ _
  have hm : P <+: c.mark.marks := by
    unfold CM.mark
    split
    · exact h
    · exact h.trans (List.prefix_append _ _)
  unfold doStep
  split
  · unfold CM.store
    split
    · exact h
    · exact h
  · split
    · exact hm
    · split
      · exact hm
      · rename_i hlt
        split
        · unfold CM.back
          split
          · exact h
          · exact hk hlt
        · exact hk hlt
theorem doAll_pre {P : List (List (List Int))} {c : CM} (h : P <+: c.marks) {n : Nat} (hn : P.length = n) (l : List Sm) : P <+: (doAll true n c l).marks := by
  induction l generalizing c with
  | nil => exact h
  | cons x l ih => exact ih (doStep_pre h x hn)
theorem St.low {w0 w : World} {rs : List Res} {a : Nat} {c : CM} (h : St w0 w (.mem a c :: rs)) : c.marks.length ≤ 64 := by
  obtain ⟨F, rv, rows, mv, tops, h, h2, h3, rfl⟩ := h.at
  rw [← h3]
  simpa [snapsOf] using h.low

theorem cntNe_append : ∀ (xs ys xs' ys' : List Int), xs.length = ys.length → cntNe (xs ++ xs') (ys ++ ys') = cntNe xs ys + cntNe xs' ys'
  | [], [], xs', ys', _ => by simp [cntNe]
  | x :: xs, y :: ys, xs', ys', h => by
    simp only [List.cons_append, cntNe]
    rw [cntNe_append xs ys xs' ys' (by simpa using h)]
    omega
  | [], _ :: _, _, _, h => by simp at h
  | _ :: _, [], _, _, h => by simp at h
theorem cntNe_take {xs ys : List Int} {k : Nat} {x y : Int} (hx : xs[k]? = some x) (hy : ys[k]? = some y) : cntNe (xs.take (k + 1)) (ys.take (k + 1)) = cntNe (xs.take k) (ys.take k) + if x = y then 0 else 1 := by
  have h1 := (List.getElem?_eq_some_iff.1 hx).1
  have h2 := (List.getElem?_eq_some_iff.1 hy).1
  rw [List.take_add_one, List.take_add_one, cntNe_append _ _ _ _ (by simp; omega), hx, hy]
  simp [cntNe]
theorem cntNe_le : ∀ xs ys : List Int, cntNe xs ys ≤ xs.length
  | [], _ => by simp [cntNe]
  | x :: xs, [] => by simp [cntNe]
  | x :: xs, y :: ys => by
    have := cntNe_le xs ys
    simp only [cntNe, List.length_cons]
    split <;> omega
theorem spots_cons (n : Nat) (ls : List Nat) : spots (n :: ls) = ((List.range n).map fun j => (0, j)) ++ (spots ls).map fun p => (p.1 + 1, p.2) := by
  unfold spots
  rw [List.length_cons, List.range_succ_eq_map, List.flatMap_cons, List.flatMap_map, List.map_flatMap]
  simp [List.map_map, Function.comp_def]
theorem cnt_row : ∀ (xs ys : List Int), xs.length = ys.length → cntNe xs ys = ((List.range xs.length).filter fun j => decide (ys[j]?.getD 0 ≠ xs[j]?.getD 0)).length
  | [], [], _ => rfl
  | x :: xs, y :: ys, h => by
    have ih := cnt_row xs ys (by simpa using h)
    rw [List.length_cons, List.range_succ_eq_map, List.filter_cons, List.filter_map]
    simp only [cntNe, List.getElem?_cons_zero, Option.getD_some]
    have e : ((fun j => decide ((y :: ys)[j]?.getD 0 ≠ (x :: xs)[j]?.getD 0)) ∘ Nat.succ) = fun j => decide (ys[j]?.getD 0 ≠ xs[j]?.getD 0) := by funext j; simp
    rw [e]
    by_cases hxy : x = y
    · simp [hxy, ih]
    · have : ¬ y = x := fun e => hxy e.symm
      simp [hxy, this, ih]; omega
  | [], _ :: _, h => by simp at h
  | _ :: _, [], h => by simp at h
theorem cnt_others : ∀ (old new : List (List Int)), lens old = lens new → cntNe new.flatten old.flatten = (others old new).length
  | [], [], _ => rfl
  | y :: old, x :: new, h => by
    simp only [lens, List.map_cons, List.cons.injEq] at h
    have ih := cnt_others old new h.2
    rw [List.flatten_cons, List.flatten_cons, cntNe_append _ _ _ _ h.1.symm, ih, cnt_row x y h.1.symm]
    unfold others
    simp only [lens, List.map_cons]
    rw [spots_cons, List.filter_append, List.length_append, List.filter_map, List.length_map, List.filter_map, List.length_map]
    rfl
  | [], _ :: _, h => by simp [lens] at h
  | _ :: _, [], h => by simp [lens] at h
theorem St.changes_le {w0 w : World} {rs : List Res} {a : Nat} {c : CM} (h : St w0 w (.mem a c :: rs)) : c.changes.length ≤ maxLen := by
  obtain ⟨F, rv, rows, mv, tops, h, h2, h3, rfl⟩ := h.at
  have h1 := cellsOf_le h.few h.short
  rw [h2] at h1
  have := Nat.le_trans (List.length_filterMap_le (chg c.base) (cellsOf c.now)) h1
  unfold CM.changes maxLen
  omega
theorem flat_len {l l' : List (List Int)} (h : lens l = lens l') : l.flatten.length = l'.flatten.length := by
  rw [List.length_flatten, List.length_flatten]
  exact congrArg List.sum h

set_option maxRecDepth 100000 in
set_option maxHeartbeats 4000000 in
theorem cellsBack_calls {w : World} {A B : Option Addr} {cA cB : Nat} {l more : List Sm} (hA : Reads w A (flatS l)) (hB : Reads w B (flatS more)) (lA : ∀ x ∈ l, x.ok) (lB : ∀ x ∈ more, x.ok)
    (nA : l.length ≤ maxLen) (nB : more.length ≤ maxLen) (kA : l.length ≤ cA) (kB : more.length ≤ cB) :
    Calls Try.prog 3 #[.slice A l.length cA, .slice B more.length cB] w fun e w' => e = .returned (.bool true) ∧ Kept [] w w' := by
  have HA := Lib.hid hA
  have HB := Lib.hid hB
  have LA := Lib.hid lA
  have LB := Lib.hid lB
  have NA := Lib.hid nA
  have NB := Lib.hid nB
  have KA := Lib.hid kA
  have KB := Lib.hid kB
  clear hA hB lA lB nA nB kA kB
  go_enter Try.func3, Try.ntmps3
  go_wp2_with fail
  refine (awake_calls w).mono ?_
  rintro e w1 ⟨rfl, hk⟩
  have K1 := Lib.hid hk
  clear hk
  go_wp2_with fail
  refine (Made_calls w1).mono ?_
  rintro e w2 ⟨a, rfl, hs⟩
  have S0 : Hid (St w w2 [.mem a c0]) := hs.from K1.out
  clear hs
  go_wp2_with fail
  refine (do_calls S0.out c0_ok HA.out LA.out NA.out KA.out true 0).mono ?_
  rintro e w3 ⟨rfl, hs⟩
  have ok1 := doAll_ok c0_ok true 0 (l.take 60)
  generalize doAll true 0 c0 (l.take 60) = c1 at hs ok1
  have OK1 := Lib.hid ok1
  have S1 := Lib.hid hs
  clear hs ok1
  -- was, marks, changes
  go_wp2_with fail
  refine (all_law S1.out).mono ?_
  rintro e w4 ⟨A1, p1, rfl, hs⟩
  have S2 := Lib.hid hs
  clear hs
  go_wp2_with fail
  refine S2.out.marks.mono ?_
  rintro e w' ⟨rfl, rfl⟩
  go_wp2_with fail
  refine (S2.out.changes rfl).mono ?_
  rintro e w5 ⟨A2, p2, rfl, hs⟩
  have S3 := Lib.hid hs
  clear hs
  by_cases h64 : 64 ≤ c1.marks.length
  · have h64' : (64 : Int) ≤ c1.marks.length := by omega
    go_wp2_with fail
    refine (S3.out.mark (r := (0, 5)) (c' := c1) (by unfold CM.markRes; rw [if_pos h64]) (by unfold CM.mark; rw [if_pos h64])).mono ?_
    rintro e w6 ⟨rfl, hs⟩
    have S4 := Lib.hid hs
    clear hs
    go_wp2
    go_ret
    exact ⟨rfl, S4.out.whole⟩
  · have h64' : (c1.marks.length : Int) < 64 := by omega
    have ne1 : (((c1.marks.length + 1 : Nat) : Int) != (c1.marks.length : Int) + 1) = false := by simp
    generalize hc2 : ({ c1 with marks := c1.marks ++ [c1.now] } : CM) = c2
    go_wp2_with fail
    refine (S3.out.mark (r := ((c1.marks.length + 1 : Nat), 0)) (c' := c2) (by unfold CM.markRes; rw [if_neg h64]) (by unfold CM.mark; rw [if_neg h64]; exact hc2)).mono ?_
    rintro e w6 ⟨rfl, hs⟩
    have S4 := Lib.hid hs
    have C2 := Lib.hid hc2
    clear hs hc2
    have hch : c2.changes = [] := by
      rw [← C2.out]
      unfold CM.changes
      rw [List.filterMap_eq_nil_iff]
      intro x hx
      have := mem_cellsOf hx
      simp [chg, CM.base, this]
    go_wp2_with fail
    refine (S4.out.changes hch).mono ?_
    rintro e w7 ⟨A3, p3, rfl, hs⟩
    have S5 := Lib.hid hs
    have ok2 : c2.ok := by
      have := mark_ok OK1.out
      unfold CM.mark at this
      rw [if_neg h64, C2.out] at this
      exact this
    clear hs hch
    go_wp2_with fail
    have hfl : ((c1.marks.length : Int) + 1) = ((c1.marks.length + 1 : Nat) : Int) := by simp
    have hpl : c2.marks.length = c1.marks.length + 1 := by rw [← C2.out]; simp
    have hpre : c2.marks <+: (doAll true ((c1.marks.length : Int) + 1) c2 (more.take 60)).marks := by
      rw [hfl]
      exact doAll_pre (List.prefix_refl _) hpl _
    have ok3 := doAll_ok ok2 true ((c1.marks.length : Int) + 1) (more.take 60)
    refine (do_calls S5.out ok2 HB.out LB.out NB.out KB.out true ((c1.marks.length : Int) + 1)).mono ?_
    rintro e w8 ⟨rfl, hs⟩
    generalize doAll true ((c1.marks.length : Int) + 1) c2 (more.take 60) = c3 at hs hpre ok3
    have S6 := Lib.hid hs
    have PL := Lib.hid hpl
    have PRE := Lib.hid hpre
    have OK3 := Lib.hid ok3
    have OK2 := Lib.hid ok2
    clear hs hfl hpl hpre ok3 ok2
    go_wp2
    go_loopw [69] (fun i wr => ∃ (k : Nat) (c : CM), k ≤ 64 ∧ i = .int .i64 k ∧ St w wr [.mem a c, .row (.slice A3 0 p3) 39 4 0 [], .row (.slice A2 c1.changes.length p2) 39 4 c1.changes.length (flatC c1.changes), .row (.slice A1 c1.flat.length p1) 2 1 c1.flat.length (c1.flat.map numV)] ∧
      c2.marks <+: c.marks ∧ c.marks.length + k ≤ 64 ∧ c.ok) (fun i _ => 64 - (intOf i).toNat)
    case atStart => exact ⟨0, c3, by omega, rfl, S6.out, PRE.out, by have := S6.out.low; omega, OK3.out⟩
    case round =>
      obtain ⟨k, c, hk, rfl, hS, hpre, hlen, hok⟩ := hrel
      by_cases hlt : k < 64
      · have hmle : c2.marks.length ≤ c.marks.length := hpre.length_le
        have HM := Lib.hid hS.marks
        have S7 := Lib.hid hS
        have PRE := Lib.hid hpre
        have OKC := Lib.hid hok
        clear hS hpre hok
        by_cases hle : (c.marks.length : Int) ≤ (c1.marks.length : Int) + 1
        · go_wp2_with (go_at_call 14; refine HM.out.mono ?_; rintro e w' ⟨rfl, rfl⟩)
          have hcm : c.marks = c1.marks ++ [c1.now] := by
            have e : c2.marks = c.marks := PRE.out.eq_of_length (by have := PL.out; omega)
            rw [← e, ← C2.out]
          have hback : c.back = c1 := by unfold CM.back; rw [hcm]; simp
          have hpop : c.popRes = (((others c1.now c.now).length : Int), 0) := by unfold CM.popRes; rw [hcm]; simp
          have hbase : c.base = c1.now := by unfold CM.base; rw [hcm]; simp
          have hln : lens c1.now = lens c.now := OK1.out.1.trans OKC.out.1.symm
          have hfl := flat_len hln
          have hcnt := cnt_others c1.now c.now hln
          have hch := changes_count c
          rw [hbase] at hch
          have HB1 := Lib.hid hback
          have HP1 := Lib.hid hpop
          have HF := Lib.hid hfl
          have HCN := Lib.hid hcnt
          have HCH := Lib.hid hch
          clear hcm hback hpop hbase hln hfl hcnt hch
          refine (all_law S7.out).mono ?_
          rintro e w10 ⟨A4, p4, rfl, hs⟩
          have hfb : c.flat.length ≤ 16384 := by
            have hz := hs.size
            have := flat_le hz.2
            have := hz.1
            unfold CM.flat
            omega
          have S8 := Lib.hid hs
          clear hs
          go_wp2
          go_loopw [15, 87] (fun o i wr => ∃ k : Nat, k ≤ c.flat.length ∧ i = .int .i64 k ∧ o = .int .i64 (cntNe (c.flat.take k) (c1.flat.take k)) ∧
            St w wr [.mem a c, .row (.slice A4 c.flat.length p4) 2 1 c.flat.length (c.flat.map numV), .row (.slice A3 0 p3) 39 4 0 [], .row (.slice A2 c1.changes.length p2) 39 4 c1.changes.length (flatC c1.changes), .row (.slice A1 c1.flat.length p1) 2 1 c1.flat.length (c1.flat.map numV)]) (fun _ i _ => c.flat.length - (intOf i).toNat)
          case atStart => exact ⟨0, Nat.zero_le _, rfl, rfl, S8.out⟩
          case round =>
            obtain ⟨k', hk', rfl, rfl, hS⟩ := hrel
            have hcl := cntNe_le (c.flat.take k') (c1.flat.take k')
            simp only [List.length_take] at hcl
            have hcl2 : cntNe (c.flat.take k') (c1.flat.take k') ≤ 16384 := by omega
            by_cases hlt' : k' < c.flat.length
            · obtain ⟨x, hx⟩ : ∃ x, c.flat[k']? = some x := ⟨_, List.getElem?_eq_getElem hlt'⟩
              have hlt2 : k' < c1.flat.length := by have := HF.out; unfold CM.flat at *; omega
              obtain ⟨y, hy⟩ : ∃ y, c1.flat[k']? = some y := ⟨_, List.getElem?_eq_getElem hlt2⟩
              obtain ⟨g4, q4, hv4, hc4, _⟩ := own_cell hS.swap.row (k := k') (u := numV x) (by simp [hx])
              obtain ⟨g1, q1, hv1, hc1, _⟩ := own_cell hS.drop.drop.drop.drop.row (k := k') (u := numV y) (by simp [hy])
              simp only [Value.slice.injEq, true_and] at hv4 hv1
              obtain ⟨rfl, rfl⟩ := hv4
              obtain ⟨rfl, rfl⟩ := hv1
              simp only [numV] at hc4 hc1
              have hge : decide ((c1.flat.length : Int) ≤ (k' : Int)) = false := by simp; omega
              have hge2 : (k' : Int) < (c1.flat.length : Int) := by omega
              have hstep := cntNe_take hx hy
              have S9 := Lib.hid (fun nq => hS.kept (Kept.drewN _ _ nq))
              have HST := Lib.hid hstep
              have KK := Lib.hid hlt2
              clear hS hstep hx hy hcl
              generalize hcn : cntNe (c.flat.take k') (c1.flat.take k') = cn at *
              clear hcn
              by_cases hxy : x = y
              · have hne : (x != y) = false := by simp [hxy]
                have HXY := Lib.hid hxy
                clear hxy
                go_wp2
                go_quiet (fail)
                go_wp2
                go_roundw
                case rel => exact ⟨k' + 1, by omega, by go_num, by rw [HST.out, if_pos HXY.out]; rfl, S9.out _⟩
                case measure => simp [intOf]; omega
              · have hne : (x != y) = true := by simp [hxy]
                have HXY := Lib.hid hxy
                clear hxy
                go_wp2
                go_quiet (fail)
                go_wp2
                go_roundw
                case rel => exact ⟨k' + 1, by omega, by go_num, by rw [HST.out, if_neg HXY.out]; rfl, S9.out _⟩
                case measure => simp [intOf]; omega
            · obtain rfl : k' = c.flat.length := by omega
              have hcount : cntNe (c.flat.take c.flat.length) (c1.flat.take c.flat.length) = (others c1.now c.now).length := by
                have e : c.flat.length = c1.flat.length := by have := HF.out; unfold CM.flat; omega
                rw [List.take_length, e, List.take_length]
                exact HCN.out
              rw [hcount] at hcl2 ⊢
              have S9 := Lib.hid hS
              clear hS hcount hcl
              have hleq : ((c.flat.length : Int) == (c1.flat.length : Int)) = true := by rw [show c.flat.length = c1.flat.length from HF.out.symm]; simp
              have nF : c1.flat.length ≤ maxLen := by rw [← show c.flat.length = c1.flat.length from HF.out.symm]; unfold maxLen; omega
              have NF := Lib.hid nF
              clear nF
              generalize hN : (others c1.now c.now).length = N at *
              go_wp2_with fail
              refine (S9.out.changes (l := c.changes) rfl).mono ?_
              rintro e w11 ⟨A5, p5, rfl, hs⟩
              rw [HCH.out] at hs ⊢
              have S10 := Lib.hid hs
              clear hs
              go_wp2_with fail
              refine (S10.out.back (r := ((N : Int), 0)) HP1.out HB1.out).mono ?_
              rintro e w12 ⟨rfl, hs⟩
              have S11 := Lib.hid hs
              clear hs hN
              go_wp2_with fail
              refine (all_law S11.out).mono ?_
              rintro e w13 ⟨A6, p6, rfl, hs⟩
              have S12 := Lib.hid hs
              clear hs
              go_wp2_with fail
              refine (equal18 (own_reads S12.out.swap.row) (own_reads S12.out.drop.drop.drop.drop.drop.drop.row) NF.out NF.out).mono ?_
              rintro e w14 ⟨rfl, hk⟩
              have S13 := Lib.hid (S12.out.kept hk)
              have hd : decide (c1.flat = c1.flat) = true := by simp
              rw [hd]
              clear hk hd
              go_wp2_with fail
              refine S13.out.marks.mono ?_
              rintro e w' ⟨rfl, rfl⟩
              go_wp2_with fail
              refine (S13.out.changes (l := c1.changes) rfl).mono ?_
              rintro e w15 ⟨A7, p7, rfl, hs⟩
              have S14 := Lib.hid hs
              clear hs
              go_wp2_with fail
              refine (same19 (own_reads S14.out.swap.row) (own_reads S14.out.drop.drop.drop.drop.drop.drop.row) S14.out.changes_le).mono ?_
              rintro e w16 ⟨rfl, hk⟩
              have S15 := Lib.hid (S14.out.kept hk)
              clear hk
              go_wp2
              go_ret
              exact ⟨rfl, S15.out.whole⟩
        · have hle' : (c1.marks.length : Int) + 1 < (c.marks.length : Int) := by omega
          have hne : c.marks ≠ [] := by intro e; rw [e] at hle'; simp at hle'; omega
          have hpop : c.popRes = (((others (c.marks.getLast hne) c.now).length : Int), 0) := by
            unfold CM.popRes
            rw [List.getLast?_eq_some_getLast hne]
          have hback : c.back.marks = c.marks.dropLast := by
            unfold CM.back
            rw [List.getLast?_eq_some_getLast hne]
          have hpre2 : c2.marks <+: c.back.marks := by
            rw [hback]
            obtain ⟨t, ht⟩ := PRE.out
            rcases List.eq_nil_or_concat t with rfl | ⟨t', y, rfl⟩
            · exfalso
              rw [List.append_nil] at ht
              rw [← ht] at hle'
              have := PL.out
              omega
            · rw [← ht, List.concat_eq_append, ← List.append_assoc, List.dropLast_concat]
              exact List.prefix_append _ _
          have hlen2 : c.back.marks.length + (k + 1) ≤ 64 := by
            rw [hback, List.length_dropLast]
            omega
          have ST := Lib.hid (S7.out.back hpop rfl)
          have PRE2 := Lib.hid hpre2
          have HL2 := Lib.hid hlen2
          have OKB := Lib.hid (back_ok OKC.out)
          clear hpop hback hpre2 hlen2
          go_wp2_with (first | (go_at_call 14; refine HM.out.mono ?_; rintro e w' ⟨rfl, rfl⟩) | (go_at_call 17; refine ST.out.mono ?_; rintro e w' ⟨rfl, hs⟩; have S8 := Lib.hid hs; clear hs))
          go_roundw
          case rel => exact ⟨k + 1, c.back, by omega, by go_num, S8.out, PRE2.out, HL2.out, OKB.out⟩
          case measure => simp [intOf]; omega
      · exfalso
        have := hpre.length_le
        have := PL.out
        omega
end Go.Proofs.Ytlfaoibgmbbacaa
