/- The walk of CapsPlaces. -/
import Derived.Test.YtmndckeohfcgkaaGrows
import Derived.Deep.CutRange
namespace Go.Proofs.Ytmndckeohfcgkaa
open Go.RowKit
set_option maxRecDepth 100000 in
set_option maxHeartbeats 8000000 in
theorem capsPlaces_calls {w : World} {A B : Option Addr} {cA cB : Nat} {l more : List Sm} (hA : Reads w A (flatS l)) (hB : Reads w B (flatS more)) (lA : ∀ x ∈ l, x.ok) (lB : ∀ x ∈ more, x.ok) (nA : l.length ≤ maxLen) (nB : more.length ≤ maxLen) (kA : l.length ≤ cA) (kB : more.length ≤ cB) :
    Calls Try.prog 6 #[.slice A l.length cA, .slice B more.length cB] w fun e w' => e = .returned (.bool true) ∧ Kept [] w w' := by
  obtain ⟨n, hn1, hn2, hmin, hnl⟩ : ∃ n : Nat, n ≤ 40 ∧ n ≤ l.length ∧ min (l.length : Int) 40 = (n : Int) ∧ (l.take n).length = n := by
    by_cases h : l.length ≤ 40
    · exact ⟨l.length, h, Nat.le_refl _, by omega, by simp⟩
    · exact ⟨40, Nat.le_refl _, by omega, by omega, by simp; omega⟩
  obtain ⟨m, hm1, hm2, hmin2, hml⟩ : ∃ m : Nat, m ≤ 20 ∧ m ≤ more.length ∧ min (more.length : Int) 20 = (m : Int) ∧ (more.take m).length = m := by
    by_cases h : more.length ≤ 20
    · exact ⟨more.length, h, Nat.le_refl _, by omega, by simp⟩
    · exact ⟨20, Nat.le_refl _, by omega, by omega, by simp; omega⟩
  have hRd : ∀ {W : World} {A : Option Addr} {l : List Sm} (n : Nat), Reads W A (flatS l) → Reads W A (flatS (l.take n)) := by
    intro W A l n h
    rcases h with h | ⟨b, off, e, hc⟩
    · left
      rw [flatS_nil] at h ⊢
      rw [h]; simp
    · right
      refine ⟨b, off, e, fun j u hj => hc j u ?_⟩
      have e2 : flatS l = flatS (l.take n) ++ flatS (l.drop n) := by
        unfold flatS
        rw [← List.flatMap_append, List.take_append_drop]
      rw [e2, List.getElem?_append_left (List.getElem?_eq_some_iff.1 hj).1]
      exact hj
  have HA := Lib.hid (hRd n hA)
  have HB := Lib.hid (hRd m hB)
  have LA : Hid (∀ x ∈ l.take n, x.ok) := Lib.hid fun x hx => lA x (List.mem_of_mem_take hx)
  have LB : Hid (∀ x ∈ more.take m, x.ok) := Lib.hid fun x hx => lB x (List.mem_of_mem_take hx)
  have hcA : (n : Int) ≤ cA := by omega
  have hcB : (m : Int) ≤ cB := by omega
  unfold maxLen at nA nB
  clear hA hB lA lB hRd
  go_enter Try.func6, Try.ntmps6
  go_wp2_with fail
  refine (awake_calls w).mono ?_
  rintro e w1 ⟨rfl, hk⟩
  have K1 := Lib.hid hk
  clear hk
  have hmade := Made_calls (cp := cA) ((St.nil w).kept K1.out) HA.out LA.out (by rw [hnl]; unfold maxLen; omega) (by rw [hnl]; omega)
  rw [hnl, List.take_of_length_le (by rw [hnl]; omega)] at hmade
  have HMADE := Lib.hid hmade
  clear hmade
  go_wp2_with fail
  refine HMADE.out.mono ?_
  rintro e w2 ⟨a, rfl, hs, hf⟩
  have S2 := Lib.hid hs
  have FW := Lib.hid hf
  clear hs hf HMADE
  go_wp2
  have hcl := clone32 (w := w2.drew) (cp := cA) (l := l.take n) (by
    rcases HA.out with h | ⟨b, off, e, hc⟩
    · exact .inl h
    · exact .inr ⟨b, off, e, fun j u hj => (S2.out.whole.trans' (Kept.drew _ _)).cell (hc j u hj) (by simp)⟩) (by rw [hnl]; omega)
  rw [hnl] at hcl
  have HCL := Lib.hid hcl
  obtain ⟨i0, hi, hz0, hz1, hz2⟩ := info_parts info58
  have hn64 : (n : Int) ≤ 40 := by omega
  have hm64 : (m : Int) ≤ 20 := by omega
  clear hcl
  have LAB : Hid (∀ x ∈ l.take n ++ more.take m, x.ok) := Lib.hid fun x hx => by
    rcases List.mem_append.1 hx with h | h
    · exact LA.out x h
    · exact LB.out x h
  have hnm : (l.take n ++ more.take m).length = n + m := by rw [List.length_append, hnl, hml]
  have HNM := Lib.hid hnm
  clear hnm
  go_cut [7, 8] from 33 to 44 (fun s7 s8 wx => ∃ (b : Nat) (d : CT), s7 = .pointer (some ⟨b, 0, none⟩) ∧ s8 = .bool true ∧ d = madeAll (newCT 100) (l.take n ++ more.take m) ∧ St w wx [.tab b d, .tab a (madeAll (newCT 100) (l.take n))])
  case first =>
    go_region_law (first
      | (go_simp; go_at_call 32
         refine HCL.out.mono ?_
         rintro e w3 ⟨g, cap, rfl, z1, z2⟩
         have S3 := Lib.hid (((S2.out.kept (Kept.drew _ _)).new (R := .row _ _ _ _ _) z2 (row_on z1) fun b hb => (z1.lt b (by simpa using hb)).1))
         clear z1 z2)
      | (refine step_append_st rfl (.tmp 35) (.tmp 40) 22 rfl 58 i0 (.agg #[.int .u8 0, .int .u8 0, .int .u8 0, .int .u8 0]) 4 4 Try.underlying22 hi hz0 hz1 hz2 rfl (by decide) (.slice g n cap) n (flatS (l.take n)) (by simp [Act.eval, Act.put]) S3.out B m cB (flatS (more.take m)) (by simp [Act.eval, Act.put]) (by rw [flatS_len, hml]) (S3.out.whole.reads HB.out (by simp)) (sm_one _) (by unfold maxLen; omega) (by omega) ?_
         intro v' w4 hs
         rw [show flatS (l.take n) ++ flatS (more.take m) = flatS (l.take n ++ more.take m) by simp [flatS]] at hs
         have S4 := Lib.hid hs
         clear hs)
      | (go_simp; go_at_call 12
         refine (made_of_row S4.out HNM.out LAB.out (by omega)).mono ?_
         rintro e w5 ⟨b, rfl, hs, hf⟩
         have S5 := Lib.hid hs
         have FW5 := Lib.hid hf
         clear hs hf))
    all_goals (go_wp2_with fail; go_meet; exact ⟨b, _, rfl, rfl, rfl, S5.out⟩)
  case rest =>
  obtain ⟨b, d, rfl, rfl, hd, hs⟩ := hcut
  have hgr : Grows (madeAll (newCT 100) (l.take n)) d := by
    rw [hd, madeAll_append]
    refine grows_all _ _ 60 S2.out.ok FW.out ?_ LB.out
    rw [hml]; omega
  clear hd HCL FW LA LB LAB HNM HA HB S2 K1 hi hz0 hz1 hz2
  generalize madeAll (newCT 100) (l.take n) = c at *
  have S6 := Lib.hid hs
  have GR := Lib.hid hgr
  have few := hs.ok.few
  clear hs hgr
  go_wp2
  go_loopw [9, 51] (fun o i wr => ∃ k : Nat, k ≤ 17 ∧ i = .int .i64 k ∧ o = .int .i64 (heldBy d k) ∧ St w wr [.tab b d, .tab a c]) (fun _ i _ => 17 - (intOf i).toNat)
  case atStart =>
    refine ⟨0, by omega, rfl, ?_, S6.out⟩
    rw [held_zero d S6.out.ok]; rfl
  case round =>
    obtain ⟨k, hk, rfl, rfl, hS⟩ := hrel
    by_cases hlt : k < 17
    · obtain ⟨la, hla⟩ : ∃ la, c.places[k]? = some la := ⟨_, List.getElem?_eq_getElem (by rw [S6.out.drop.ok.p17]; exact hlt)⟩
      obtain ⟨lx, hlb⟩ := GR.out.pre k la hla
      have hca := at_eq hlt hla
      have hcb := at_eq hlt hlb
      have hpa : la.length ≤ 256 := S6.out.drop.ok.pfew la (List.mem_of_getElem? hla)
      have hpb : (la ++ lx).length ≤ 256 := S6.out.ok.pfew _ (List.mem_of_getElem? hlb)
      obtain ⟨na, hna⟩ : ∃ na : Nat, na = la.length := ⟨_, rfl⟩
      obtain ⟨lb, hlbe⟩ : ∃ lb, lb = la ++ lx := ⟨_, rfl⟩
      obtain ⟨nb, hnb⟩ : ∃ nb : Nat, nb = lb.length := ⟨_, rfl⟩
      have hab : (na : Int) ≤ nb := by rw [hna, hnb, hlbe, List.length_append]; omega
      have hnot : ¬ (nb : Int) < na := by omega
      have hpa2 : na ≤ 256 := by rw [hna]; exact hpa
      have hpb2 : nb ≤ 256 := by rw [hnb, hlbe]; exact hpb
      rw [← hlbe] at hlb hcb
      have P1 := hS.swap.places' k hca
      rw [← hna] at P1
      have LBE := Lib.hid hlbe
      have HLA := Lib.hid hla
      have HLB := Lib.hid hlb
      have HNA := Lib.hid hna
      have HNB := Lib.hid hnb
      have HCB := Lib.hid hcb
      have HP := Lib.hid P1
      clear hlbe hla hlb hna hnb hca hcb hpa hpb hS P1
      go_wp2_with fail
      refine HP.out.mono ?_
      rintro e v1 ⟨RA, pA, rfl, hs, hpA⟩
      have P2 := hs.up3.places' k HCB.out
      rw [← HNB.out] at P2
      have HP2 := Lib.hid P2
      clear hs P2 HP
      go_wp2_with fail
      refine HP2.out.mono ?_
      rintro e v2 ⟨RB, pB, rfl, hs, hpB⟩
      have T2 := Lib.hid hs
      have hcp : (na : Int) ≤ pB := by omega
      have HE := Lib.hid (equalPre (c := pA) (d := pB) (xs := la) (ys := lx) (own_reads hs.drop.drop.drop.row) (by rw [← LBE.out]; exact own_reads hs.drop.row) (by rw [← HNA.out]; omega))
      rw [← HNA.out] at HE
      clear hs HP2
      go_wp2_with fail
      refine HE.out.mono ?_
      rintro e v3 ⟨rfl, hk1⟩
      have T3 := Lib.hid (T2.out.kept hk1)
      clear hk1 HE
      go_wp2
      have hdf : decide (nb < na) = false := decide_eq_false (by omega)
      simp only [hdf]
      clear hdf
      go_loopw [9, 76] (fun o j wr => ∃ i : Nat, i ≤ nb ∧ j = .int .i64 i ∧ o = .int .i64 (cntAt d k lb i) ∧ St w wr [.tab b d, .row (.slice RB nb pB) 3 1 nb (lb.map intV), .tab a c, .row (.slice RA na pA) 3 1 na (la.map intV)]) (fun _ i _ => nb - (intOf i).toNat)
      case atStart => exact ⟨0, Nat.zero_le _, rfl, by rw [cnt_zero], T3.out⟩
      case round =>
        obtain ⟨i, hi, rfl, rfl, hS⟩ := hrel
        by_cases hil : i < nb
        · obtain ⟨s, hs0⟩ : ∃ s, lb[i]? = some s := ⟨_, List.getElem?_eq_getElem (by rw [← HNB.out]; exact hil)⟩
          have hle := cnt_le S6.out.ok HLB.out (i := i)
          obtain ⟨b3, o3, rfl, hc3⟩ := (own_reads hS.drop.row).resolve_left (by
            intro e
            rw [List.map_eq_nil_iff] at e
            rw [e] at hs0
            simp at hs0)
          have c3 : wr.cell? ⟨b3, o3 + i, none⟩ = some (.int .i64 s) := hc3 i _ (by rw [List.getElem?_map, hs0]; rfl)
          have T1 := Lib.hid hS
          have HS := Lib.hid hs0
          clear hS hs0 hc3
          cases hg : d.get s with
          | none =>
            have HP := Lib.hid (T1.out.place' k i (placeR_none hlt HLB.out HS.out hg))
            have HG := Lib.hid (get_res_none hg)
            have HN := Lib.hid (cnt_none (k := k) HS.out hg)
            clear hg
            go_wp2_with fail
            refine HP.out.mono ?_
            rintro e v1 ⟨rfl, hs⟩
            simp only [Hd.val, noHd]
            have T2 := Lib.hid (hs.alloc1 34 #[.int .i64 0, .int .i64 0, .int .i64 0, .int .i64 0, .int .u8 ((0 : Nat) : Int)])
            clear hs HP
            have HP := Lib.hid (T2.out.get' s HG.out)
            go_wp2_with fail
            refine HP.out.mono ?_
            rintro e v2 ⟨rfl, hs⟩
            simp only [Hd.val, noHd]
            have T3 := Lib.hid (hs.swap.drop.alloc1 34 #[.int .i64 0, .int .i64 0, .int .i64 0, .int .i64 0, .int .u8 ((0 : Nat) : Int)])
            clear hs HP
            go_wp2
            go_roundw
            case rel => exact ⟨i + 1, by omega, by go_num, by rw [HN.out], T3.out.swap.drop⟩
            case measure => simp [intOf]; omega
          | some h =>
            obtain ⟨hm, hser⟩ := get_some hg
            have hwho := S6.out.ok.pwho h hm k lb HLB.out (by rw [hser]; exact List.mem_of_getElem? HS.out)
            have hpl := placeR_some hlt HLB.out HS.out hg
            have hgr := get_res_some hg
            obtain ⟨h1, h2, h3', h4, h5⟩ := h
            simp only at hser hwho
            subst hser hwho
            have HP := Lib.hid (T1.out.place' k i hpl)
            have HG := Lib.hid hgr
            have HN := Lib.hid (cnt_some (k := k) HS.out hg)
            have HGG := Lib.hid hg
            clear hg hm hpl hgr
            go_wp2_with fail
            refine HP.out.mono ?_
            rintro e v1 ⟨rfl, hs⟩
            simp only [Hd.val]
            have T2 := Lib.hid (hs.alloc1 34 #[.int .i64 h1, .int .i64 h2, .int .i64 h3', .int .i64 k, .int .u8 (h5 : Int)])
            clear hs HP
            have HP := Lib.hid (T2.out.get' h1 HG.out)
            go_wp2_with fail
            refine HP.out.mono ?_
            rintro e v2 ⟨rfl, hs⟩
            simp only [Hd.val]
            have hs2 := hs.alloc1 34 #[.int .i64 h1, .int .i64 h2, .int .i64 h3', .int .i64 k, .int .u8 (h5 : Int)]
            have B15 := hs2.blk2
            have B17 := hs2.blk1
            have f0 : (v2.alloc (.cells #[.int .i64 h1, .int .i64 h2, .int .i64 h3', .int .i64 k, .int .u8 (h5 : Int)] 34)).cell? ⟨v1.heap.size, 0, none⟩ = some (.int .i64 h1) := B15.cell 0
            have f1 : (v2.alloc (.cells #[.int .i64 h1, .int .i64 h2, .int .i64 h3', .int .i64 k, .int .u8 (h5 : Int)] 34)).cell? ⟨v1.heap.size, 1, none⟩ = some (.int .i64 h2) := B15.cell 1
            have f2 : (v2.alloc (.cells #[.int .i64 h1, .int .i64 h2, .int .i64 h3', .int .i64 k, .int .u8 (h5 : Int)] 34)).cell? ⟨v1.heap.size, 2, none⟩ = some (.int .i64 h3') := B15.cell 2
            have f3 : (v2.alloc (.cells #[.int .i64 h1, .int .i64 h2, .int .i64 h3', .int .i64 k, .int .u8 (h5 : Int)] 34)).cell? ⟨v1.heap.size, 3, none⟩ = some (.int .i64 k) := B15.cell 3
            have f4 : (v2.alloc (.cells #[.int .i64 h1, .int .i64 h2, .int .i64 h3', .int .i64 k, .int .u8 (h5 : Int)] 34)).cell? ⟨v1.heap.size, 4, none⟩ = some (.int .u8 (h5 : Int)) := B15.cell 4
            have T3 := Lib.hid hs2.swap.drop
            clear hs HP hs2 B15 B17
            by_cases hia : i < na
            · have hcp2 : c.placeRes (k : Int) (i : Int) = (⟨h1, h2, h3', (k : Int), h5⟩, 0) := by
                have hi' : la[i]? = some h1 := by
                  have := HS.out
                  rw [LBE.out, List.getElem?_append_left (by rw [← HNA.out]; exact hia)] at this
                  exact this
                refine placeR_some hlt HLA.out hi' (GR.out.get h1 _ ?_ HGG.out)
                exact (S6.out.drop.ok.plow la (List.mem_of_getElem? HLA.out) h1 (List.mem_of_getElem? hi')).2
              have HP := Lib.hid (T3.out.up4.place' k i hcp2)
              clear hcp2
              go_wp2_with fail
              refine HP.out.mono ?_
              rintro e v3 ⟨rfl, hs⟩
              simp only [Hd.val]
              have hs2 := hs.alloc1 34 #[.int .i64 h1, .int .i64 h2, .int .i64 h3', .int .i64 k, .int .u8 (h5 : Int)]
              have B15 := hs2.up4.up4.blk1
              clear f0 f1 f2 f3 f4
              have f0 : (v3.alloc (.cells #[.int .i64 h1, .int .i64 h2, .int .i64 h3', .int .i64 k, .int .u8 (h5 : Int)] 34)).cell? ⟨v1.heap.size, 0, none⟩ = some (.int .i64 h1) := B15.cell 0
              have f1 : (v3.alloc (.cells #[.int .i64 h1, .int .i64 h2, .int .i64 h3', .int .i64 k, .int .u8 (h5 : Int)] 34)).cell? ⟨v1.heap.size, 1, none⟩ = some (.int .i64 h2) := B15.cell 1
              have f2 : (v3.alloc (.cells #[.int .i64 h1, .int .i64 h2, .int .i64 h3', .int .i64 k, .int .u8 (h5 : Int)] 34)).cell? ⟨v1.heap.size, 2, none⟩ = some (.int .i64 h3') := B15.cell 2
              have f3 : (v3.alloc (.cells #[.int .i64 h1, .int .i64 h2, .int .i64 h3', .int .i64 k, .int .u8 (h5 : Int)] 34)).cell? ⟨v1.heap.size, 3, none⟩ = some (.int .i64 k) := B15.cell 3
              have f4 : (v3.alloc (.cells #[.int .i64 h1, .int .i64 h2, .int .i64 h3', .int .i64 k, .int .u8 (h5 : Int)] 34)).cell? ⟨v1.heap.size, 4, none⟩ = some (.int .u8 (h5 : Int)) := B15.cell 4
              have T4 := Lib.hid (hs2.up4.up4.swap.drop.up3.drop.up3.swap)
              clear hs hs2 HP B15
              go_wp2
              go_roundw
              case rel => exact ⟨i + 1, by omega, by go_num, by rw [HN.out]; rfl, T4.out⟩
              case measure => simp [intOf]; omega
            · go_wp2
              go_roundw
              case rel => exact ⟨i + 1, by omega, by go_num, by rw [HN.out]; rfl, T3.out.swap.drop⟩
              case measure => simp [intOf]; omega
        · obtain rfl : i = nb := by omega
          have he : cntAt d k lb i = heldBy d (k + 1) := by
            have := cnt_end S6.out.ok HLB.out
            rwa [← HNB.out] at this
          rw [he]
          have T4 := Lib.hid hS.swap.drop.swap
          clear hS he
          go_wp2
          go_roundw
          case rel => exact ⟨k + 1, by omega, by go_num, rfl, T4.out.swap.up3.drop⟩
          case measure => simp [intOf]; omega
    · obtain rfl : k = 17 := by omega
      rw [held_all d S6.out.ok]
      have T1 := Lib.hid hS
      clear hS
      go_wp2_with fail
      refine T1.out.len.mono ?_
      rintro e v1 ⟨rfl, rfl⟩
      go_wp2
      go_ret
      exact ⟨by simp, T1.out.whole⟩
end Go.Proofs.Ytmndckeohfcgkaa
