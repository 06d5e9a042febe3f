/- The walk of CapsNever. -/
import Derived.Test.YtmndckeohfcgkaaRevokeLaw
import Derived.Shelf.SlSortCmp.QuietGrown
namespace Go.Proofs.Ytmndckeohfcgkaa
open Go.RowKit
open Go.Sort (grow alloc_eq_grow grow_empty)
theorem Kept.grow (F : List Nat) (w : World) (n : Nat) (os : Array Obj) : Kept F w (grow (w.drewN n) os) :=
  ⟨rfl, rfl, rfl, by simp [World.drewN], fun b hb _ => by
    show (w.heap ++ os)[b]? = _
    rw [Array.getElem?_append_left hb]⟩
theorem drewN_zero (w : World) : w.drewN 0 = w := rfl
theorem Right_grown (W : World) (m : Nat) :
    Calls Try.prog 21 #[.int .u8 (m : Int)] W fun e w' => e = .returned (.bool (decide (m ≤ 15))) ∧ ∃ q os', w' = grow (W.drewN q) os' := by
  have H := Lib.hid (right_new W [m] (by simp) #[.int .u8 (m : Int)] rfl 1 rfl 1)
  have e : oks [m] = decide (m ≤ 15) := by simp [oks]
  rw [e] at H
  clear e
  go_enter Try.func21, Try.ntmps21
  go_wp2_with (go_at_call 44; refine H.out.mono ?_; rintro e w' ⟨rfl, rfl⟩)
  go_ret
  exact ⟨rfl, 0, #[.cells #[.int .u8 (m : Int)] 32], by rw [drewN_zero, alloc_eq_grow]⟩
set_option maxRecDepth 100000 in
set_option maxHeartbeats 4000000 in
theorem capsNever_calls {w : World} {A : Option Addr} {cA : Nat} {l : List Sm} (hA : Reads w A (flatS l)) (lA : ∀ x ∈ l, x.ok) (nA : l.length ≤ maxLen) (kA : l.length ≤ cA) :
    Calls Try.prog 4 #[.slice A l.length cA] w fun e w' => e = .returned (.bool true) ∧ Kept [] w w' := by
  have HA := Lib.hid hA
  have LA := Lib.hid lA
  have NA := Lib.hid nA
  have KA := Lib.hid kA
  clear hA lA nA kA
  have hmix : Try.prog.follows .mixedOrders = true := by kernel_rfl
  go_enter Try.func4, Try.ntmps4
  go_wp2_with fail
  refine (awake_calls w).mono ?_
  rintro e w1 ⟨rfl, hk⟩
  have K1 := Lib.hid hk
  clear hk
  go_wp2_with fail
  refine (Made_calls ((St.nil w).kept K1.out) HA.out LA.out NA.out KA.out).mono ?_
  rintro e w2 ⟨a, rfl, hs, hf⟩
  generalize madeAll (newCT 100) (l.take 60) = c at hs hf
  have S2 := Lib.hid hs
  have few := hs.ok.few
  have FW := Lib.hid hf
  clear hs hf
  go_wp2_with fail
  refine S2.out.all.mono ?_
  rintro e w3 ⟨A3, p3, rfl, hs⟩
  have S3 := Lib.hid hs
  clear hs
  go_wp2
  go_loopw [6, 24] (fun o i wr => ∃ (k : Nat) (last : Int), k ≤ c.live.length ∧ i = .int .i64 k ∧ o = .int .i64 last ∧ (∀ h ∈ c.live.drop k, last < h.serial) ∧ St w wr [.tab a c, .row (.slice A3 c.live.length p3) 34 5 c.live.length (flatH c.live)]) (fun _ i _ => c.live.length - (intOf i).toNat)
  case atStart => exact ⟨0, 99, Nat.zero_le _, rfl, rfl, fun h hh => by have := FW.out.ser h (by simpa using hh); omega, S3.out⟩
  case round =>
    obtain ⟨k, last, hk, rfl, rfl, hL, hS⟩ := hrel
    by_cases hlt : k < c.live.length
    · obtain ⟨h, hh⟩ : ∃ h, c.live[k]? = some h := ⟨_, List.getElem?_eq_getElem hlt⟩
      have hhm := List.mem_of_getElem? hh
      have hke := List.getElem?_eq_some_iff.1 hh
      have hd : c.live.drop k = h :: c.live.drop (k + 1) := by rw [List.drop_eq_getElem_cons hke.1, hke.2]
      have hl1 : last < h.serial := hL h (by rw [hd]; simp)
      have hL2 : ∀ y ∈ c.live.drop (k + 1), h.serial < y.serial := by
        have := (S2.out.ok.asc.drop (i := k))
        rw [hd] at this
        exact (List.pairwise_cons.1 this).1
      have hlow := S2.out.ok.low h hhm
      have hhol := S2.out.ok.hol h hhm
      have hrt := S2.out.ok.rts h hhm
      obtain ⟨hn1, hn2⟩ := hlow
      obtain ⟨hh1, hh2⟩ := hhol
      obtain ⟨b3, o3, rfl, hc3⟩ := (own_reads hS.drop.row).resolve_left (by intro e; rw [flatH_nil.1 e] at hlt; exact Nat.not_lt_zero _ hlt)
      obtain ⟨f0, f1, f2, f3, f4⟩ := hd_cells (Kept.refl [] wr) hc3 hh
      have hS1 := hS.alloc1 34 #[.int .i64 h.serial, .int .i64 h.parent, .int .i64 h.port, .int .i64 h.holder, .int .u8 (h.rights : Int)]
      have T1 := Lib.hid hS1
      have HL2 := Lib.hid hL2
      have HHM := Lib.hid hhm
      clear hS hS1 hL hL2 hke hd hh hc3 hhm
      go_wp2
      generalize hW : wr.alloc (.cells #[.int .i64 h.serial, .int .i64 h.parent, .int .i64 h.port, .int .i64 h.holder, .int .u8 (h.rights : Int)] 34) = W at *
      have bh := T1.out.blk1
      have d0 : ∀ n os, (grow (W.drewN n) os).cell? ⟨wr.heap.size, 0, none⟩ = some (.int .i64 h.serial) := fun n os => cell_grown bh.lt (bh.cell 0) n os
      have d3 : ∀ n os, (grow (W.drewN n) os).cell? ⟨wr.heap.size, 3, none⟩ = some (.int .i64 h.holder) := fun n os => cell_grown bh.lt (bh.cell 3) n os
      have d4 : ∀ n os, (grow (W.drewN n) os).cell? ⟨wr.heap.size, 4, none⟩ = some (.int .u8 (h.rights : Int)) := fun n os => cell_grown bh.lt (bh.cell 4) n os
      have HNX : Hid (∀ n os, Calls Try.prog 20 #[.pointer (some ⟨a, 0, none⟩)] (grow (W.drewN n) os) fun e w' => e = .returned (.int .i64 c.next) ∧ ∃ q os', w' = grow ((grow (W.drewN n) os).drewN q) os') := Lib.hid fun n os => by
        refine (T1.out.kept (Kept.grow _ _ n os)).next.mono ?_
        rintro e w' ⟨rfl, rfl⟩
        exact ⟨rfl, 0, #[], by rw [drewN_zero, grow_empty]⟩
      have HRG : Hid (∀ n os, Calls Try.prog 21 #[.int .u8 (h.rights : Int)] (grow (W.drewN n) os) fun e w' => e = .returned (.bool true) ∧ ∃ q os', w' = grow ((grow (W.drewN n) os).drewN q) os') := Lib.hid fun n os => by
        have := Right_grown (grow (W.drewN n) os) h.rights
        rwa [decide_eq_true hrt] at this
      clear bh hW
      go_quiet_grown (first | (go_at_call 20; refine Calls.grown_of (HNX.out _ _)) | (go_at_call 21; refine Calls.grown_of (HRG.out _ _)))
      have T2 := Lib.hid (T1.out.kept (Kept.grow _ _ nq osq))
      clear d0 d3 d4 HNX HRG T1
      generalize grow (W.drewN nq) osq = W2 at *
      have bh := T2.out.blk1
      have d0 := bh.cell 0
      have d1 := bh.cell 1
      have d2 := bh.cell 2
      have d4 := bh.cell 4
      have dl := bh.lt
      clear bh
      by_cases h0 : h.parent = 0
      · have h0b : (h.parent == 0) = true := by simp [h0]
        clear h0
        go_wp2
        go_roundw
        case rel => exact ⟨k + 1, h.serial, by omega, by go_num, rfl, HL2.out, T2.out.swap.drop⟩
        case measure => simp [intOf]; omega
      · have h0b : (h.parent == 0) = false := by simp [h0]
        obtain ⟨u, hu, e1, e2, e3, e4, e5⟩ := (S2.out.ok.par h HHM.out).resolve_left h0
        have hfr : findRes c.live h.parent = (u, true) := by
          have := S2.out.ok.get_mem hu
          unfold CT.get at this
          rw [e1] at this
          unfold findRes
          rw [this]
        have hf := find22 (cp := p3) (s := h.parent) (own_reads T2.out.drop.drop.row) (by omega)
        rw [hfr] at hf
        simp only [Hd.val] at hf
        have HF := Lib.hid hf
        have hge : u.serial < h.serial := e2
        have hpe : (u.port != h.port) = false := by simp [e3]
        have hgr : (bits .and .u8 (u.rights : Int) 4 == 0) = false := by unfold grants at e4; simpa using e4
        have HBL : Hid (∀ W, Calls Try.prog 23 #[.int .u8 (h.rights : Int), .int .u8 (u.rights : Int)] W fun e w' => e = .returned (.bool true) ∧ Kept [] W w') := Lib.hid fun W => by
          have := Below_calls W h.rights u.rights
          rwa [e5] at this
        clear h0 hfr hf hu e1 e2 e3 e4 e5
        go_wp2_with fail
        refine HF.out.mono ?_
        rintro e w5 ⟨rfl, hk5⟩
        have T3 := Lib.hid ((T2.out.kept hk5).alloc1 34 #[.int .i64 u.serial, .int .i64 u.parent, .int .i64 u.port, .int .i64 u.holder, .int .u8 (u.rights : Int)])
        have bh := (T2.out.kept hk5).blk1
        have q0 := bh.cell 0
        have q2 := bh.cell 2
        have q4 := bh.cell 4
        have ql := bh.lt
        clear hk5 bh
        go_wp2_with fail
        refine (HBL.out _).mono ?_
        rintro e w6 ⟨rfl, hk6⟩
        have T4 := Lib.hid (T3.out.kept hk6)
        clear hk6
        go_wp2
        go_roundw
        case rel => exact ⟨k + 1, h.serial, by omega, by go_num, rfl, HL2.out, T4.out.swap.drop.swap.drop⟩
        case measure => simp [intOf]; omega
    · obtain rfl : k = c.live.length := by omega
      have T1 := Lib.hid hS
      clear hS hL
      go_wp2_with fail
      refine T1.out.len.mono ?_
      rintro e w' ⟨rfl, rfl⟩
      go_wp2
      go_ret
      exact ⟨by simp, T1.out.whole⟩
end Go.Proofs.Ytmndckeohfcgkaa
