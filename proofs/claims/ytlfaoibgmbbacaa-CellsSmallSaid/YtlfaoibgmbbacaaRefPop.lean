/- The walk of the reference's Pop. -/
import Derived.Test.YtlfaoibgmbbacaaRefChg
namespace Go.Proofs.Ytlfaoibgmbbacaa
open Go.RowKit
def CM.pop (c : CM) (back : Bool) : CM := if back = true then c.back else c.keep
theorem pop_turned {w w' : World} {F F1 : List Nat} {nv : Value} {now : List (List Int)} {c : CM} {Am R : Option Addr} {vm : List Value} {q m : Nat} {s : List (List Int)} {ms : List (List (List Int))} {rs : List Res}
    (hg : GridIs w' F1 nv now) (hF1 : ∀ b ∈ F1, b ∈ F ∨ w.heap.size ≤ b) (hm : MarksIs w F Am vm c.marks) (hms : c.marks = ms ++ [s]) (hml : m = ms.length)
    (S : St w w' (.row (.slice R m q) 60 1 m (vm.take m) :: rs)) : Turned w w' F (.agg #[nv, .slice R m q]) ⟨now, ms⟩ := by
  subst hml
  obtain ⟨hm1, hm2, hm3⟩ := hm
  have hk := S.whole
  refine ⟨F ++ (F1 ++ (Value.slice R ms.length q).ownBlock.toList), ⟨_, _, rfl, hg.mono fun b hb => by simp [hb], R, q, vm.take ms.length, rfl, own_fits S.row, own_readsIn S.row fun b hb => by simp [hb], by rw [List.length_take, hm2, hms]; simp, fun k t ht => ?_⟩, hk, fun b hb => List.mem_append_left _ hb, fun b hb => ?_⟩
  · have h1 := (List.getElem?_eq_some_iff.1 ht).1
    simp only at h1
    obtain ⟨u, hu1, hu2⟩ := hm3 k t (by rw [hms, List.getElem?_append_left h1]; exact ht)
    exact ⟨u, by rw [List.getElem?_take_of_lt h1]; exact hu1, (hu2.kept hk (by simp)).mono fun b hb => List.mem_append_left _ hb⟩
  · rcases List.mem_append.1 hb with hb | hb
    · exact .inl hb
    · rcases List.mem_append.1 hb with hb | hb
      · exact hF1 b hb
      · exact .inr (S.rowAbove b hb)
set_option maxRecDepth 100000 in
theorem refPop_none {w : World} {F : List Nat} {v : Value} {now : List (List Int)} (back : Bool) (h : RefIs w F v ⟨now, []⟩) :
    Calls Try.prog 40 #[v, .bool back] w fun e w' => ∃ v', e = .returned (.tuple #[v', .int .i64 0, .int .i64 213]) ∧ Turned w w' F v' ⟨now, []⟩ := by
  have H := Lib.hid h
  obtain ⟨nv, mv, rfl, hg, Am, capm, vm, rfl, hcap, hm⟩ := h
  obtain ⟨An, capn, vn, rfl, _⟩ := hg
  simp only [List.length_nil] at *
  generalize hv : (w.alloc (.cells #[.slice An now.length capn, .slice Am 0 capm] 86)) = w1
  generalize hv2 : (w1.alloc (.cells #[.slice none 0 0, .slice none 0 0] 86)) = w2
  have s0 : St w w1 [.blk w.heap.size 86 #[.slice An now.length capn, .slice Am 0 capm]] := by rw [← hv]; exact (St.nil w).blkNew _ _
  have s1 : St w w2 [.blk w1.heap.size 86 #[.slice none 0 0, .slice none 0 0], .blk w.heap.size 86 #[.slice An now.length capn, .slice Am 0 capm]] := by rw [← hv2]; exact s0.blkNew _ _
  have c0 : w2.cell? ⟨w.heap.size, 0, none⟩ = some (.slice An now.length capn) := s1.blk1.cell 0
  have c1 : w2.cell? ⟨w.heap.size, 1, none⟩ = some (.slice Am 0 capm) := s1.blk1.cell 1
  have x0 := s1.blk0.cell 0
  have x1 := s1.blk0.cell 1
  have z := s1.blk0.frozen
  have S1 := Lib.hid s1
  clear s0 s1 hm hcap
  go_enter Try.func40, Try.ntmps40
  go_wp2
  have s5 := S1.out.put2 (.slice An now.length capn) (.slice Am 0 capm)
  refine bodyPost_ret (results_c86 rfl rfl s5.blk0) rfl ?_
  exact ⟨_, rfl, F, H.out.kept s5.whole (by simp), s5.whole, fun b hb => hb, fun b hb => .inl hb⟩
set_option maxRecDepth 100000 in
set_option maxHeartbeats 4000000 in
theorem refPop_some {w : World} {F : List Nat} {v : Value} {now s : List (List Int)} {ms : List (List (List Int))} (back : Bool) (h : RefIs w F v ⟨now, ms ++ [s]⟩) (hn : now.length ≤ 16) (hs : ∀ xs ∈ now, xs.length ≤ 1024) (h64 : ms.length ≤ 63) (hsh : ∀ t ∈ ms ++ [s], lens t = lens now) :
    Calls Try.prog 40 #[v, .bool back] w fun e w' => ∃ v', e = .returned (.tuple #[v', .int .i64 ((CM.mk now (ms ++ [s])).changes.length : Int), .int .i64 0]) ∧ Turned w w' F v' ⟨if back = true then s else now, ms⟩ := by
  have HC := Lib.hid fun (W : World) (hW : Kept [] w W) => refChanges_calls (h.kept hW (by simp)) hn hs (by simp; omega) hsh
  obtain ⟨nv, mv, rfl, hg, Am, capm, vm, rfl, hcap, hm⟩ := h
  have hg' := hg
  obtain ⟨An, capn, vn, rfl, _⟩ := hg'
  have HG := Lib.hid hg
  have HM : Hid (MarksIs w F Am vm (ms ++ [s])) := Lib.hid hm
  obtain ⟨hm1, hm2, hm3⟩ := hm
  obtain ⟨u, hu, Au, capu, vu, hus, hru⟩ := hm3 ms.length s (by simp)
  have hgu : GridIs w F u s := ⟨Au, capu, vu, hus, hru⟩
  subst hus
  obtain ⟨bm, om, rfl, _, _, hcm⟩ := hm1.resolve_left (by intro e; rw [e] at hu; simp at hu)
  have hcu := hcm ms.length _ hu
  have hsl : s.length ≤ 1024 ∧ ∀ xs ∈ s, xs.length ≤ 1024 := by
    have h1 := hsh s (by simp)
    refine ⟨by have := congrArg List.length h1; simp only [lens, List.length_map] at this; omega, fun xs hx => ?_⟩
    obtain ⟨k, hk⟩ := List.mem_iff_getElem?.1 hx
    have h2 : (lens s)[k]? = (lens now)[k]? := by rw [h1]
    simp only [lens, List.getElem?_map, hk, Option.map_some] at h2
    obtain ⟨ys, hy, hyl⟩ := Option.map_eq_some_iff.1 h2.symm
    have := hs ys (List.mem_of_getElem? hy)
    omega
  have hv1 : ∀ x ∈ vm, x.oneCell' = true := by
    intro x hx
    obtain ⟨n, hn⟩ := List.getElem?_of_mem hx
    have hl : n < (ms ++ [s]).length := by rw [← hm2]; exact (List.getElem?_eq_some_iff.1 hn).1
    obtain ⟨u', h1, h2⟩ := hm3 n _ (List.getElem?_eq_getElem hl)
    rw [hn] at h1
    cases h1
    exact grid_one h2
  have HV1 : Hid (∀ x ∈ vm.take ms.length, x.oneCell' = true) := Lib.hid fun x hx => hv1 x (List.mem_of_mem_take hx)
  have HVL : Hid ((vm.take ms.length).length = ms.length * 1) := Lib.hid (by rw [List.length_take, hm2]; simp)
  have HCM : Hid (∀ W, Kept [] w W → ∀ j x, (vm.take ms.length)[j]? = some x → W.cell? ((⟨bm, om, none⟩ : Addr).add j) = some x) := Lib.hid fun W hW j x hj => by
    rw [addr_add]
    refine hW.cell (hcm j x ?_) (by simp)
    have h1 : j < ms.length := by
      have := (List.getElem?_eq_some_iff.1 hj).1
      rw [List.length_take] at this
      omega
    rwa [List.getElem?_take_of_lt h1] at hj
  have HGU := Lib.hid hgu
  have HSL := Lib.hid hsl
  obtain ⟨i0, hi, hz0, hz1, hz2⟩ := info_parts info60
  simp only [List.length_append, List.length_cons, List.length_nil, Nat.zero_add] at hcap
  rw [show (CM.mk now (ms ++ [s])).marks.length = ms.length + 1 by simp] at *
  generalize hv : (w.alloc (.cells #[.slice An now.length capn, .slice (some ⟨bm, om, none⟩) (ms.length + 1) capm] 86)) = w1
  generalize hv2 : (w1.alloc (.cells #[.slice none 0 0, .slice none 0 0] 86)) = w2
  have s0 : St w w1 [.blk w.heap.size 86 #[.slice An now.length capn, .slice (some ⟨bm, om, none⟩) (ms.length + 1) capm]] := by rw [← hv]; exact (St.nil w).blkNew _ _
  have s1 : St w w2 [.blk w1.heap.size 86 #[.slice none 0 0, .slice none 0 0], .blk w.heap.size 86 #[.slice An now.length capn, .slice (some ⟨bm, om, none⟩) (ms.length + 1) capm]] := by rw [← hv2]; exact s0.blkNew _ _
  have c0 : w2.cell? ⟨w.heap.size, 0, none⟩ = some (.slice An now.length capn) := s1.blk1.cell 0
  have c1 : w2.cell? ⟨w.heap.size, 1, none⟩ = some (.slice (some ⟨bm, om, none⟩) (ms.length + 1) capm) := s1.blk1.cell 1
  have HX := Lib.hid (HC.out w2 s1.whole)
  have S1 := Lib.hid s1
  clear s0 s1 hg hm1 hm2 hm3 hs hsh hgu hsl hv1 hcm hru
  generalize (CM.mk now (ms ++ [s])).changes = ch at *
  go_enter Try.func40, Try.ntmps40
  go_wp2_with fail
  refine HX.out.mono ?_
  rintro e w3 ⟨A3, p3, rfl, ho, hk⟩
  have s2 := S1.out.kept hk
  have c0' : w3.cell? ⟨w.heap.size, 0, none⟩ = some (.slice An now.length capn) := s2.blk1.cell 0
  have c1' : w3.cell? ⟨w.heap.size, 1, none⟩ = some (.slice (some ⟨bm, om, none⟩) (ms.length + 1) capm) := s2.blk1.cell 1
  have e1 : w3.cell? ⟨bm, om + ms.length, none⟩ = some (.slice Au s.length capu) := s2.whole.cell hcu (by simp)
  have z2 := s2.blk1.frozen
  have S2 := Lib.hid s2
  clear ho hk HX c0 c1 hv hv2 s2 hcu S1
  have hmc : (ms.length : Int) ≤ capm := by omega
  cases back with
  | false =>
    have SE := Lib.hid (S2.out.made 60)
    have y1 : (w3.alloc (.cells #[] 60)).cell? ⟨w.heap.size, 1, none⟩ = some (.slice (some ⟨bm, om, none⟩) (ms.length + 1) capm) := SE.out.blk2.cell 1
    go_wp2_with (at_builtin
                 refine wpList_append_own_at _ rfl _ _ 84 rfl 0 60 i0 (.slice none 0 0) 1 24 Try.underlying84 hi hz0 hz1 hz2 rfl (by decide) (.slice (some ⟨w3.heap.size, 0, none⟩) 0 0) 0 [] rfl SE.out.row ⟨bm, om, none⟩ ms.length capm (vm.take ms.length) rfl HVL.out (HCM.out _ SE.out.whole) HV1.out (by unfold maxLen; omega) (by omega) (Nat.zero_le _) ?_
                 intro v' w7 hown hgrow hnil hloc
                 have hs := SE.out.appendRow hgrow hown hloc
                 simp only [Nat.zero_add, List.nil_append] at hs
                 obtain ⟨R7, q7, rfl⟩ := own_slice hs.row
                 have y2 : w7.cell? ⟨w.heap.size, 0, none⟩ = some (.slice An now.length capn) := hs.blk2.cell 0
                 have y3 : w7.cell? ⟨w.heap.size, 1, none⟩ = some (.slice (some ⟨bm, om, none⟩) (ms.length + 1) capm) := hs.blk2.cell 1
                 have y4 := hs.blk2.frozen
                 have hs8 := (hs.up3.set_ 1 (.slice R7 ms.length q7)).up3
                 have x0 := hs8.blk0.cell 0
                 have x1 := hs8.blk0.cell 1
                 have x2 := hs8.blk0.frozen
                 have x3 := hs8.blk1.cell 0
                 have x4 := hs8.blk1.cell 1
                 have S8 := Lib.hid hs8
                 clear hs hs8 hown hgrow hnil hloc)
    have s9 := S8.out.put2 (.slice An now.length capn) (.slice R7 ms.length q7)
    refine bodyPost_ret (results_c86 rfl rfl s9.blk0) rfl ?_
    refine ⟨_, rfl, ?_⟩
    exact pop_turned (c := ⟨now, ms ++ [s]⟩) (F1 := F) (HG.out.kept s9.whole (by simp)) (fun b hb => .inl hb) HM.out rfl rfl s9.drop.drop
  | true =>
    have HQ := Lib.hid (copied_calls (F := F) (HGU.out.kept S2.out.whole (by simp)) HSL.out.1 HSL.out.2)
    go_wp2_with fail
    refine HQ.out.mono ?_
    rintro e w4 ⟨rv, rows, rfl, hog, hnow, hk3, hft⟩
    have hs := S2.out.gridNew hog hk3 hft
    obtain ⟨RA, cR, rfl⟩ := own_slice hog.rown
    have NW := Lib.hid hnow
    have hs5 := (hs.up3.set_ 0 (.slice RA rows.length cR)).swap.up3
    clear c0' c1' e1 z2
    have c0' : w4.cell? ⟨w.heap.size, 0, none⟩ = some (.slice An now.length capn) := hs.blk2.cell 0
    have z2 := hs.blk2.frozen
    have S5 := Lib.hid hs5
    clear hs hs5 hog hnow hk3 hft HQ
    go_upto_region 7 with fail
    generalize w4.setCell ⟨w.heap.size, 0, none⟩ (.slice RA rows.length cR) = w5 at *
    have S6 : Hid (St w w5 [.blk w1.heap.size 86 #[.slice none 0 0, .slice none 0 0], .grid (.slice RA rows.length cR) rows, .blk w.heap.size 86 #[.slice RA rows.length cR, .slice (some ⟨bm, om, none⟩) (ms.length + 1) capm]]) := Lib.hid (S5.out)
    have SE := Lib.hid (S6.out.made 60)
    have y1 : (w5.alloc (.cells #[] 60)).cell? ⟨w.heap.size, 1, none⟩ = some (.slice (some ⟨bm, om, none⟩) (ms.length + 1) capm) := SE.out.blk3.cell 1
    clear S2 S5 c0' z2
    go_wp2_with (at_builtin
                 refine wpList_append_own_at _ rfl _ _ 84 rfl 0 60 i0 (.slice none 0 0) 1 24 Try.underlying84 hi hz0 hz1 hz2 rfl (by decide) (.slice (some ⟨w5.heap.size, 0, none⟩) 0 0) 0 [] rfl SE.out.row ⟨bm, om, none⟩ ms.length capm (vm.take ms.length) rfl HVL.out (HCM.out _ SE.out.whole) HV1.out (by unfold maxLen; omega) (by omega) (Nat.zero_le _) ?_
                 intro v' w7 hown hgrow hnil hloc
                 have hs := SE.out.appendRow hgrow hown hloc
                 simp only [Nat.zero_add, List.nil_append] at hs
                 obtain ⟨R7, q7, rfl⟩ := own_slice hs.row
                 have y2 : w7.cell? ⟨w.heap.size, 0, none⟩ = some (.slice RA rows.length cR) := hs.blk3.cell 0
                 have y3 : w7.cell? ⟨w.heap.size, 1, none⟩ = some (.slice (some ⟨bm, om, none⟩) (ms.length + 1) capm) := hs.blk3.cell 1
                 have y4 := hs.blk3.frozen
                 have hs8 := (hs.up4.set_ 1 (.slice R7 ms.length q7)).up3
                 have x0 := hs8.blk0.cell 0
                 have x1 := hs8.blk0.cell 1
                 have x2 := hs8.blk0.frozen
                 have x3 := hs8.blk1.cell 0
                 have x4 := hs8.blk1.cell 1
                 have S8 := Lib.hid hs8
                 clear hs hs8 hown hgrow hnil hloc)
    have s9 := S8.out.put2 (.slice RA rows.length cR) (.slice R7 ms.length q7)
    refine bodyPost_ret (results_c86 rfl rfl s9.blk0) rfl ?_
    refine ⟨_, rfl, ?_⟩
    have hgr := s9.drop.drop.swap.grid.grid
    rw [NW.out] at hgr
    have hab := s9.drop.drop.swap.gridAbove
    exact pop_turned (c := ⟨now, ms ++ [s]⟩) hgr (fun b hb => .inr (hab b hb)) HM.out rfl rfl s9.drop.drop
theorem pop_nochange (c : CM) (back : Bool) (h : c.marks = []) : c.pop back = c ∧ c.popRes = (0, 213) := by
  obtain ⟨n, ms⟩ := c
  simp only at h
  subst h
  cases back <;> exact ⟨rfl, rfl⟩
theorem refPop_calls {w : World} {F : List Nat} {v : Value} {c : CM} (back : Bool) (h : RefIs w F v c) (hn : c.now.length ≤ 16) (hs : ∀ xs ∈ c.now, xs.length ≤ 1024) (h64 : c.marks.length ≤ 64) (hsh : ∀ s ∈ c.marks, lens s = lens c.now) :
    Calls Try.prog 40 #[v, .bool back] w fun e w' => ∃ v', e = .returned (.tuple #[v', .int .i64 c.popRes.1, .int .i64 c.popRes.2]) ∧ Turned w w' F v' (c.pop back) := by
  obtain ⟨now, marks⟩ := c
  rcases List.eq_nil_or_concat marks with rfl | ⟨ms, s, rfl⟩
  · rw [(pop_nochange ⟨now, []⟩ back rfl).1, (pop_nochange ⟨now, []⟩ back rfl).2]
    exact refPop_none back h
  · simp only [List.concat_eq_append] at *
    have e1 : (CM.mk now (ms ++ [s])).popRes = (((CM.mk now (ms ++ [s])).changes.length : Int), 0) := by
      unfold CM.popRes
      rw [changes_count]
      simp [CM.base]
    have e2 : (CM.mk now (ms ++ [s])).pop back = ⟨if back = true then s else now, ms⟩ := by
      cases back
      · simp [CM.pop, CM.keep]
      · simp [CM.pop, CM.back]
    rw [e1, e2]
    simp only [List.length_append, List.length_cons, List.length_nil] at h64
    exact refPop_some back h hn hs (by omega) hsh
end Go.Proofs.Ytlfaoibgmbbacaa
