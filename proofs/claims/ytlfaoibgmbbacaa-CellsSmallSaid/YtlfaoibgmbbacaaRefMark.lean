/- The walk of the reference's Mark. -/
import Derived.Test.YtlfaoibgmbbacaaHold
import Derived.Deep.RegionLaw
import Derived.Deep.CutRange
namespace Go.Proofs.Ytlfaoibgmbbacaa
open Go.RowKit
theorem info60 : (Try.prog.info? 60).map (fun i => (i.zero, i.size, i.bytes)) = some (some (.slice none 0 0), 1, 24) := by kernel_rfl
theorem grid_one {w : World} {F : List Nat} {u : Value} {ls : List (List Int)} (h : GridIs w F u ls) : u.oneCell' = true := by
  obtain ⟨A, cap, vs, rfl, _⟩ := h
  simp [Value.oneCell']
theorem St.made {w0 w : World} {rs : List Res} (h : St w0 w rs) (e : TypeId) : St w0 (w.alloc (.cells #[] e)) (.row (.slice (some ⟨w.heap.size, 0, none⟩) 0 0) e 1 0 [] :: rs) :=
  h.new (R := .row (.slice (some ⟨w.heap.size, 0, none⟩) 0 0) e 1 0 []) (Kept.alloc [] w (.cells #[] e)) (row_on (World.ownsRow_made (size := 1) (e := e) (base := 0) w #[] 0 (Nat.zero_le _) (by unfold maxLen; omega) (by simp))) (by simp [Value.ownBlock])
theorem fin_mark {w w7 : World} {b4 b8 bb n m capn : Nat} {An R : Option Addr} {q : Nat} {mv rv : Value} {rows : List RowL} {vm : List Value}
    (S : St w w7 [.row (.slice R (m + 1) q) 60 1 (m + 1) (vm ++ [rv]), .blk bb 60 #[rv], .grid rv rows, .blk b8 86 #[.slice none 0 0, .slice none 0 0], .blk b4 86 #[.slice An n capn, mv]]) :
    St w (w7.setCell ⟨b4, 1, none⟩ (.slice R (m + 1) q)) [.row (.slice R (m + 1) q) 60 1 (m + 1) (vm ++ [rv]), .grid rv rows, .blk b8 86 #[.slice none 0 0, .slice none 0 0], .blk b4 86 #[.slice An n capn, .slice R (m + 1) q]] := by
  have s1 := S.swap.drop.up4.set_ 1 (.slice R (m + 1) q)
  exact s1.perm (List.perm_middle (l₁ := [_, _, _]) (l₂ := [])).symm
theorem own_fits {w : World} {base n cap size : Nat} {e : TypeId} {A : Option Addr} {xs : List Value} (h : w.ownsRow base e size (.slice A n cap) n xs) : n ≤ cap := by
  rcases h.2 with ⟨e1, e2⟩ | ⟨g, cap', cur, e1, _, _, hnc, _⟩
  · rw [e2]; exact Nat.zero_le _
  · cases e1; exact hnc
theorem St.rowAbove {w0 w : World} {rs : List Res} {v : Value} {e : TypeId} {size n : Nat} {xs : List Value} (h : St w0 w (.row v e size n xs :: rs)) : ∀ b ∈ v.ownBlock.toList, w0.heap.size ≤ b := by
  obtain ⟨hk, F, ⟨F1, F2, h1, _, _, rfl⟩, hF⟩ := h
  intro b hb
  exact hF b (List.mem_append_left _ (by rw [h1.2]; exact hb))
theorem St.gridAbove {w0 w : World} {rs : List Res} {rv : Value} {rows : List RowL} (h : St w0 w (.grid rv rows :: rs)) : ∀ b ∈ gridFoot rv rows, w0.heap.size ≤ b := by
  obtain ⟨hk, F, ⟨F1, F2, h1, _, _, rfl⟩, hF⟩ := h
  intro b hb
  exact hF b (List.mem_append_left _ (by rw [h1.2]; exact hb))
def MarksIs (w : World) (F : List Nat) (A : Option Addr) (vs : List Value) (ms : List (List (List Int))) : Prop :=
  ReadsIn w F A vs ∧ vs.length = ms.length ∧ ∀ (k : Nat) (s : List (List Int)), ms[k]? = some s → ∃ u : Value, vs[k]? = some u ∧ GridIs w F u s
theorem mark_turned {w w' : World} {F : List Nat} {nv : Value} {c : CM} {Am R : Option Addr} {vm : List Value} {q : Nat} {rv : Value} {rows : List RowL} {rs : List Res} (hg : GridIs w F nv c.now) (hm : MarksIs w F Am vm c.marks) (hnow : nowOf rows = c.now)
    (S : St w w' (.row (.slice R (c.marks.length + 1) q) 60 1 (c.marks.length + 1) (vm ++ [rv]) :: .grid rv rows :: rs)) : Turned w w' F (.agg #[nv, .slice R (c.marks.length + 1) q]) ⟨c.now, c.marks ++ [c.now]⟩ := by
  obtain ⟨hm1, hm2, hm3⟩ := hm
  have hk := S.whole
  refine ⟨F ++ ((Value.slice R (c.marks.length + 1) q).ownBlock.toList ++ gridFoot rv rows), ⟨_, _, rfl, (hg.kept hk (by simp)).mono fun b hb => List.mem_append_left _ hb, R, q, vm ++ [rv], by simp, by simpa using own_fits S.row, own_readsIn S.row fun b hb => by simp [hb], by simp [hm2], fun k s hs => ?_⟩, hk, fun b hb => List.mem_append_left _ hb, fun b hb => ?_⟩
  · simp only at hs
    by_cases h1 : k < c.marks.length
    · rw [List.getElem?_append_left h1] at hs
      obtain ⟨u, hu1, hu2⟩ := hm3 k s hs
      exact ⟨u, by rw [List.getElem?_append_left (by omega)]; exact hu1, (hu2.kept hk (by simp)).mono fun b hb => List.mem_append_left _ hb⟩
    · have h2 : k = c.marks.length := by
        have := (List.getElem?_eq_some_iff.1 hs).1
        simp at this
        omega
      subst h2
      simp at hs
      subst hs
      refine ⟨rv, by rw [List.getElem?_append_right (by omega)]; simp [hm2], ?_⟩
      have := S.drop.grid.grid
      rw [hnow] at this
      exact this.mono fun b hb => by simp [hb]
  · rcases List.mem_append.1 hb with hb | hb
    · exact .inl hb
    · rcases List.mem_append.1 hb with hb | hb
      · exact .inr (S.rowAbove b hb)
      · exact .inr (S.drop.gridAbove b hb)
set_option maxRecDepth 100000 in
set_option maxHeartbeats 8000000 in
theorem refMark_calls {w : World} {F : List Nat} {v : Value} {c : CM} (h : RefIs w F v c) (hn : c.now.length ≤ 1024) (hs : ∀ xs ∈ c.now, xs.length ≤ 1024) (h64 : c.marks.length ≤ 64) :
    Calls Try.prog 39 #[v] w fun e w' => ∃ v', e = .returned (.tuple #[v', .int .i64 c.markRes.1, .int .i64 c.markRes.2]) ∧ Turned w w' F v' c.mark := by
  have H := Lib.hid h
  obtain ⟨nv, mv, rfl, hg, Am, capm, vm, rfl, _, hm⟩ := h
  have hg' := hg
  obtain ⟨An, capn, vn, rfl, _⟩ := hg'
  have HN := Lib.hid hn
  have HS := Lib.hid hs
  have HG := Lib.hid hg
  have HM := Lib.hid hm
  clear hn hs hg hm
  obtain ⟨i0, hi, hz0, hz1, hz2⟩ := info_parts info60
  generalize hv : (w.alloc (.cells #[.slice An c.now.length capn, .slice Am c.marks.length capm] 86)) = w1
  generalize hv2 : (w1.alloc (.cells #[.slice none 0 0, .slice none 0 0] 86)) = w2
  have s0 : St w w1 [.blk w.heap.size 86 #[.slice An c.now.length capn, .slice Am c.marks.length capm]] := by rw [← hv]; exact (St.nil w).blkNew _ _
  have s1 : St w w2 [.blk w1.heap.size 86 #[.slice none 0 0, .slice none 0 0], .blk w.heap.size 86 #[.slice An c.now.length capn, .slice Am c.marks.length capm]] := by rw [← hv2]; exact s0.blkNew _ _
  have c0 : w2.cell? ⟨w.heap.size, 0, none⟩ = some (.slice An c.now.length capn) := s1.blk1.cell 0
  have c1 : w2.cell? ⟨w.heap.size, 1, none⟩ = some (.slice Am c.marks.length capm) := s1.blk1.cell 1
  have S1 := Lib.hid s1
  by_cases h6 : c.marks.length = 64
  · have e1 : c.markRes = (0, 5) := by unfold CM.markRes; rw [if_pos (by omega)]
    have e2 : c.mark = c := by unfold CM.mark; rw [if_pos (by omega)]
    rw [e1, e2]
    have h6' : ((c.marks.length : Int) == 64) = true := by simp; omega
    have x0 := s1.blk0.cell 0
    have x1 := s1.blk0.cell 1
    have z := s1.blk0.frozen
    clear e1 e2 h6 h64 s0 s1
    go_enter Try.func39, Try.ntmps39
    go_wp2
    have s5 := S1.out.put2 (.slice An c.now.length capn) (.slice Am c.marks.length capm)
    refine bodyPost_ret (results_c86 rfl rfl s5.blk0) rfl ?_
    exact ⟨_, rfl, F, H.out.kept s5.whole (by simp), s5.whole, fun b hb => hb, fun b hb => .inl hb⟩
  · have e1 : c.markRes = (((c.marks.length + 1 : Nat) : Int), 0) := by unfold CM.markRes; rw [if_neg (by omega)]
    have e2 : c.mark = ⟨c.now, c.marks ++ [c.now]⟩ := by unfold CM.mark; rw [if_neg (by omega)]
    rw [e1, e2]
    have h6' : ((c.marks.length : Int) == 64) = false := by simp; omega
    clear e1 e2 h6 s0 s1
    go_enter Try.func39, Try.ntmps39
    go_upto_region 3 with fail
    clear hv hv2 c0 c1
    go_cut [] from 10 to 19 (fun wx => ∃ R q rv rows, nowOf rows = c.now ∧ St w wx [.row (.slice R (c.marks.length + 1) q) 60 1 (c.marks.length + 1) (vm ++ [rv]), .grid rv rows, .blk w1.heap.size 86 #[.slice none 0 0, .slice none 0 0], .blk w.heap.size 86 #[.slice An c.now.length capn, .slice R (c.marks.length + 1) q]])
    case first =>
      obtain ⟨hm1, hm2, hm3⟩ := HM.out
      have hv1 : ∀ u ∈ vm, u.oneCell' = true := by
        intro u hu
        obtain ⟨n, hn⟩ := List.getElem?_of_mem hu
        have hl : n < c.marks.length := by rw [← hm2]; exact (List.getElem?_eq_some_iff.1 hn).1
        obtain ⟨u', h1, h2⟩ := hm3 n _ (List.getElem?_eq_getElem hl)
        rw [hn] at h1
        cases h1
        exact grid_one h2
      have HV1 := Lib.hid hv1
      have HM1 := Lib.hid hm1.reads
      have HM2 : Hid (vm.length = c.marks.length * 1) := Lib.hid (by rw [hm2]; omega)
      clear hm1 hm2 hm3 hv1
      have SD := Lib.hid (S1.out.kept (Kept.drew [] _))
      have SA := Lib.hid ((S1.out.made 60).kept (Kept.drew [] _))
      have cD0 : w2.drew.cell? ⟨w.heap.size, 0, none⟩ = some (.slice An c.now.length capn) := SD.out.blk1.cell 0
      have cD1 : w2.drew.cell? ⟨w.heap.size, 1, none⟩ = some (.slice Am c.marks.length capm) := SD.out.blk1.cell 1
      have cA0 : (w2.alloc (.cells #[] 60)).drew.cell? ⟨w.heap.size, 0, none⟩ = some (.slice An c.now.length capn) := SA.out.blk2.cell 0
      have cA1 : (w2.alloc (.cells #[] 60)).drew.cell? ⟨w.heap.size, 1, none⟩ = some (.slice Am c.marks.length capm) := SA.out.blk2.cell 1
      go_region_law (first
        | (go_simp; go_at_call 47
           refine (copied_calls (F := F) (HG.out.kept SD.out.whole (by simp)) HN.out HS.out).mono ?_
           rintro e w3 ⟨rv, rows, rfl, hog, hnow, hk3, hft⟩
           have hs := SD.out.gridNew hog hk3 hft
           obtain ⟨RA, cR, rfl⟩ := own_slice hog.rown
           have NW := Lib.hid hnow
           have p0 := hs
           have x30 : w3.cell? ⟨w.heap.size, 1, none⟩ = some (.slice Am c.marks.length capm) := p0.blk2.cell 1
           have pE := p0.made 60
           have PE := Lib.hid pE
           have x31 : (w3.alloc (.cells #[] 60)).cell? ⟨w.heap.size, 1, none⟩ = some (.slice Am c.marks.length capm) := pE.blk3.cell 1
           have pB := p0.blkNew 60 #[.slice RA rows.length cR]
           have x32 : (w3.alloc (.cells #[.slice RA rows.length cR] 60)).cell? ⟨w.heap.size, 1, none⟩ = some (.slice Am c.marks.length capm) := pB.blk3.cell 1
           have pEB := pE.mk1 60 #[.slice RA rows.length cR]
           simp only [World.size_alloc] at pEB
           have PEB := Lib.hid pEB
           have x33 : ((w3.alloc (.cells #[] 60)).alloc (.cells #[.slice RA rows.length cR] 60)).cell? ⟨w.heap.size, 1, none⟩ = some (.slice Am c.marks.length capm) := pEB.blk4.cell 1
           have pBE := pB.made 60
           simp only [World.size_alloc] at pBE
           have PBE := Lib.hid pBE
           have x34 : ((w3.alloc (.cells #[.slice RA rows.length cR] 60)).alloc (.cells #[] 60)).cell? ⟨w.heap.size, 1, none⟩ = some (.slice Am c.marks.length capm) := pBE.blk4.cell 1
           clear p0 pE pB pEB pBE
           clear hog hnow hk3 hft hs)
        | (go_simp; go_at_call 47
           refine (copied_calls (F := F) (HG.out.kept SA.out.whole (by simp)) HN.out HS.out).mono ?_
           rintro e w3 ⟨rv, rows, rfl, hog, hnow, hk3, hft⟩
           have hs := SA.out.gridNew hog hk3 hft
           obtain ⟨RA, cR, rfl⟩ := own_slice hog.rown
           have NW := Lib.hid hnow
           have p0 := hs.swap
           have Q0 := Lib.hid p0
           have x30 : w3.cell? ⟨w.heap.size, 1, none⟩ = some (.slice Am c.marks.length capm) := p0.blk3.cell 1
           have pB := p0.mk1 60 #[.slice RA rows.length cR]
           have QB := Lib.hid pB
           have x31 : (w3.alloc (.cells #[.slice RA rows.length cR] 60)).cell? ⟨w.heap.size, 1, none⟩ = some (.slice Am c.marks.length capm) := pB.blk4.cell 1
           clear p0 pB
           clear hog hnow hk3 hft hs)
        | (go_simp; go_at_call 47
           refine (copied_calls (F := F) (HG.out.kept S5.out.whole (by simp)) HN.out HS.out).mono ?_
           rintro e w3 ⟨rv, rows, rfl, hog, hnow, hk3, hft⟩
           have hs := S5.out.gridNew hog hk3 hft
           obtain ⟨RA, cR, rfl⟩ := own_slice hog.rown
           have NW := Lib.hid hnow
           have SZ := Lib.hid (hs.swap.mk1 60 #[.slice RA rows.length cR])
           clear hog hnow hk3 hft hs)
        | (refine step_append_st rfl (.tmp 10) (.tmp 12) 84 rfl 60 i0 (.slice none 0 0) 1 24 Try.underlying84 hi hz0 hz1 hz2 rfl (by decide) (.slice (some ⟨w2.heap.size, 0, none⟩) 0 0) 0 [] (by simp [Act.eval, Act.put]) SA.out Am c.marks.length capm vm (by simp [Act.eval, Act.put]) HM2.out (SA.out.whole.reads HM1.out (by simp)) HV1.out (by unfold maxLen; omega) (by omega) ?_
           intro v' w5 hs
           simp only [Nat.zero_add, List.nil_append] at hs
           obtain ⟨R6, q6, rfl⟩ := own_slice hs.row
           have y50 : w5.cell? ⟨w.heap.size, 0, none⟩ = some (.slice An c.now.length capn) := hs.blk2.cell 0
           have S5 := Lib.hid hs
           clear hs)
        | (refine step_append_st rfl (.tmp 10) (.tmp 12) 84 rfl 60 i0 (.slice none 0 0) 1 24 Try.underlying84 hi hz0 hz1 hz2 rfl (by decide) (.slice (some ⟨w3.heap.size, 0, none⟩) 0 0) 0 [] (by simp [Act.eval, Act.put]) PE.out Am c.marks.length capm vm (by simp [Act.eval, Act.put]) HM2.out (PE.out.whole.reads HM1.out (by simp)) HV1.out (by unfold maxLen; omega) (by omega) ?_
           intro v' w5 hs
           simp only [Nat.zero_add, List.nil_append] at hs
           obtain ⟨R6, q6, rfl⟩ := own_slice hs.row
           have SZ := Lib.hid (hs.mk1 60 #[.slice RA rows.length cR])
           clear hs)
        | (refine step_append_st rfl (.tmp 10) (.tmp 12) 84 rfl 60 i0 (.slice none 0 0) 1 24 Try.underlying84 hi hz0 hz1 hz2 rfl (by decide) (.slice (some ⟨w2.heap.size, 0, none⟩) 0 0) 0 [] (by simp [Act.eval, Act.put]) Q0.out Am c.marks.length capm vm (by simp [Act.eval, Act.put]) HM2.out (Q0.out.whole.reads HM1.out (by simp)) HV1.out (by unfold maxLen; omega) (by omega) ?_
           intro v' w5 hs
           simp only [Nat.zero_add, List.nil_append] at hs
           obtain ⟨R6, q6, rfl⟩ := own_slice hs.row
           have SZ := Lib.hid (hs.mk1 60 #[.slice RA rows.length cR])
           clear hs)
        | (refine step_append_st rfl (.tmp 10) (.tmp 12) 84 rfl 60 i0 (.slice none 0 0) 1 24 Try.underlying84 hi hz0 hz1 hz2 rfl (by decide) (.slice (some ⟨w3.heap.size, 0, none⟩) 0 0) 0 [] (by simp [Act.eval, Act.put]) PEB.out Am c.marks.length capm vm (by simp [Act.eval, Act.put]) HM2.out (PEB.out.whole.reads HM1.out (by simp)) HV1.out (by unfold maxLen; omega) (by omega) ?_
           intro v' w5 hs
           simp only [Nat.zero_add, List.nil_append] at hs
           obtain ⟨R6, q6, rfl⟩ := own_slice hs.row
           have SZ := Lib.hid hs
           clear hs)
        | (refine step_append_st rfl (.tmp 10) (.tmp 12) 84 rfl 60 i0 (.slice none 0 0) 1 24 Try.underlying84 hi hz0 hz1 hz2 rfl (by decide) (.slice (some ⟨w3.heap.size + 1, 0, none⟩) 0 0) 0 [] (by simp [Act.eval, Act.put]) PBE.out Am c.marks.length capm vm (by simp [Act.eval, Act.put]) HM2.out (PBE.out.whole.reads HM1.out (by simp)) HV1.out (by unfold maxLen; omega) (by omega) ?_
           intro v' w5 hs
           simp only [Nat.zero_add, List.nil_append] at hs
           obtain ⟨R6, q6, rfl⟩ := own_slice hs.row
           have SZ := Lib.hid hs
           clear hs)
        | (refine step_append_st rfl (.tmp 10) (.tmp 12) 84 rfl 60 i0 (.slice none 0 0) 1 24 Try.underlying84 hi hz0 hz1 hz2 rfl (by decide) (.slice (some ⟨w2.heap.size, 0, none⟩) 0 0) 0 [] (by simp [Act.eval, Act.put]) QB.out Am c.marks.length capm vm (by simp [Act.eval, Act.put]) HM2.out (QB.out.whole.reads HM1.out (by simp)) HV1.out (by unfold maxLen; omega) (by omega) ?_
           intro v' w5 hs
           simp only [Nat.zero_add, List.nil_append] at hs
           obtain ⟨R6, q6, rfl⟩ := own_slice hs.row
           have SZ := Lib.hid hs
           clear hs)
        | (refine step_append_st rfl (.tmp 13) (.tmp 17) 84 rfl 60 i0 (.slice none 0 0) 1 24 Try.underlying84 hi hz0 hz1 hz2 rfl (by decide) (.slice R6 c.marks.length q6) c.marks.length vm (by simp [Act.eval, Act.put]) SZ.out _ 1 1 [.slice RA rows.length cR] (by simp [Act.eval, Act.put]) rfl (reads_blk SZ.out.blk1) (by simp [Value.oneCell']) (by unfold maxLen; omega) (by omega) ?_
           intro v' w7 hs
           obtain ⟨R7, q7, rfl⟩ := own_slice hs.row
           have m7 : w7.cell? ⟨w.heap.size, 1, none⟩ = some (.slice Am c.marks.length capm) := hs.blk4.cell 1
           have z7 := hs.blk4.frozen 1
           have S8 := Lib.hid hs
           clear hs))
      all_goals (go_wp2_with fail; go_meet; exact ⟨R7, q7, _, rows, NW.out, fin_mark S8.out⟩)
    case rest =>
    obtain ⟨R, q, rv, rows, hnow, hS⟩ := hcut
    rename World => wx
    have s9 := hS.kept (Kept.drew [] _)
    have y0 : wx.drew.cell? ⟨w.heap.size, 0, none⟩ = some (.slice An c.now.length capn) := s9.blk3.cell 0
    have y1 : wx.drew.cell? ⟨w.heap.size, 1, none⟩ = some (.slice R (c.marks.length + 1) q) := s9.blk3.cell 1
    have y3 : wx.drew.cell? ⟨w1.heap.size, 0, none⟩ = some (.slice none 0 0) := s9.blk2.cell 0
    have y4 : wx.drew.cell? ⟨w1.heap.size, 1, none⟩ = some (.slice none 0 0) := s9.blk2.cell 1
    have y5 : wx.drew.frozen? ⟨w1.heap.size, 0, none⟩ = false := s9.blk2.frozen 0
    have y6 : wx.drew.frozen? ⟨w1.heap.size, 1, none⟩ = false := s9.blk2.frozen 1
    have z3 : wx.cell? ⟨w1.heap.size, 0, none⟩ = some (.slice none 0 0) := hS.blk2.cell 0
    have z4 : wx.cell? ⟨w1.heap.size, 1, none⟩ = some (.slice none 0 0) := hS.blk2.cell 1
    have z5 : wx.frozen? ⟨w1.heap.size, 0, none⟩ = false := hS.blk2.frozen 0
    have z6 : wx.frozen? ⟨w1.heap.size, 1, none⟩ = false := hS.blk2.frozen 1
    have s11 := (hS.up3.put2 (.slice An c.now.length capn) (.slice R (c.marks.length + 1) q)).kept (Kept.drew [] _)
    have y7 : ((wx.setCell ⟨w1.heap.size, 0, none⟩ (.slice An c.now.length capn)).setCell ⟨w1.heap.size, 1, none⟩ (.slice R (c.marks.length + 1) q)).drew.cell? ⟨w.heap.size, 1, none⟩ = some (.slice R (c.marks.length + 1) q) := s11.blk3.cell 1
    have SX := Lib.hid s11
    have NW := Lib.hid hnow
    clear s9 s11 hS hnow S1 hi hz0 hz1 hz2
    go_upto_region 4 with fail
    go_region
    go_wp2
    refine bodyPost_ret (results_c86 rfl rfl SX.out.blk0) rfl ?_
    exact ⟨_, rfl, mark_turned HG.out HM.out NW.out SX.out.drop⟩
end Go.Proofs.Ytlfaoibgmbbacaa

