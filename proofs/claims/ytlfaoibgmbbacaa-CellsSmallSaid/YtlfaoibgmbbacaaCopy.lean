/- The walk of Copy of package cells. -/
import Derived.Test.YtlfaoibgmbbacaaClone
import Derived.Deep.RegionWith
namespace Go.Proofs.Ytlfaoibgmbbacaa
open Go.RowKit
open Go.ChangeMaps (setBlock)

theorem chain_congr {now : List (List Int)} : ∀ {ts us : List TopL}, us.map (fun t => (t.snap, t.m)) = ts.map (fun t => (t.snap, t.m)) → Chain now ts → Chain now us
  | [], [], _, h => h
  | [], _ :: _, e, _ => by simp at e
  | _ :: _, [], e, _ => by simp at e
  | [t], [u], e, h => by
    simp only [List.map_cons, List.map_nil, List.cons.injEq, Prod.mk.injEq, and_true] at e
    unfold Chain at h ⊢
    rw [e.1, e.2]
    exact h
  | [t], _ :: _ :: _, e, _ => by simp at e
  | _ :: _ :: _, [u], e, _ => by simp at e
  | t :: t' :: ts, u :: u' :: us, e, h => by
    have ih := chain_congr (now := now) (ts := t' :: ts) (us := u' :: us) (by simpa using (List.cons.inj e).2)
    simp only [List.map_cons, List.cons.injEq, Prod.mk.injEq] at e
    unfold Chain at h ⊢
    rw [e.1.1, e.1.2, e.2.1.1]
    exact ⟨h.1, ih h.2⟩
set_option maxRecDepth 100000 in
set_option maxHeartbeats 2000000 in
theorem Copy_calls {w : World} {a : Nat} {F : List Nat} {c : CM} (h : IsMem w a c F) :
    Calls Try.prog 30 #[.pointer (some ⟨a, 0, none⟩)] w fun e w' => ∃ a' F', e = .returned (.pointer (some ⟨a', 0, none⟩)) ∧ IsMem w' a' c F' ∧ Kept [] w w' ∧ ∀ b ∈ F', w.heap.size ≤ b := by
  obtain ⟨rv, rows, mv, tops, h, h2, h3, rfl⟩ := h
  obtain ⟨i0, hi, hz0, hz1, hz2⟩ := info_parts info28
  obtain ⟨j0, hj, hy0, hy1, hy2⟩ := info_parts info78
  obtain ⟨R, cR, hrv⟩ := own_slice h.rown
  obtain ⟨T, cT, hmv⟩ := own_slice h.mown
  subst hrv
  subst hmv
  have hm : w.cell? ⟨a, 0, none⟩ = some (.bool true) := h.blk.cell 0
  have hc1 : w.cell? ⟨a, 1, none⟩ = some (.slice R rows.length cR) := h.blk.cell 1
  have hal := h.blk.lt
  have H := Lib.hid h
  have H2 := Lib.hid h2
  have H3 := Lib.hid h3
  have I1 := Lib.hid hi
  have I2 := Lib.hid hz0
  have I3 := Lib.hid hz1
  have I4 := Lib.hid hz2
  have hfew := h.few
  have hlow := h.low
  clear h h2 h3 hi hz0 hz1 hz2
  have b0 : Blk (w.alloc (.cells #[.bool true, .slice none 0 0, .slice none 0 0] 63)) w.heap.size 63 #[.bool true, .slice none 0 0, .slice none 0 0] := Blk.new _ _ _
  have B0 := Lib.hid b0
  clear b0
  go_enter Try.func30, Try.ntmps30
  go_wp2_with (go_at_call 31; refine (is_yes _ _ hm).mono ?_; rintro e w' ⟨rfl, rfl⟩)
  go_loopw [18] (fun i wr => ∃ (k : Nat) (rv' : Value) (rows' : List RowL), k ≤ rows.length ∧ i = .int .i64 k ∧ MemB wr w.heap.size rv' rows' (.slice none 0 0) [] ∧ nowOf rows' = (nowOf rows).take k ∧
     Kept [] w wr ∧ ∀ b ∈ foot w.heap.size rv' rows' (.slice none 0 0) [], w.heap.size ≤ b) (fun i _ => rows.length - (intOf i).toNat)
  case atStart =>
    refine ⟨0, .slice none 0 0, [], Nat.zero_le _, rfl, ⟨B0.out, World.ownsRow_nil _ _ _ _, by simp, by simp, World.ownsRow_nil _ _ _ _, by simp, by simp, by simp, by simp, by simp, by simp⟩, by simp [nowOf], Kept.alloc _ _ _, ?_⟩
    intro b hb
    simp only [mem_foot, Value.ownBlock, reduceCtorEq, List.not_mem_nil, false_and, exists_false, or_false] at hb
    omega
  case round =>
    obtain ⟨k, rv', rows', hk, rfl, hB, hnow, hK, hfoot⟩ := hrel
    clear B0
    have hlen : rows'.length = k := by
      have := congrArg List.length hnow
      simp only [nowOf, List.length_map, List.length_take] at this
      omega
    by_cases hlt : k < rows.length
    · obtain ⟨r, hr⟩ : ∃ r, rows[k]? = some r := ⟨_, List.getElem?_eq_getElem hlt⟩
      have hrm := List.mem_of_getElem? hr
      have hBs := H.out.toMemB.kept hK (by simp)
      obtain ⟨g0, q0, hgv, hgc, _⟩ := own_cell hBs.rown (k := k) (u := r.val) (by rw [List.getElem?_map, hr]; rfl)
      simp only [Value.slice.injEq, true_and] at hgv
      obtain ⟨rfl, rfl⟩ := hgv
      obtain ⟨R1, c1, hrv'⟩ := own_slice hB.rown
      have hrow := hB.rown
      have h1 := hB.cells
      rw [hrv'] at h1 hrow
      rw [hlen] at h1 hrow
      have h1f := hB.blk.frozen 1
      have hDl := hB.blk.lt
      have hCl := fun (W : World) (hW : Kept [] wr W) => clone_some (hW.own (hBs.row r hrm) (by simp)) (by simp [numV, Value.oneCell']) (hBs.short r hrm)
      obtain ⟨rb, rc, rxs⟩ := r
      simp only [RowL.val] at hgc hCl
      have CL := Lib.hid hCl
      have P1 := Lib.hid hB
      have P2 := Lib.hid hnow
      have P3 := Lib.hid hK
      have P4 := Lib.hid hfoot
      have P5 := Lib.hid hr
      have P6 := Lib.hid hrow
      have P7 := Lib.hid hrv'
      have P8 := Lib.hid hlen
      have P9 := Lib.hid hBs
      clear hB hnow hK hfoot hr hrow hrv' hlen hCl hBs hrm
      go_wp2
      go_region_law (first
        | (go_simp; go_at_call 35; refine (CL.out wr.drew (Kept.drew _ _)).mono ?_; rintro e w2 ⟨g, gc, rfl, hown2, hk2⟩
           have k2 : Kept [] wr w2 := (Kept.drew _ _).trans' hk2
           have h1w := k2.cell h1 (by simp)
           have h1z : w2.frozen? ⟨w.heap.size, 1, none⟩ = false := (k2.blk P1.out.blk (by simp)).frozen 1
           have hD2 : w.heap.size < w2.heap.size := Nat.lt_of_lt_of_le hDl k2.size
           have X1 := Lib.hid hown2
           have X2 := Lib.hid k2
           have HC := Lib.hid (cell_one_new w2 (.slice (some ⟨g, 0, none⟩) rxs.length gc) 28)
           clear hown2 hk2 k2)
        | (refine step_append_at rfl (.tmp 26) (.tmp 29) 60 rfl 0 28 i0 (.slice none 0 0) 1 24 Try.underlying60 I1.out I2.out I3.out I4.out rfl (by decide) (.slice R1 k c1) k (rows'.map RowL.val) (by simp [Act.eval, Act.put]) ((X2.out.trans' (Kept.alloc _ _ _)).own P6.out (by simp)) ⟨w2.heap.size, 0, none⟩ 1 1 [.slice (some ⟨g, 0, none⟩) rxs.length gc] (by simp [Act.eval, Act.put]) rfl HC.out (by simp [Value.oneCell']) (by unfold maxLen; omega) (by omega) (Nat.zero_le _) ?_
           intro v' w1 hown' hgrow hloc
           obtain ⟨g', cap', rfl, _⟩ := own_cell hown' (k := k) (u := .slice (some ⟨g, 0, none⟩) rxs.length gc) (by simp [P8.out])
           have b1 := grown_blk hgrow ((X2.out.trans' (Kept.alloc _ _ _)).blk P1.out.blk (by simp)) (fun e => by obtain ⟨cs, hcs⟩ := own_blk P6.out e; exact hcs.ne_ P1.out.blk (by decide) rfl)
           have g2 := b1.cell 1
           have g3 := b1.frozen 1
           have BB1 := Lib.hid b1
           have X := Lib.hid hown'
           have Y := Lib.hid hgrow
           have Z := Lib.hid hloc
           clear b1 hown' hgrow hloc))
      all_goals
        go_wp2
        have hbw := (X1.out.lt g rfl).1
        have hA := P1.out.addRow (r := ⟨g, gc, rxs⟩) (X2.out.trans' (Kept.alloc [] w2 (.cells #[.slice (some ⟨g, 0, none⟩) rxs.length gc] 28))) (own_base ((Kept.alloc [] w2 _).own X1.out (by simp)) (Nat.zero_le _)) hbw (by rw [P7.out, P8.out]; exact Y.out) (by rw [P8.out]; exact X.out) (by rw [P7.out, P8.out]; exact Z.out) (by have := P8.out; omega) (P9.out.short ⟨rb, rc, rxs⟩ (List.mem_of_getElem? P5.out))
        obtain ⟨hA1, hA2, hA3⟩ := hA
        go_roundw
        case rel =>
          refine ⟨k + 1, _, _, by omega, by go_num, hA1, ?_, ?_, ?_⟩
          · have := P2.out
            simp only [nowOf] at this ⊢
            rw [List.map_append, this, List.take_add_one, List.getElem?_map, P5.out]
            rfl
          · refine P3.out.trans hA2 fun b hb => .inr (P4.out b ?_)
            rcases List.mem_cons.1 hb with rfl | hb
            · exact mem_foot.2 (.inl rfl)
            · exact mem_foot.2 (.inr (.inl (by simpa using hb)))
          · intro b hb
            rcases hA3 b hb with h | h
            · exact P4.out b h
            · exact Nat.le_trans P3.out.size h
        case measure => simp [intOf]; omega
    · obtain rfl : k = rows.length := by omega
      have hnow' : nowOf rows' = nowOf rows := by rw [hnow, List.take_of_length_le (by simp [nowOf])]
      have hBs := H.out.toMemB.kept hK (by simp)
      have hc2 : wr.cell? ⟨a, 2, none⟩ = some (.slice T tops.length cT) := hBs.blk.cell 2
      have P1 := Lib.hid hB
      have P2 := Lib.hid hnow'
      have P3 := Lib.hid hK
      have P4 := Lib.hid hfoot
      clear hB hnow hnow' hK hfoot hBs hlen
      go_wp2
      obtain ⟨wo, rfl⟩ : ∃ wo : World, wo = wr := ⟨_, rfl⟩
      go_loopw [39] (fun i wt => ∃ (k : Nat) (mv' : Value) (tops' : List TopL), k ≤ tops.length ∧ i = .int .i64 k ∧ MemB wt w.heap.size rv' rows' mv' tops' ∧ tops'.map (fun t => (t.snap, t.m)) = (tops.map (fun t => (t.snap, t.m))).take k ∧
         Kept [] w wt ∧ ∀ b ∈ foot w.heap.size rv' rows' mv' tops', w.heap.size ≤ b) (fun i _ => tops.length - (intOf i).toNat)
      case atStart => exact ⟨0, .slice none 0 0, [], Nat.zero_le _, rfl, P1.out, by simp, P3.out, P4.out⟩
      case round =>
        obtain ⟨k, mv', tops', hk, rfl, hB, htops, hK, hfoot⟩ := hrel
        clear P1 P3 P4 hc2
        have hlen : tops'.length = k := by
          have := congrArg List.length htops
          simp only [List.length_map, List.length_take] at this
          omega
        by_cases hlt : k < tops.length
        · obtain ⟨t, hr⟩ : ∃ r, tops[k]? = some r := ⟨_, List.getElem?_eq_getElem hlt⟩
          have hrm := List.mem_of_getElem? hr
          have hBs := H.out.toMemB.kept hK (by simp)
          obtain ⟨g0, q0, hgv, hgc, _⟩ := own_cell hBs.mown (k := k) (u := t.val) (by rw [List.getElem?_map, hr]; rfl)
          simp only [Value.slice.injEq, true_and] at hgv
          obtain ⟨rfl, rfl⟩ := hgv
          obtain ⟨R1, c1, hrv'⟩ := own_slice hB.mown
          have hrow := hB.mown
          have h1 := hB.marks
          rw [hrv'] at h1 hrow
          rw [hlen] at h1 hrow
          have h1f := hB.blk.frozen 2
          have hDl := hB.blk.lt
          have hCl := fun (W : World) (hW : Kept [] wr W) => Clone_calls (hW.map (hBs.top t hrm) (by simp))
          obtain ⟨tr, tm, tsn⟩ := t
          simp only [TopL.val] at hgc hCl
          have CL := Lib.hid hCl
          have P1 := Lib.hid hB
          have P3 := Lib.hid hK
          have P4 := Lib.hid hfoot
          have P5 := Lib.hid hr
          have P6 := Lib.hid hrow
          have P7 := Lib.hid hrv'
          have P8 := Lib.hid hlen
          have P9 := Lib.hid hBs
          have P10 := Lib.hid htops
          clear hB htops hK hfoot hr hrow hrv' hlen hCl hBs hrm
          have kl : Kept [] wr (wr.alloc (.cells #[.map (some tr)] 78)).drew := (Kept.alloc _ _ _).trans' (Kept.drew _ _)
          have KL := Lib.hid kl
          clear kl
          go_wp2
          go_region_law (first
            | (go_simp; go_at_call 44; refine (CL.out (wr.alloc (.cells #[.map (some tr)] 78)).drew KL.out).mono ?_; rintro e w2 ⟨rfl, hmap2, hk2⟩
               have k2 : Kept [] wr w2 := KL.out.trans' hk2
               have h1w := k2.cell h1 (by simp)
               have h1z : w2.frozen? ⟨w.heap.size, 2, none⟩ = false := (k2.blk P1.out.blk (by simp)).frozen 2
               have hD2 : w.heap.size < w2.heap.size := Nat.lt_of_lt_of_le hDl k2.size
               have X1 := Lib.hid hmap2
               have X2 := Lib.hid k2
               generalize hg : (wr.alloc (.cells #[.map (some tr)] 78)).drew.heap.size = g at *
               have hgs : wr.heap.size ≤ g := by rw [← hg]; exact KL.out.size
               have HC := Lib.hid (cell_one_new w2 (.map (some g)) 78)
               clear hmap2 hk2 k2 hg)
            | (refine step_append_at rfl (.tmp 47) (.tmp 52) 61 rfl 0 78 j0 (.agg #[.map none]) 1 8 Try.underlying61 hj hy0 hy1 hy2 rfl (by decide) (.slice R1 k c1) k (tops'.map TopL.val) (by simp [Act.eval, Act.put]) ((X2.out.trans' (Kept.alloc _ _ _)).own P6.out (by simp)) ⟨w2.heap.size, 0, none⟩ 1 1 [.map (some g)] (by simp [Act.eval, Act.put]) rfl HC.out (by simp [Value.oneCell']) (by unfold maxLen; omega) (by omega) (Nat.zero_le _) ?_
               intro v' w1 hown' hgrow hloc
               obtain ⟨g', cap', rfl, _⟩ := own_cell hown' (k := k) (u := .map (some g)) (by simp [P8.out])
               have b1 := grown_blk hgrow ((X2.out.trans' (Kept.alloc _ _ _)).blk P1.out.blk (by simp)) (fun e => by obtain ⟨cs, hcs⟩ := own_blk P6.out e; exact hcs.ne_ P1.out.blk (by decide) rfl)
               have g2 := b1.cell 2
               have g3 := b1.frozen 2
               have BB1 := Lib.hid b1
               have X := Lib.hid hown'
               have Y := Lib.hid hgrow
               have Z := Lib.hid hloc
               clear b1 hown' hgrow hloc))
          all_goals
            go_wp2
            have hA := P1.out.addTop (u := ⟨g, tm, tsn⟩) (X2.out.trans' (Kept.alloc [] w2 (.cells #[.map (some g)] 78))) ((Kept.alloc [] w2 _).map X1.out (by simp)) hgs (by rw [P7.out, P8.out]; exact Y.out) (by rw [P8.out]; exact X.out) (by rw [P7.out, P8.out]; exact Z.out) ((P9.out.shape ⟨tr, tm, tsn⟩ (List.mem_of_getElem? P5.out)).trans (by rw [P2.out])) (by have := P8.out; omega)
            obtain ⟨hA1, hA2, hA3⟩ := hA
            go_roundw
            case rel =>
              refine ⟨k + 1, _, _, by omega, by go_num, hA1, ?_, ?_, ?_⟩
              · rw [List.map_append, P10.out, List.take_add_one, List.getElem?_map, P5.out]
                rfl
              · refine P3.out.trans hA2 fun b hb => .inr (P4.out b ?_)
                rcases List.mem_cons.1 hb with rfl | hb
                · exact mem_foot.2 (.inl rfl)
                · exact mem_foot.2 (.inr (.inr (.inl (by simpa using hb))))
              · intro b hb
                rcases hA3 b hb with h | h
                · exact P4.out b h
                · exact Nat.le_trans P3.out.size h
            case measure => simp [intOf]; omega
        · obtain rfl : k = tops.length := by omega
          rw [List.take_of_length_le (by simp)] at htops
          have P1 := Lib.hid hB
          have P3 := Lib.hid hK
          have P4 := Lib.hid hfoot
          have P10 := Lib.hid htops
          clear hB hK hfoot htops
          go_wp2
          go_ret
          refine ⟨w.heap.size, _, rfl, ⟨_, rows', _, tops', ⟨P1.out, ?_⟩, P2.out.trans H2.out, ?_, rfl⟩, P3.out, P4.out⟩
          · rw [P2.out]
            exact chain_congr P10.out H.out.chain
          · rw [← H3.out]
            have := congrArg (List.map Prod.fst) P10.out
            simpa [snapsOf, List.map_map, Function.comp_def] using this
end Go.Proofs.Ytlfaoibgmbbacaa
