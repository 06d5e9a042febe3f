/- The walks of the reference's New and Right. -/
import Derived.Test.YtlfaoibgmbbacaaRefPop
namespace Go.Proofs.Ytlfaoibgmbbacaa
open Go.RowKit
theorem St.gridAdd {w0 w W2 w2 : World} {rs : List Res} {rv v' : Value} {rows : List RowL} (h : St w0 w (.grid rv rows :: rs)) (r : RowL) (hk : Kept [] w W2) (hr : W2.ownsRow 0 2 1 r.val r.xs.length (r.xs.map numV)) (hnew : w.heap.size ≤ r.b)
    (hg : W2.grownBy w2 rv.ownBlock) (hown : w2.ownsRow 0 28 1 v' (rows.length + 1) (rows.map RowL.val ++ [r.val])) (hloc : v'.ownBlock = rv.ownBlock ∨ v'.ownBlock = some W2.heap.size) : St w0 w2 (.grid v' (rows ++ [r]) :: rs) := by
  obtain ⟨F1, h1, h2⟩ := h.head
  obtain ⟨ho, rfl⟩ := h1
  obtain ⟨a1, a2, a3⟩ := ho.add r hk hr hnew hg hown hloc
  exact h2 (R' := .grid _ _) ⟨a1, rfl⟩ (a2.mono fun b hb _ => by unfold gridFoot; exact List.mem_append_left _ hb) a3
set_option maxRecDepth 100000 in
set_option maxHeartbeats 2000000 in
theorem refNew_calls {w : World} {A : Option Addr} {c : Nat} {l : List Int} (hr : Reads w A (l.map numV)) (hn : l.length ≤ 16) (hl : ∀ n ∈ l, 0 ≤ n ∧ n ≤ 1024) :
    Calls Try.prog 38 #[.slice A l.length c] w fun e w' => ∃ v, e = .returned v ∧ Turned w w' [] v { now := l.map zeros, marks := [] } := by
  have HRD := Lib.hid hr
  have HL := Lib.hid hl
  clear hr hl
  obtain ⟨i0, hi, hz0, hz1, hz2⟩ := info_parts info28
  generalize hv : (w.alloc (.cells #[.slice none 0 0, .slice none 0 0] 86)) = w1
  generalize hv2 : (w1.alloc (.cells #[.slice none 0 0, .slice none 0 0] 86)) = w2
  have s0 : St w w1 [.blk w.heap.size 86 #[.slice none 0 0, .slice none 0 0]] := by rw [← hv]; exact (St.nil w).blkNew _ _
  have s1 : St w w2 [.blk w1.heap.size 86 #[.slice none 0 0, .slice none 0 0], .blk w.heap.size 86 #[.slice none 0 0, .slice none 0 0]] := by rw [← hv2]; exact s0.blkNew _ _
  have S1 := Lib.hid ((s1.gridNew (rv := .slice none 0 0) (rows := []) ⟨World.ownsRow_nil _ _ _ _, by simp, by simp⟩ (Kept.refl _ _) (by simp [gridFoot, Value.ownBlock])))
  clear s0 s1
  go_enter Try.func38, Try.ntmps38
  go_wp2
  clear hv hv2
  go_loopw [4] (fun i wr => ∃ (k : Nat) (rv : Value) (rows : List RowL), k ≤ l.length ∧ i = .int .i64 k ∧ nowOf rows = (l.take k).map zeros ∧ St w wr [.grid rv rows, .blk w1.heap.size 86 #[rv, .slice none 0 0], .blk w.heap.size 86 #[.slice none 0 0, .slice none 0 0]]) (fun i _ => l.length - (intOf i).toNat)
  case atStart => exact ⟨0, _, [], Nat.zero_le _, rfl, rfl, S1.out⟩
  case round =>
    obtain ⟨k, rv, rows, hk, rfl, hnow, hS⟩ := hrel
    by_cases hlt : k < l.length
    · obtain ⟨n, hgn⟩ : ∃ n, l[k]? = some n := ⟨_, List.getElem?_eq_getElem hlt⟩
      obtain ⟨hn0, hn1⟩ := HL.out n (List.mem_of_getElem? hgn)
      obtain ⟨m, rfl⟩ := Int.eq_ofNat_of_zero_le hn0
      obtain ⟨b, off, rfl, hc⟩ := HRD.out.resolve_left (by intro e; simp at e; subst e; simp at hlt)
      have hck := hS.whole.cell (hc k (numV m) (by simp [hgn])) (by simp)
      simp only [numV] at hck
      obtain ⟨R, rc, hrv⟩ := own_slice hS.grid.rown
      have hrow := hS.grid.rown
      have hlen : rows.length = k := by
        have := congrArg List.length hnow
        simp only [nowOf, List.length_map, List.length_take] at this
        omega
      have h1 : wr.cell? ⟨w1.heap.size, 0, none⟩ = some rv := hS.blk1.cell 0
      rw [hrv] at h1 hrow
      rw [hlen] at h1 hrow
      have h1f := hS.blk1.frozen 0
      have hal := hS.blk1.lt
      have hmk := make_ints m (by omega)
      have P1 := Lib.hid hS
      have P2 := Lib.hid hnow
      have P5 := Lib.hid hgn
      have P6 := Lib.hid hrow
      have P7 := Lib.hid hrv
      have P8 := Lib.hid hlen
      clear hS hnow hgn hc hrow hrv hlen
      have hcn := cell_one_new (wr.alloc (.cells (Array.replicate m (.int .i64 0)) 2)) (.slice (some ⟨wr.heap.size, 0, none⟩) m m) 28
      rw [World.size_alloc] at hcn
      have HC := Lib.hid hcn
      clear hcn
      go_wp2
      have kN : Kept [] wr ((wr.alloc (.cells (Array.replicate m (.int .i64 0)) 2)).alloc (.cells #[.slice (some ⟨wr.heap.size, 0, none⟩) m m] 28)).drew :=
        ((Kept.alloc _ _ _).trans' (Kept.alloc _ _ _)).trans' (Kept.drew _ _)
      have KN := Lib.hid kN
      clear kN
      go_region_law (refine step_append_at rfl (.tmp 12) (.tmp 18) 60 rfl 0 28 i0 (.slice none 0 0) 1 24 Try.underlying60 hi hz0 hz1 hz2 rfl (by decide) (.slice R k rc) k (rows.map RowL.val) (by simp [Act.eval, Act.put]) ((P6.out.alloc _).alloc _) ⟨wr.heap.size + 1, 0, none⟩ 1 1 [.slice (some ⟨wr.heap.size, 0, none⟩) m m] (by simp [Act.eval, Act.put]) rfl HC.out (by simp [Value.oneCell']) (by unfold maxLen; omega) (by omega) (Nat.zero_le _) ?_
                     intro v' w5 hown' hgrow hloc
                     obtain ⟨g', cap', rfl, _⟩ := own_cell hown' (k := k) (u := .slice (some ⟨wr.heap.size, 0, none⟩) m m) (by simp [P8.out])
                     have b1 := grown_blk hgrow (KN.out.blk P1.out.blk1 (by simp)) (fun e => by obtain ⟨cs, hcs⟩ := own_blk P6.out e; exact hcs.ne_ P1.out.blk1 (by decide) rfl)
                     have g2 : w5.cell? ⟨w1.heap.size, 0, none⟩ = some rv := b1.cell 0
                     have g3 := b1.frozen 0
                     have X := Lib.hid hown'
                     have Y := Lib.hid hgrow
                     have Z := Lib.hid hloc
                     clear b1 hown' hgrow hloc)
      all_goals
        go_wp2
        have hmm : (RowL.mk wr.heap.size m (zeros (m : Int))).val = .slice (some ⟨wr.heap.size, 0, none⟩) m m := by simp [RowL.val, zeros]
        have hz0 : zeros (m : Int) = List.replicate m 0 := by simp [zeros]
        have hR2 : ((wr.alloc (.cells (Array.replicate m (.int .i64 0)) 2)).alloc (.cells #[.slice (some ⟨wr.heap.size, 0, none⟩) m m] 28)).drew.ownsRow 0 2 1 (RowL.mk wr.heap.size m (zeros (m : Int))).val
            (zeros (m : Int)).length ((zeros (m : Int)).map numV) := by
          have b1 : Blk ((wr.alloc (.cells (Array.replicate m (.int .i64 0)) 2)).alloc (.cells #[.slice (some ⟨wr.heap.size, 0, none⟩) m m] 28)).drew wr.heap.size 2 (Array.replicate m (.int .i64 0)) :=
            (Kept.alloc [] _ _).blk (Blk.new _ _ _) (by simp)
          rw [hmm, hz0]
          refine ⟨by simp, .inr ⟨_, m, _, by simp, Nat.zero_le _, b1, by simp, by unfold maxLen; omega, by simp, ?_⟩⟩
          simp [numV]
        have hA := P1.out.gridAdd ⟨wr.heap.size, m, zeros (m : Int)⟩ KN.out hR2 (Nat.le_refl _) (by rw [P7.out, P8.out]; exact Y.out) (by rw [P8.out, hmm]; exact X.out) (by rw [P7.out, P8.out]; exact Z.out)
        have hA2 := (hA.swap.set_ 0 (.slice (some ⟨g', 0, none⟩) (k + 1) cap')).swap
        go_roundw
        case rel =>
          refine ⟨k + 1, _, _, by omega, by go_num, ?_, hA2⟩
          have := P2.out
          simp only [nowOf] at this ⊢
          rw [List.map_append, this, List.take_add_one, List.map_append, P5.out]
          rfl
        case measure => simp [intOf]; omega
    · have h0 : wr.cell? ⟨w1.heap.size, 0, none⟩ = some rv := hS.blk1.cell 0
      have h1 : wr.cell? ⟨w1.heap.size, 1, none⟩ = some (.slice none 0 0) := hS.blk1.cell 1
      obtain ⟨R, rc, rfl⟩ := own_slice hS.grid.rown
      have hs2 := hS.up3
      have x0 := hs2.blk0.cell 0
      have x1 := hs2.blk0.cell 1
      have x2 := hs2.blk0.frozen
      have S2 := Lib.hid hs2
      have NW := Lib.hid hnow
      clear hs2 hS hnow
      go_wp2
      have s3 := S2.out.put2 (.slice R rows.length rc) (.slice none 0 0)
      refine bodyPost_ret (results_one86 rfl rfl s3.blk0) rfl ?_
      have hg := s3.drop.grid.grid
      rw [NW.out, List.take_of_length_le (by omega)] at hg
      have hab := s3.drop.gridAbove
      refine ⟨_, rfl, _, ⟨_, _, rfl, hg, none, 0, [], rfl, Nat.le_refl _, .inl rfl, rfl, by simp⟩, s3.whole, by simp, fun b hb => .inr (hab b hb)⟩
theorem rightB_iff (l : List Int) : rightB l = true ↔ (∀ n ∈ l, 0 ≤ n) ∧ l.sum ≤ 1024 ∧ l.length ≤ 16 := by
  unfold rightB
  rw [Bool.and_eq_true, fits_spec, decide_eq_true_eq]
  constructor
  · rintro ⟨⟨h1, h2⟩, h3⟩
    refine ⟨h1, ?_, by omega⟩
    rcases h2 with h2 | rfl
    · exact h2
    · simp
  · rintro ⟨h1, h2, h3⟩
    exact ⟨⟨h1, .inl h2⟩, by omega⟩
theorem sum_ge : ∀ {l : List Int} {n : Int}, (∀ m ∈ l, 0 ≤ m) → n ∈ l → n ≤ l.sum ∧ 0 ≤ l.sum
  | [], _, _, h => by simp at h
  | a :: l, n, h, hm => by
    have h0 : 0 ≤ l.sum := by
      cases l with
      | nil => simp
      | cons b l => exact (sum_ge (fun m hm => h m (by simp [hm])) (List.mem_cons_self)).2
    have ha := h a (by simp)
    rw [List.sum_cons]
    rcases List.mem_cons.1 hm with rfl | hm
    · omega
    · have := sum_ge (fun m hm => h m (by simp [hm])) hm
      omega
theorem rightB_no {l : List Int} {n : Int} (hm : n ∈ l) (h : n < 0 ∨ 1024 < n) : rightB l = false := by
  rw [← Bool.not_eq_true, rightB_iff]
  rintro ⟨h1, h2, _⟩
  have := h1 n hm
  have := (sum_ge h1 hm).1
  omega
theorem rightB_long {l : List Int} (h : 16 < l.length) : rightB l = false := by
  rw [← Bool.not_eq_true, rightB_iff]
  rintro ⟨_, _, h3⟩
  omega
theorem rightB_end {l : List Int} (h : ∀ n ∈ l, 0 ≤ n ∧ n ≤ 1024) (hl : l.length ≤ 16) : rightB l = decide (l.sum ≤ 1024) := by
  by_cases e : l.sum ≤ 1024
  · rw [decide_eq_true e, rightB_iff]
    exact ⟨fun n hn => (h n hn).1, e, hl⟩
  · rw [decide_eq_false e, ← Bool.not_eq_true, rightB_iff]
    rintro ⟨_, h2, _⟩
    exact e h2
theorem sum_bound : ∀ {l : List Int} {m : Nat}, (∀ n ∈ l, 0 ≤ n ∧ n ≤ 1024) → l.length ≤ m → 0 ≤ l.sum ∧ l.sum ≤ m * 1024
  | [], m, _, _ => by simp; omega
  | a :: l, m, h, hl => by
    simp only [List.length_cons] at hl
    have h1 := h a (by simp)
    have h2 := sum_bound (l := l) (m := m - 1) (fun n hn => h n (by simp [hn])) (by omega)
    rw [List.sum_cons]
    have : ((m - 1 : Nat) : Int) = (m : Int) - 1 := by omega
    rw [this] at h2
    omega
set_option maxHeartbeats 1000000 in
theorem refRight_calls {w : World} {A : Option Addr} {c : Nat} {l : List Int} (hr : Reads w A (l.map numV)) (hn : l.length ≤ maxLen) :
    Calls Try.prog 29 #[.slice A l.length c] w fun e w' => e = .returned (.bool (rightB l)) ∧ w = w' := by
  unfold maxLen at hn
  have HR := Lib.hid hr
  clear hr
  go_enter Try.func29, Try.ntmps29
  go_wp2
  go_loop [3, 4] (fun s i => ∃ (k : Nat) (x : Int), k ≤ l.length ∧ k ≤ 16 ∧ i = .int .i64 k ∧ s = .int .i64 x ∧ x = (l.take k).sum ∧ (∀ n ∈ l.take k, 0 ≤ n ∧ n ≤ 1024)) (fun _ i => l.length - (intOf i).toNat)
  case atStart => exact ⟨0, 0, Nat.zero_le _, by omega, rfl, rfl, by simp, by simp⟩
  case round =>
    obtain ⟨k, x, hk, hk16, rfl, rfl, hx, hall⟩ := hrel
    have hsb := sum_bound hall (m := 16) (by rw [List.length_take]; omega)
    rw [← hx] at hsb
    by_cases hlt : k < l.length
    · obtain ⟨n, hgn⟩ : ∃ n, l[k]? = some n := ⟨_, List.getElem?_eq_getElem hlt⟩
      obtain ⟨b, off, rfl, hc⟩ := HR.out.resolve_left (by intro e; simp at e; subst e; simp at hlt)
      have hck := hc k (numV n) (by simp [hgn])
      simp only [numV] at hck
      have HG := Lib.hid hgn
      have HX := Lib.hid hx
      have HALL := Lib.hid hall
      clear hc hgn hx hall
      by_cases h1 : n < 0
      · have E := Lib.hid (rightB_no (List.mem_of_getElem? HG.out) (.inl h1))
        go_wp2
        go_ret
        exact ⟨by rw [E.out]; rfl, rfl⟩
      · by_cases h2 : 1024 < n
        · have E := Lib.hid (rightB_no (List.mem_of_getElem? HG.out) (.inr h2))
          go_wp2
          go_ret
          exact ⟨by rw [E.out]; rfl, rfl⟩
        · by_cases h3 : 15 < k
          · have E := Lib.hid (rightB_long (l := l) (by omega))
            have h3' : (15 : Int) < k := by omega
            go_wp2
            go_ret
            exact ⟨by rw [E.out]; rfl, rfl⟩
          · have h3' : (k : Int) ≤ 15 := by omega
            have hsb1 := hsb.1
            have hsb2 : x ≤ 16384 := by have := hsb.2; omega
            clear hsb
            go_wp2
            go_round
            case rel =>
              refine ⟨k + 1, x + n, by omega, by omega, by go_num, rfl, ?_, fun y hy => ?_⟩
              · rw [List.take_add_one, HG.out, List.sum_append, HX.out]; simp
              · rw [List.take_add_one, HG.out] at hy
                rcases List.mem_append.1 hy with hy | hy
                · exact HALL.out y hy
                · simp at hy; subst hy; omega
            case measure => simp [intOf]; omega
    · have hkl : k = l.length := by omega
      rw [List.take_of_length_le (by omega)] at hx hall
      have E := Lib.hid (rightB_end hall (by omega))
      rw [← hx] at E
      clear hx hall hsb
      go_wp2
      go_ret
      exact ⟨by rw [E.out]; rfl, rfl⟩
end Go.Proofs.Ytlfaoibgmbbacaa
