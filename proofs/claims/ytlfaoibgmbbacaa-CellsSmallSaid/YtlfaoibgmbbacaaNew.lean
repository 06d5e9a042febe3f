/- The walk of New of package cells. -/
import Derived.Test.YtlfaoibgmbbacaaRight
import Derived.Deep.RegionLaw
import Derived.Deep.RegionHeld
import Derived.BigRegion
namespace Go.Proofs.Ytlfaoibgmbbacaa
open Go.RowKit
open Go.ChangeMaps (setBlock)
def zeros (n : Int) : List Int := List.replicate n.toNat 0
theorem madeCells_zero (n : Nat) : madeCells #[.int .i64 0] n = (Array.replicate n (.int .i64 0)) := by
  apply Array.ext
  · simp [madeCells]
  · intro i h1 h2
    simp [madeCells, Nat.mod_one]
theorem info2 : (Try.prog.info? 2).map (fun i => (i.zero, i.size, i.bytes)) = some (some (.int .i64 0), 1, 8) := by kernel_rfl
theorem info28 : (Try.prog.info? 28).map (fun i => (i.zero, i.size, i.bytes)) = some (some (.slice none 0 0), 1, 24) := by kernel_rfl
theorem make_ints (n : Nat) (hn : n ≤ 1024) (W : World) : (Instr.makeSlice 28 (.int .i64 (n : Int)) (.int .i64 (n : Int))).run Try.prog W =
    .ok (.slice (some ⟨W.heap.size, 0, none⟩) n n) (W.alloc (.cells (Array.replicate n (.int .i64 0)) 2)) := by
  obtain ⟨i0, hi, hz0, hz1, hz2⟩ := info_parts info2
  have := run_makeSlice (P := Try.prog) W 28 2 i0 (.int .i64 0) Try.underlying28 hi hz0 .i64 .i64 n n (by omega) (by omega) (by rw [hz1]; simp; omega) (by rw [hz2]; omega) (by omega)
  simpa [hz1, Value.cells, madeCells_zero] using this

theorem MemB.addRow {wr W2 w1 : World} {a : Nat} {rv v' : Value} {rows : List RowL} {r : RowL} (hB : MemB wr a rv rows (.slice none 0 0) []) (hk : Kept [] wr W2)
    (hr : W2.ownsRow 0 2 1 r.val r.xs.length (r.xs.map numV)) (hnew : wr.heap.size ≤ r.b) (hg : W2.grownBy w1 rv.ownBlock) (hown : w1.ownsRow 0 28 1 v' (rows.length + 1) (rows.map RowL.val ++ [r.val]))
    (hloc : v'.ownBlock = rv.ownBlock ∨ v'.ownBlock = some W2.heap.size) (hfew : rows.length + 1 ≤ 16) (hshort : r.xs.length ≤ 1024) :
    MemB (w1.setCell ⟨a, 1, none⟩ v') a v' (rows ++ [r]) (.slice none 0 0) [] ∧ Kept (a :: rv.ownBlock.toList) wr (w1.setCell ⟨a, 1, none⟩ v') ∧
      ∀ b ∈ foot a v' (rows ++ [r]) (.slice none 0 0) [], b ∈ foot a rv rows (.slice none 0 0) [] ∨ wr.heap.size ≤ b := by
  have hal := hB.blk.lt
  have hsz := hk.size
  have k2 : Kept rv.ownBlock.toList W2 w1 := Kept.grown hg (by simp)
  have k3 : Kept (a :: rv.ownBlock.toList) wr (w1.setCell ⟨a, 1, none⟩ v') :=
    (hk.nil_mono.trans' (k2.mono fun b hb _ => List.mem_cons_of_mem _ hb)).trans' (Kept.setCell (by simp) _ _)
  have hra : ∀ g, rv.ownBlock = some g → g ≠ a := fun g e => by
    obtain ⟨cs, hcs⟩ := own_blk hB.rown e
    exact hcs.ne_ hB.blk (by decide)
  have hrl : ∀ g, rv.ownBlock = some g → g < wr.heap.size := fun g e => own_lt hB.rown e
  have hv' : ∀ g, v'.ownBlock = some g → g ≠ a := fun g e => by
    rcases hloc with h | h
    · exact hra g (h ▸ e)
    · rw [e] at h
      simp only [Option.some.injEq] at h
      omega
  have hrow : ∀ r' ∈ rows, ∀ g, rv.ownBlock = some g → r'.b ≠ g := fun r' hr' g e => by
    obtain ⟨cs, hcs⟩ := own_blk (hB.row r' hr') (k := r'.b) rfl
    obtain ⟨cs', hcs'⟩ := own_blk hB.rown e
    exact hcs.ne_ hcs' (by decide)
  refine ⟨⟨?_, ?_, ?_, ?_, World.ownsRow_nil _ _ _ _, by simp, by simp, by simp, by simpa using hfew, ?_, by simp⟩, k3, ?_⟩
  · have b1 := k2.blk (hk.blk hB.blk (by simp)) (by
      simp only [Option.mem_toList]
      exact fun e => hra a e rfl)
    exact b1.set_ 1 v'
  · rw [List.length_append, List.map_append]
    exact (Kept.setCell (F := [a]) (p := ⟨a, 1, none⟩) (by simp) w1 v').own hown fun g e => by simpa using hv' g e
  · intro r' hr'
    rcases List.mem_append.1 hr' with hr' | hr'
    · refine k3.own (hB.row r' hr') fun g e => ?_
      simp only [RowL.val, Value.ownBlock, Option.some.injEq] at e
      subst e
      simp only [List.mem_cons, Option.mem_toList, not_or]
      refine ⟨(hB.ne_row hr').symm, fun e => hrow r' hr' _ e rfl⟩
    · simp only [List.mem_singleton] at hr'
      subst hr'
      refine (Kept.setCell (F := [a]) (p := ⟨a, 1, none⟩) (by simp) w1 v').own (k2.own hr fun g e => ?_) fun g e => ?_
      · simp only [RowL.val, Value.ownBlock, Option.some.injEq] at e
        subst e
        simp only [Option.mem_toList]
        intro e
        have := hrl _ e
        omega
      · simp only [RowL.val, Value.ownBlock, Option.some.injEq] at e
        subst e
        simp only [List.mem_singleton]
        omega
  · rw [List.map_append]
    refine List.nodup_append.2 ⟨hB.rnd, by simp, fun x hx y hy => ?_⟩
    obtain ⟨r', hr', rfl⟩ := List.mem_map.1 hx
    simp only [List.map_cons, List.map_nil, List.mem_singleton] at hy
    subst hy
    have := own_lt (hB.row r' hr') (k := r'.b) rfl
    omega
  · intro r' hr'
    rcases List.mem_append.1 hr' with hr' | hr'
    · exact hB.short r' hr'
    · simp only [List.mem_singleton] at hr'
      subst hr'
      exact hshort
  · intro b hb
    rcases mem_foot.1 hb with rfl | e | e | ⟨r', hr', rfl⟩ | ⟨t, ht, _⟩
    · exact .inl (mem_foot.2 (.inl rfl))
    · rcases hloc with h | h
      · exact .inl (mem_foot.2 (.inr (.inl (h ▸ e))))
      · rw [e] at h
        simp only [Option.some.injEq] at h
        exact .inr (by omega)
    · simp [Value.ownBlock] at e
    · rcases List.mem_append.1 hr' with hr' | hr'
      · exact .inl (mem_foot.2 (.inr (.inr (.inr (.inl ⟨r', hr', rfl⟩)))))
      · simp only [List.mem_singleton] at hr'
        subst hr'
        exact .inr hnew
    · simp at ht

theorem new_bad {w : World} {A : Option Addr} {c : Nat} {l : List Int} (hr : Reads w A (l.map numV)) (hn : l.length ≤ maxLen) (hb : rightB l = false) :
    Calls Try.prog 26 #[.slice A l.length c] w fun e w' => e = .returned (.tuple #[.pointer none, .int .i64 210]) ∧ w = w' := by
  have hR := Right_calls (c := c) hr hn
  rw [hb] at hR
  have HR := Lib.hid hR
  clear hR hr hb
  go_enter Try.func26, Try.ntmps26
  go_wp2_with (go_at_call 27; refine HR.out.mono ?_; rintro e w' ⟨rfl, rfl⟩)
  go_ret2
  exact ⟨rfl, rfl⟩

set_option maxRecDepth 100000 in
set_option maxHeartbeats 1000000 in
theorem new_good {w : World} {A : Option Addr} {c : Nat} {l : List Int} (hr : Reads w A (l.map numV)) (hA : ∀ b off, A = some ⟨b, off, none⟩ → b < w.heap.size) (hn : l.length ≤ 16) (hb : rightB l = true) (hl : ∀ n ∈ l, 0 ≤ n ∧ n ≤ 1024) :
    Calls Try.prog 26 #[.slice A l.length c] w fun e w' => ∃ a F, e = .returned (.tuple #[.pointer (some ⟨a, 0, none⟩), .int .i64 0]) ∧ IsMem w' a { now := l.map zeros, marks := [] } F ∧ Kept [] w w' ∧ ∀ b ∈ F, w.heap.size ≤ b := by
  have hR := Right_calls (c := c) hr (by unfold maxLen; omega)
  rw [hb] at hR
  have HR := Lib.hid hR
  have HRD := Lib.hid hr
  have HL := Lib.hid hl
  have HA := Lib.hid hA
  clear hR hr hb hl hA
  obtain ⟨i0, hi, hz0, hz1, hz2⟩ := info_parts info28
  go_enter Try.func26, Try.ntmps26
  go_wp2_with (go_at_call 27; refine HR.out.mono ?_; rintro e w' ⟨rfl, rfl⟩)
  have b0 : Blk (w.alloc (.cells #[.bool true, .slice none 0 0, .slice none 0 0] 63)) w.heap.size 63 #[.bool true, .slice none 0 0, .slice none 0 0] := Blk.new _ _ _
  have B0 := Lib.hid b0
  clear b0
  go_loopw [14] (fun i wr => ∃ (k : Nat) (rv : Value) (rows : List RowL), k ≤ l.length ∧ i = .int .i64 k ∧ MemB wr w.heap.size rv rows (.slice none 0 0) [] ∧ nowOf rows = (l.take k).map zeros ∧
     Kept [] w wr ∧ ∀ b ∈ foot w.heap.size rv rows (.slice none 0 0) [], w.heap.size ≤ b) (fun i _ => l.length - (intOf i).toNat)
  case atStart =>
    refine ⟨0, .slice none 0 0, [], Nat.zero_le _, rfl, ⟨B0.out, World.ownsRow_nil _ _ _ _, by simp, by simp, World.ownsRow_nil _ _ _ _, by simp, by simp, by simp, by simp, by simp, by simp⟩, rfl, Kept.alloc _ _ _, ?_⟩
    intro b hb
    simp only [mem_foot, Value.ownBlock, reduceCtorEq, List.not_mem_nil, false_and, exists_false, or_false] at hb
    omega
  case round =>
    obtain ⟨k, rv, rows, hk, rfl, hB, hnow, hK, hfoot⟩ := hrel
    by_cases hlt : k < l.length
    · obtain ⟨n, hgn⟩ : ∃ n, l[k]? = some n := ⟨_, List.getElem?_eq_getElem hlt⟩
      obtain ⟨hn0, hn1⟩ := HL.out n (List.mem_of_getElem? hgn)
      obtain ⟨m, rfl⟩ := Int.eq_ofNat_of_zero_le hn0
      obtain ⟨b, off, hAe, hc⟩ := HRD.out.resolve_left (by intro e; simp at e; subst e; simp at hlt)
      have hck := hK.cell (hc k (numV m) (by simp [hgn])) (by simp)
      simp only [numV] at hck
      obtain ⟨R, rc, hrv⟩ := own_slice hB.rown
      have hrow := hB.rown
      have hlen : rows.length = k := by
        have := congrArg List.length hnow
        simp only [nowOf, List.length_map, List.length_take] at this
        omega
      have h1 := hB.cells
      rw [hrv] at h1 hrow
      rw [hlen] at h1 hrow
      have h1f := hB.blk.frozen 1
      have hal := hB.blk.lt
      have hmk := make_ints m (by omega)
      subst hAe
      have P1 := Lib.hid hB
      have P2 := Lib.hid hnow
      have P3 := Lib.hid hK
      have P4 := Lib.hid hfoot
      have P5 := Lib.hid hgn
      have P6 := Lib.hid hrow
      have P7 := Lib.hid hrv
      have P8 := Lib.hid hlen
      clear hB hnow hK hfoot hgn hc hrow hrv hlen
      have hcn := cell_one_new (wr.alloc (.cells (Array.replicate m (.int .i64 0)) 2)) (.slice (some ⟨wr.heap.size, 0, none⟩) m m) 28
      rw [World.size_alloc] at hcn
      have HC := Lib.hid hcn
      clear hcn
      go_wp2
      have kN : Kept [] wr ((wr.alloc (.cells (Array.replicate m (.int .i64 0)) 2)).alloc (.cells #[.slice (some ⟨wr.heap.size, 0, none⟩) m m] 28)).drew :=
        ((Kept.alloc _ _ _).trans' (Kept.alloc _ _ _)).trans' (Kept.drew _ _)
      have KN := Lib.hid kN
      clear kN
      go_region_law (refine step_append_at rfl (.tmp 22) (.tmp 25) 60 rfl 0 28 i0 (.slice none 0 0) 1 24 Try.underlying60 hi hz0 hz1 hz2 rfl (by decide) (.slice R k rc) k (rows.map RowL.val) (by simp [Act.eval, Act.put]) ((P6.out.alloc _).alloc _) ⟨wr.heap.size + 1, 0, none⟩ 1 1 [.slice (some ⟨wr.heap.size, 0, none⟩) m m] (by simp [Act.eval, Act.put]) rfl HC.out (by simp [Value.oneCell']) (by unfold maxLen; omega) (by omega) (Nat.zero_le _) ?_
                     intro v' w1 hown' hgrow hloc
                     obtain ⟨g', cap', rfl, _⟩ := own_cell hown' (k := k) (u := .slice (some ⟨wr.heap.size, 0, none⟩) m m) (by simp [P8.out])
                     have b1 := grown_blk hgrow (KN.out.blk P1.out.blk (by simp)) (fun e => by obtain ⟨cs, hcs⟩ := own_blk P6.out e; exact hcs.ne_ P1.out.blk (by decide) rfl)
                     have g2 := b1.cell 1
                     have g3 := b1.frozen 1
                     have BB1 := Lib.hid b1
                     have X := Lib.hid hown'
                     have Y := Lib.hid hgrow
                     have Z := Lib.hid hloc
                     clear b1 hown' hgrow hloc)
      all_goals
        go_wp2
        have hmm : (RowL.mk wr.heap.size m (zeros (m : Int))).val = .slice (some ⟨wr.heap.size, 0, none⟩) m m := by simp [RowL.val, zeros]
        have hz0 : zeros (m : Int) = List.replicate m 0 := by simp [zeros]
        have hR2 : ((wr.alloc (.cells (Array.replicate m (.int .i64 0)) 2)).alloc (.cells #[.slice (some ⟨wr.heap.size, 0, none⟩) m m] 28)).drew.ownsRow 0 2 1 (RowL.mk wr.heap.size m (zeros (m : Int))).val
            (zeros (m : Int)).length ((zeros (m : Int)).map numV) := by
          have b1 : Blk ((wr.alloc (.cells (Array.replicate m (.int .i64 0)) 2)).alloc (.cells #[.slice (some ⟨wr.heap.size, 0, none⟩) m m] 28)).drew wr.heap.size 2 (Array.replicate m (.int .i64 0)) :=
            (Kept.alloc [] _ _).blk (Blk.new _ _ _) (by simp)
          rw [hmm, hz0]
          refine ⟨by simp, .inr ⟨_, m, _, by simp, Nat.zero_le _, b1, by simp, by unfold maxLen; omega, by simp, ?_⟩⟩
          simp [numV]
        have hA := P1.out.addRow (r := ⟨wr.heap.size, m, zeros (m : Int)⟩) KN.out hR2 (Nat.le_refl _) (by rw [P7.out, P8.out]; exact Y.out) (by rw [P8.out, hmm]; exact X.out) (by rw [P7.out, P8.out]; exact Z.out) (by have := P8.out; omega) (by simp [zeros]; omega)
        obtain ⟨hA1, hA2, hA3⟩ := hA
        go_roundw
        case rel =>
          refine ⟨k + 1, _, _, by omega, by go_num, hA1, ?_, ?_, ?_⟩
          · have := P2.out
            simp only [nowOf] at this ⊢
            rw [List.map_append, this, List.take_add_one, List.map_append, P5.out]
            rfl
          · refine P3.out.trans hA2 fun b hb => .inr (P4.out b ?_)
            rcases List.mem_cons.1 hb with rfl | hb
            · exact mem_foot.2 (.inl rfl)
            · exact mem_foot.2 (.inr (.inl (by simpa using hb)))
          · intro b hb
            rcases hA3 b hb with h | h
            · exact P4.out b h
            · exact Nat.le_trans P3.out.size h
        case measure => simp [intOf]; omega
    · go_wp2
      go_ret2
      refine ⟨w.heap.size, _, rfl, ⟨rv, rows, _, [], ⟨hB, by simp [Chain]⟩, ?_, rfl, rfl⟩, hK, hfoot⟩
      rw [hnow, List.take_of_length_le (by omega)]
end Go.Proofs.Ytlfaoibgmbbacaa
