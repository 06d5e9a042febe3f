/- The plans of CellsSmall: twelve slices made in whatever order. -/
import Derived.Test.YtlfaoibgmbbacaaAny
import Derived.Great.BuildSlice
namespace Go.Proofs.Ytlfaoibgmbbacaa
open Go.RowKit
def plans : List (List Int) := [[1024], [1023, 1], [1024, 1], [1025], [-1], [5, -1], [4611686018427387904, 4611686018427387904], [-9223372036854775808], List.replicate 16 0, List.replicate 17 0, [1024, 0, 0], [512, 513]]
theorem plans_few : ∀ p ∈ plans, p.length ≤ 17 := by decide
/-- The plans lie in the slice at gl. -/
def PL (gl : Nat) (w : World) : Prop := ∀ j p, plans[j]? = some p → ∃ g, w.cell? ⟨gl, j, none⟩ = some (.slice (some ⟨g, 0, none⟩) p.length p.length) ∧ g < w.heap.size ∧ Reads w (some ⟨g, 0, none⟩) (p.map numV)
theorem PL.kept {gl : Nat} {w w' : World} (h : PL gl w) (hk : Kept [] w w') : PL gl w' := fun j p hj => by
  obtain ⟨g, h1, h2, h3⟩ := h j p hj
  exact ⟨g, hk.cell h1 (by simp), Nat.lt_of_lt_of_le h2 hk.size, hk.reads h3 (by simp)⟩
theorem wpOp_run {P : Program} {ops : Array Oper} {Q : Exit → Act → World → Prop} {i : Nat} {o : Oper} {K : Act → World → Prop} {a : Act} {w : World} (ho : ops[i]? = some o) (hg : o.guard = none) (h : o.wp P a w K Q) : wpOp P ops Q i K a w := by
  unfold wpOp
  rw [ho]
  have hw : Region.wanted o (yielded ops a.tmps) = true := by unfold Region.wanted; rw [hg]
  simp only [hw, if_true]
  exact .inl h
theorem make16 (W : World) : (Instr.makeSlice 44 (.int .i64 16) (.int .i64 16)).run Try.prog W =
    .ok (.slice (some ⟨W.heap.size, 0, none⟩) 16 16) (W.alloc (.cells ((List.replicate 16 (0 : Int)).map numV).toArray 3)) := by
  obtain ⟨i0, hi, hz0, hz1, hz2⟩ := info_parts info3
  have := run_makeSlice (P := Try.prog) W 44 3 i0 (.int .i64 0) Try.underlying44 hi hz0 .i64 .i64 16 16 (by omega) (by omega) (by rw [hz1]; decide) (by rw [hz2]; decide) (by omega)
  have e : (Instr.makeSlice 44 (.int .i64 16) (.int .i64 16)).run Try.prog W = .ok (.slice (some ⟨W.heap.size, 0, none⟩) 16 16) (W.alloc (.cells (Array.replicate 16 (.int .i64 0)) 3)) := by
    simpa [hz1, Value.cells, madeCells_zero] using this
  exact e
theorem make17 (W : World) : (Instr.makeSlice 44 (.int .i64 17) (.int .i64 17)).run Try.prog W =
    .ok (.slice (some ⟨W.heap.size, 0, none⟩) 17 17) (W.alloc (.cells ((List.replicate 17 (0 : Int)).map numV).toArray 3)) := by
  obtain ⟨i0, hi, hz0, hz1, hz2⟩ := info_parts info3
  have := run_makeSlice (P := Try.prog) W 44 3 i0 (.int .i64 0) Try.underlying44 hi hz0 .i64 .i64 17 17 (by omega) (by omega) (by rw [hz1]; decide) (by rw [hz2]; decide) (by omega)
  have e : (Instr.makeSlice 44 (.int .i64 17) (.int .i64 17)).run Try.prog W = .ok (.slice (some ⟨W.heap.size, 0, none⟩) 17 17) (W.alloc (.cells (Array.replicate 17 (.int .i64 0)) 3)) := by
    simpa [hz1, Value.cells, madeCells_zero] using this
  exact e
theorem put_us {pre us post : List Value} {ds : List Deferred} {j : Nat} {v : Value} (hp : pre.length = 120) (hj : j < us.length) :
    (Act.mk (pre ++ us ++ post).toArray ds).put (some (120 + j)) v = ⟨(pre ++ us.set j v ++ post).toArray, ds⟩ := by
  unfold Act.put
  simp only [List.setIfInBounds_toArray]
  rw [List.set_append_left _ _ (by rw [List.length_append]; omega), List.set_append_right _ _ (by omega), hp, Nat.add_sub_cancel_left]
theorem eval_us {pre us post : List Value} {ds : List Deferred} {j : Nat} {v : Value} (hp : pre.length = 120) (hj : us[j]? = some v) :
    (Act.mk (pre ++ us ++ post).toArray ds).eval (.tmp (120 + j)) = v := by
  have hl : j < us.length := (List.getElem?_eq_some_iff.1 hj).1
  have : (pre ++ us ++ post)[120 + j]? = some v := by
    rw [List.getElem?_append_left (by rw [List.length_append]; omega), List.getElem?_append_right (by omega), hp, Nat.add_sub_cancel_left, hj]
  simp only [Act.eval, Array.getD_eq_getD_getElem?, List.getElem?_toArray, this, Option.getD_some]
def J20 (w0 : World) (pre post : List Value) (ds : List Deferred) (listed : Array Bool) (a : Act) (w : World) : Prop :=
  Kept [] w0 w ∧ listed.size = 15 ∧ ∃ us : List Value, us.length = 15 ∧ a = ⟨(pre ++ us ++ post).toArray, ds⟩ ∧
    (∀ j p, plans[j]? = some p → listed.getD j false = true → ∃ g, us[j]? = some (.slice (some ⟨g, 0, none⟩) p.length p.length) ∧ g < w.heap.size ∧ Reads w (some ⟨g, 0, none⟩) (p.map numV)) ∧
    (listed.getD 12 false = true → ∃ gl, us[12]? = some (.slice (some ⟨gl, 0, none⟩) 12 12) ∧ PL gl w) ∧
    (listed.getD 13 false = true → us[13]? = some (.int .i64 12)) ∧
    (listed.getD 14 false = true → us[14]? = some (.int .i64 0))
theorem plan_lt {j : Nat} {p : List Int} (h : plans[j]? = some p) : j < 12 := (List.getElem?_eq_some_iff.1 h).1
theorem getD_put {l : Array Bool} {i j : Nat} (h : i ≠ j) : (l.setIfInBounds i true).getD j false = l.getD j false := getD_set_ne false h
section
variable {w0 w : World} {pre post : List Value} {ds : List Deferred} {listed : Array Bool} {a : Act}
theorem J20.plan (h : J20 w0 pre post ds listed a w) (hp : pre.length = 120) {j : Nat} {p : List Int} (hj : plans[j]? = some p) :
    J20 w0 pre post ds (listed.setIfInBounds j true) (a.put (some (120 + j)) (.slice (some ⟨w.heap.size, 0, none⟩) p.length p.length)) (w.alloc (.cells (p.map numV).toArray 3)) := by
  obtain ⟨h1, h2, us, h3, rfl, h4, h5, h6, h7⟩ := h
  have hj12 := plan_lt hj
  have hk : Kept [] w (w.alloc (.cells (p.map numV).toArray 3)) := Kept.alloc _ _ _
  refine ⟨h1.trans' hk, by simpa using h2, us.set j (.slice (some ⟨w.heap.size, 0, none⟩) p.length p.length), by simpa using h3, put_us hp (by omega), ?_, ?_, ?_, ?_⟩
  · intro k q hq hl
    by_cases e : j = k
    · subst e
      rw [hj] at hq
      cases hq
      exact ⟨w.heap.size, by rw [List.getElem?_set_self (by omega)], by simp, reads_blk (Blk.new _ _ _)⟩
    · rw [getD_put e] at hl
      obtain ⟨g, q1, q2, q3⟩ := h4 k q hq hl
      exact ⟨g, by rw [List.getElem?_set_ne e, q1], Nat.lt_of_lt_of_le q2 hk.size, hk.reads q3 (by simp)⟩
  · intro hl
    rw [getD_put (by omega)] at hl
    obtain ⟨gl, q1, q2⟩ := h5 hl
    exact ⟨gl, by rw [List.getElem?_set_ne (by omega), q1], q2.kept hk⟩
  · intro hl
    rw [getD_put (by omega)] at hl
    rw [List.getElem?_set_ne (by omega), h6 hl]
  · intro hl
    rw [getD_put (by omega)] at hl
    rw [List.getElem?_set_ne (by omega), h7 hl]
theorem J20.len (h : J20 w0 pre post ds listed a w) (hp : pre.length = 120) :
    J20 w0 pre post ds (listed.setIfInBounds 13 true) (a.put (some 133) (.int .i64 12)) w := by
  obtain ⟨h1, h2, us, h3, rfl, h4, h5, h6, h7⟩ := h
  refine ⟨h1, by simpa using h2, us.set 13 (.int .i64 12), by simpa using h3, put_us (j := 13) hp (by omega), ?_, ?_, ?_, ?_⟩
  · intro k q hq hl
    have := plan_lt hq
    rw [getD_put (by omega)] at hl
    rw [List.getElem?_set_ne (by omega)]
    exact h4 k q hq hl
  · intro hl
    rw [getD_put (by omega)] at hl
    rw [List.getElem?_set_ne (by omega)]
    exact h5 hl
  · intro _
    rw [List.getElem?_set_self (by omega)]
  · intro hl
    rw [getD_put (by omega)] at hl
    rw [List.getElem?_set_ne (by omega), h7 hl]
theorem J20.zero (h : J20 w0 pre post ds listed a w) (hp : pre.length = 120) :
    J20 w0 pre post ds (listed.setIfInBounds 14 true) (a.put (some 134) (.int .i64 0)) w := by
  obtain ⟨h1, h2, us, h3, rfl, h4, h5, h6, h7⟩ := h
  refine ⟨h1, by simpa using h2, us.set 14 (.int .i64 0), by simpa using h3, put_us (j := 14) hp (by omega), ?_, ?_, ?_, ?_⟩
  · intro k q hq hl
    have := plan_lt hq
    rw [getD_put (by omega)] at hl
    rw [List.getElem?_set_ne (by omega)]
    exact h4 k q hq hl
  · intro hl
    rw [getD_put (by omega)] at hl
    rw [List.getElem?_set_ne (by omega)]
    exact h5 hl
  · intro hl
    rw [getD_put (by omega)] at hl
    rw [List.getElem?_set_ne (by omega), h6 hl]
  · intro _
    rw [List.getElem?_set_self (by omega)]
theorem J20.vals (h : J20 w0 pre post ds listed a w) (hp : pre.length = 120) {j : Nat} {p : List Int} (hj : plans[j]? = some p) (hl : listed.getD j false = true) :
    ∃ g, a.eval (.tmp (120 + j)) = .slice (some ⟨g, 0, none⟩) p.length p.length ∧ g < w.heap.size ∧ Reads w (some ⟨g, 0, none⟩) (p.map numV) := by
  obtain ⟨h1, h2, us, h3, rfl, h4, h5, h6, h7⟩ := h
  obtain ⟨g, q1, q2, q3⟩ := h4 j p hj hl
  exact ⟨g, eval_us hp q1, q2, q3⟩
theorem J20.slices (h : J20 w0 pre post ds listed a w) (hp : pre.length = 120) (hl : ∀ j, j < 12 → listed.getD j false = true) :
    J20 w0 pre post ds (listed.setIfInBounds 12 true) (a.put (some 132) (.slice (some ⟨w.heap.size, 0, none⟩) 12 12)) (w.alloc (.cells ((List.range 12).map fun j => a.eval (.tmp (120 + j))).toArray 44)) := by
  have hv := fun j p (hj : plans[j]? = some p) => h.vals hp hj (hl j (plan_lt hj))
  generalize hL : ((List.range 12).map fun j => a.eval (.tmp (120 + j))) = L
  have hL' : ∀ j, j < 12 → L[j]? = some (a.eval (.tmp (120 + j))) := fun j hj => by
    rw [← hL, List.getElem?_map, List.getElem?_range hj]; rfl
  have hk : Kept [] w (w.alloc (.cells L.toArray 44)) := Kept.alloc _ _ _
  have hb : Blk (w.alloc (.cells L.toArray 44)) w.heap.size 44 L.toArray := Blk.new _ _ _
  obtain ⟨h1, h2, us, h3, ha, h4, h5, h6, h7⟩ := h
  subst ha
  refine ⟨h1.trans' hk, by simpa using h2, us.set 12 (.slice (some ⟨w.heap.size, 0, none⟩) 12 12), by simpa using h3, put_us (j := 12) hp (by omega), ?_, ?_, ?_, ?_⟩
  · intro k q hq hl
    have := plan_lt hq
    rw [getD_put (by omega)] at hl
    obtain ⟨g, q1, q2, q3⟩ := h4 k q hq hl
    exact ⟨g, by rw [List.getElem?_set_ne (by omega), q1], Nat.lt_of_lt_of_le q2 hk.size, hk.reads q3 (by simp)⟩
  · intro _
    refine ⟨w.heap.size, by rw [List.getElem?_set_self (by omega)], fun j p hj => ?_⟩
    obtain ⟨g, q1, q2, q3⟩ := hv j p hj
    exact ⟨g, by rw [hb.cell, List.getElem?_toArray, hL' j (plan_lt hj), q1], Nat.lt_of_lt_of_le q2 hk.size, hk.reads q3 (by simp)⟩
  · intro hl
    rw [getD_put (by omega)] at hl
    rw [List.getElem?_set_ne (by omega), h6 hl]
  · intro hl
    rw [getD_put (by omega)] at hl
    rw [List.getElem?_set_ne (by omega), h7 hl]
theorem region20 {P : Program} {id : Nat} {ops : Array Oper} {T : List Value} {Q : Exit → Act → World → Prop} (hT : 135 ≤ T.length) (hn : ops.size = 15) (hm : P.follows .mixedOrders = true) (hk : Kept [] w0 w)
    (hstep : ∀ pre post listed a w' i, pre.length = 120 → J20 w0 pre post ds listed a w' → i ∈ Region.ready .any ops listed → wpOp P ops Q i (fun a' w'' => J20 w0 pre post ds (listed.setIfInBounds i true) a' w'') a w')
    (hall : ∀ listed, Region.ready .any ops listed = [] → listed.size = 15 → ∀ j, j < 15 → listed.getD j false = true)
    (hend : ∀ us gl w', us.length = 15 → us[12]? = some (.slice (some ⟨gl, 0, none⟩) 12 12) → us[13]? = some (.int .i64 12) → us[14]? = some (.int .i64 0) → Kept [] w0 w' → PL gl w' → Q .normal ⟨(T.take 120 ++ us ++ T.drop 135).toArray, ds⟩ w') :
    (Code.region id ops true).wp P Q ⟨T.toArray, ds⟩ w := by
  have hp : (T.take 120).length = 120 := by rw [List.length_take]; omega
  have hno : ∀ j, (Array.replicate 15 false).getD j false = true → False := fun j h => by
    unfold Array.getD at h
    split at h <;> simp at h
  refine wp_region_any hm (wpAny_keep (J20 w0 (T.take 120) (T.drop 135) ds) (fun listed a w' i hI hi => hstep _ _ _ _ _ _ hp hI hi) (fun listed a w' hI hr => ?_) _ _ _ _ ?_ ?_)
  · obtain ⟨h1, h2, us, h3, rfl, h4, h5, h6, h7⟩ := hI
    have l := hall listed hr h2
    obtain ⟨gl, q1, q2⟩ := h5 (l 12 (by omega))
    exact hend us gl w' h3 q1 (h6 (l 13 (by omega))) (h7 (l 14 (by omega))) h1 q2
  · rw [hn]; decide
  · refine ⟨hk.trans' (Kept.drew [] w), by simp [hn], (T.drop 120).take 15, by rw [List.length_take, List.length_drop]; omega, ?_, ?_, ?_, ?_, ?_⟩
    · have : T = T.take 120 ++ (T.drop 120).take 15 ++ T.drop 135 := by
        rw [List.append_assoc, show T.drop 135 = (T.drop 120).drop 15 by rw [List.drop_drop], List.take_append_drop, List.take_append_drop]
      rw [← this]
    · intro j p _ hl
      exact (hno j (by rwa [hn] at hl)).elim
    · intro hl
      exact (hno _ (by rwa [hn] at hl)).elim
    · intro hl
      exact (hno _ (by rwa [hn] at hl)).elim
    · intro hl
      exact (hno _ (by rwa [hn] at hl)).elim
theorem info44 : (Try.prog.info? 44).map (fun i => (i.zero, i.size, i.bytes)) = some (some (.slice none 0 0), 1, 24) := by kernel_rfl
theorem fill12 (v : Nat → Value) (h : ∀ j, j < 12 → ∃ A n c, v j = .slice A n c) :
    Instr.fill (fun i => some (i * 1, 1)) ((Array.range (12 * 1)).map ((Value.slice none 0 0).cells[· % (Value.slice none 0 0).cells.size]!)) [(0, v 0), (1, v 1), (2, v 2), (3, v 3), (4, v 4), (5, v 5), (6, v 6), (7, v 7), (8, v 8), (9, v 9), (10, v 10), (11, v 11)] = some ((List.range 12).map v).toArray := by
  obtain ⟨A0, n0, c0, e0⟩ := h 0 (by omega)
  obtain ⟨A1, n1, c1, e1⟩ := h 1 (by omega)
  obtain ⟨A2, n2, c2, e2⟩ := h 2 (by omega)
  obtain ⟨A3, n3, c3, e3⟩ := h 3 (by omega)
  obtain ⟨A4, n4, c4, e4⟩ := h 4 (by omega)
  obtain ⟨A5, n5, c5, e5⟩ := h 5 (by omega)
  obtain ⟨A6, n6, c6, e6⟩ := h 6 (by omega)
  obtain ⟨A7, n7, c7, e7⟩ := h 7 (by omega)
  obtain ⟨A8, n8, c8, e8⟩ := h 8 (by omega)
  obtain ⟨A9, n9, c9, e9⟩ := h 9 (by omega)
  obtain ⟨A10, n10, c10, e10⟩ := h 10 (by omega)
  obtain ⟨A11, n11, c11, e11⟩ := h 11 (by omega)
  have er : (List.range 12).map v = [v 0, v 1, v 2, v 3, v 4, v 5, v 6, v 7, v 8, v 9, v 10, v 11] := rfl
  rw [er, e0, e1, e2, e3, e4, e5, e6, e7, e8, e9, e10, e11]
  first | kernel_rfl | (go_simp; done) | (simp [Instr.fill, Value.cells]; done) | (simp [Instr.fill, Value.cells, go_sem, Array.range, List.range_succ]; rfl)
theorem J20.step12 {ops : Array Oper} {o : Oper} {Q : Exit → Act → World → Prop} (h : J20 w0 pre post ds listed a w) (hp : pre.length = 120) (hl : ∀ j, j < 12 → listed.getD j false = true) (hops : ops[12]? = some o) (hg : o.guard = none) (hd : o.dst = some 132)
    (ho : o.op = .buildSlice 51 12 #[(0, .tmp 120), (1, .tmp 121), (2, .tmp 122), (3, .tmp 123), (4, .tmp 124), (5, .tmp 125), (6, .tmp 126), (7, .tmp 127), (8, .tmp 128), (9, .tmp 129), (10, .tmp 130), (11, .tmp 131)]) :
    wpOp Try.prog ops Q 12 (fun a' w' => J20 w0 pre post ds (listed.setIfInBounds 12 true) a' w') a w := by
  obtain ⟨i0, hi, hz0, hz1, hz2⟩ := info_parts info44
  have hf := fill12 (fun j => a.eval (.tmp (120 + j))) (fun j hj => by
    obtain ⟨p, hp'⟩ : ∃ p, plans[j]? = some p := ⟨_, List.getElem?_eq_getElem (by simp only [plans, List.length_cons, List.length_nil]; omega)⟩
    obtain ⟨g, e, _⟩ := h.vals hp hp' (hl j hj)
    exact ⟨_, _, _, e⟩)
  refine wpOp_run hops hg (wp_buildSlice 51 44 12 _ ho _ i0 (.slice none 0 0) Try.underlying51 hi hz0 (by rw [hz1]; decide) (by rw [hz1]; decide) (by rw [hz1]; simpa using hf) ?_)
  rw [hd]
  exact h.slices hp hl
theorem J20.step13 {ops : Array Oper} {o : Oper} {Q : Exit → Act → World → Prop} (h : J20 w0 pre post ds listed a w) (hp : pre.length = 120) (hl : listed.getD 12 false = true) (hops : ops[13]? = some o) (hg : o.guard = none) (hd : o.dst = some 133)
    (ho : o.op = .call { callee := .builtin .len, args := #[.tmp 132], argTypes := #[51] }) :
    wpOp Try.prog ops Q 13 (fun a' w' => J20 w0 pre post ds (listed.setIfInBounds 13 true) a' w') a w := by
  have hv : ∃ gl, a.eval (.tmp 132) = .slice (some ⟨gl, 0, none⟩) 12 12 := by
    obtain ⟨h1, h2, us, h3, rfl, h4, h5, h6, h7⟩ := h
    obtain ⟨gl, q1, _⟩ := h5 hl
    exact ⟨gl, eval_us (j := 12) hp q1⟩
  obtain ⟨gl, hv⟩ := hv
  have hJ := h.len hp
  refine wpOp_run hops hg ?_
  clear h hl hops
  unfold Oper.wp execOp
  rw [ho]
  go_simp
  have hv' : a.tmps[132]?.getD undef = .slice (some ⟨gl, 0, none⟩) 12 12 := by
    rw [← hv]
    simp [Act.eval, Array.getD_eq_getD_getElem?]
  rw [hv']
  unfold Builtin.len_
  go_simp
  exact hJ
theorem all_listed {md : Region.Mode} {ops : Array Oper} {listed : Array Bool} (hc : ((List.range ops.size).all fun i => ((ops[i]?).map fun o => o.after.all fun e => decide (e.on < i)).getD false) = true) (hr : Region.ready md ops listed = []) (hs : listed.size = ops.size) : ∀ j, j < ops.size → listed.getD j false = true := by
  intro j
  induction j using Nat.strongRecOn with
  | _ j ih =>
    intro hj
    cases hb : listed.getD j false with
    | true => rfl
    | false =>
      exfalso
      have hb' : listed.getD j true = false := by
        have hj' : j < listed.size := by omega
        simpa [Array.getD, hj'] using hb
      have h1 := List.all_eq_true.1 hc j (List.mem_range.2 hj)
      have ho : ops[j]? = some ops[j] := Array.getElem?_eq_getElem hj
      rw [ho] at h1
      have h2 : ops[j].after.all (fun e => decide (e.on < j)) = true := h1
      have hm : j ∈ Region.ready md ops listed := mem_ready.2 ⟨hb', ops[j], ho, fun e he _ => by
        have h3 := Array.all_eq_true_iff_forall_mem.1 h2 e he
        have h4 : e.on < j := by simpa using h3
        exact ih _ h4 (by omega)⟩
      rw [hr] at hm
      cases hm
end
end Go.Proofs.Ytlfaoibgmbbacaa
