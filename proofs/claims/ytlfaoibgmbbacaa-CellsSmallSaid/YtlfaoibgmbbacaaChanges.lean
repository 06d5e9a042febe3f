/- The walk of Changes of package cells: the range over the iterator. -/
import Derived.Test.YtlfaoibgmbbacaaIter
import Derived.BigRegionIn
import Derived.Test.YtlfaoibgmbbacaaRound
namespace Go.Proofs.Ytlfaoibgmbbacaa
open Go.RowKit Go.Shelf
open Go.ChangeMaps (setBlock)
attribute [local go_sem] Oper.semAt_some
abbrev Ch := (Nat × Nat) × Int × Int
def chV (x : Ch) : List Value := [.int .i64 ((x.1.1 : Int) + 1), .int .i64 (x.1.2 : Int), .int .i64 x.2.1, .int .i64 x.2.2]
def flatC (l : List Ch) : List Value := l.flatMap chV
theorem flatC_len (l : List Ch) : (flatC l).length = l.length * 4 := by
  induction l with
  | nil => rfl
  | cons x l ih => simp only [flatC, List.flatMap_cons, List.length_append, List.length_cons] at ih ⊢; rw [ih]; simp [chV]; omega

theorem blk_nc {A B : World} {row : Option Nat} {g : Nat} {t : TypeId} {cs : Array Value} (hb : Blk A g t cs) (hg : A.grownBy B row) (hr : ∀ r, row = some r → ∃ o : Obj, A.heap[r]? = some o ∧ o.isCells = false) : Blk B g t cs :=
  grown_blk hg hb fun e => by
    obtain ⟨o, ho, hc⟩ := hr g e
    unfold Blk at hb
    rw [hb] at ho
    cases ho
    cases hc
theorem own_nc {A B : World} {row : Option Nat} {base size n : Nat} {e : TypeId} {v : Value} {xs : List Value} (ho : A.ownsRow base e size v n xs) (hg : A.grownBy B row) (hr : ∀ r, row = some r → ∃ o : Obj, A.heap[r]? = some o ∧ o.isCells = false) :
    B.ownsRow base e size v n xs :=
  ho.kept hg (by
    cases hv : v.ownBlock with
    | none => exact .inl rfl
    | some k =>
      right
      intro e
      obtain ⟨cs, hcs⟩ := own_blk ho hv
      obtain ⟨o, ho', hc⟩ := hr k e.symm
      unfold Blk at hcs
      rw [hcs] at ho'
      cases ho'
      cases hc)
theorem own_shape {w : World} {base size n : Nat} {e : TypeId} {v : Value} {xs : List Value} (h : w.ownsRow base e size v n xs) (hn : 0 < n) : ∃ g cap, v = .slice (some ⟨g, 0, none⟩) n cap := by
  rcases h.2 with ⟨_, h0⟩ | ⟨g, cap, cur, rfl, _⟩
  · omega
  · exact ⟨g, cap, rfl⟩
theorem cell_row_new (w : World) (vs : List Value) (t : TypeId) : ∀ j u, vs[j]? = some u → (w.alloc (.cells vs.toArray t)).cell? ((⟨w.heap.size, 0, none⟩ : Addr).add j) = some u := by
  intro j u hj
  have hadd : (⟨w.heap.size, 0, none⟩ : Addr).add j = ⟨w.heap.size, j, none⟩ := by unfold Addr.add; split <;> simp_all
  rw [hadd, (Blk.new w t vs.toArray).cell j]
  simpa using hj
theorem info39 : (Try.prog.info? 39).map (fun i => (i.zero, i.size, i.bytes)) = some (some (.agg #[.int .i64 0, .int .i64 0, .int .i64 0, .int .i64 0]), 4, 32) := by kernel_rfl

theorem kept_others {F : List Nat} {W W' : World} (h : Kept F W W') (hF : ∀ b ∈ F, ∃ t cs, Blk W b t cs) : KeepsOthers W W' :=
  ⟨h.size, fun k o hk ho => (h.block k (lt_of_heap hk) (fun hm => by
    obtain ⟨t, cs, hb⟩ := hF k hm
    unfold Blk at hb
    rw [hb] at hk
    cases hk
    cases ho)).trans hk⟩
theorem below_nil {w w' : World} (h : Below w.heap.size w w') : Kept [] w w' := ⟨h.os, h.tape, h.output, h.size, fun b hb _ => h.block b hb⟩
theorem cellsOf_le {rows : List RowL} (h : rows.length ≤ 16) (hs : ∀ r ∈ rows, r.xs.length ≤ 1024) : (cellsOf (nowOf rows)).length ≤ 16384 := by
  have key : ∀ k, k ≤ rows.length → (cellsUp (nowOf rows) k).length ≤ k * 1024 := by
    intro k
    induction k with
    | zero => intro _; simp [cellsUp]
    | succ k ih =>
      intro hk
      rw [cellsUp_succ, List.length_append, nowOf_get, List.getElem?_eq_getElem (by omega)]
      have := ih (by omega)
      have := hs rows[k] (List.getElem_mem _)
      simp only [rowUp, List.length_map, List.length_range, Option.map_some, Option.getD_some]
      omega
  have := key rows.length (Nat.le_refl _)
  simp only [cellsOf, nowOf, List.length_map] at this ⊢
  omega
def g0 (x : (Nat × Nat) × Int) : Option Ch := if x.2 = 0 then none else some (x.1, 0, x.2)
/-- What the changes' loop holds between two rounds. -/
def OutIs (w : World) (a : Nat) (out : List Ch) (W : World) : Prop :=
  ∃ A cap, Blk W (w.heap.size + 1) 31 #[.slice A out.length cap] ∧ W.ownsRow w.heap.size 39 4 (.slice A out.length cap) out.length (flatC out) ∧ Blk W w.heap.size 24 #[.pointer (some ⟨a, 0, none⟩)] ∧ Below w.heap.size w W

set_option maxRecDepth 100000 in
set_option maxHeartbeats 1000000 in
theorem changes_first {w : World} {a : Nat} {rv : Value} {A : Option Addr} {cm : Nat} {rows : List RowL} (hB : MemB w a rv rows (.slice A 0 cm) []) :
    Calls Try.prog 15 #[.pointer (some ⟨a, 0, none⟩)] w fun e w' => ∃ A cap, e = .returned (.slice A ((cellsOf (nowOf rows)).filterMap g0).length cap) ∧
      w'.ownsRow w.heap.size 39 4 (.slice A ((cellsOf (nowOf rows)).filterMap g0).length cap) ((cellsOf (nowOf rows)).filterMap g0).length (flatC ((cellsOf (nowOf rows)).filterMap g0)) ∧ Kept [] w w' := by
  have hm := hB.made
  have hmk := hB.marks
  have hal := hB.blk.lt
  refine (callsIn_wide (n := 8)).1 ?_
  refine callsIn_of_wp_marks Try.func15 rfl trivial ?_ rfl
  simp only [Try.ntmps15, List.size_toArray, List.length_cons, List.length_nil, Nat.reduceAdd, Nat.reduceSub, Array.replicate_succ, Array.replicate_zero, List.push_toArray, List.append_toArray, List.nil_append, List.cons_append]
  gi_wp2_with (first
    | (refine ⟨trivial, ?_⟩; gi_at_call 31; refine (callsIn_wide.2 (is_yes a _ (by simpa [World.cell?_alloc_past, hal] using hm))).mono ?_; rintro e w' ⟨rfl, rfl⟩)
    | (refine ⟨trivial, ?_⟩; gi_at_call 32; refine (callsIn_wide.2 (all_calls a _)).mono ?_; rintro e w' ⟨rfl, rfl⟩))
  have hB0 : MemB (((w.alloc (.cells #[.pointer (some ⟨a, 0, none⟩)] 24)).alloc (.cells #[.slice none 0 0] 31)).alloc (.cells #[.pointer (some ⟨a, 0, none⟩)] 24)) a rv rows (.slice A 0 cm) [] :=
    hB.kept (((Kept.alloc [] _ _).trans' (Kept.alloc _ _ _)).trans' (Kept.alloc _ _ _)) (by simp)
  have hb1 : Blk (((w.alloc (.cells #[.pointer (some ⟨a, 0, none⟩)] 24)).alloc (.cells #[.slice none 0 0] 31)).alloc (.cells #[.pointer (some ⟨a, 0, none⟩)] 24)) w.heap.size 24 #[.pointer (some ⟨a, 0, none⟩)] :=
    ((Kept.alloc [] _ _).trans' (Kept.alloc _ _ _)).blk (Blk.new w 24 _) (by simp)
  have hb2 : Blk (((w.alloc (.cells #[.pointer (some ⟨a, 0, none⟩)] 24)).alloc (.cells #[.slice none 0 0] 31)).alloc (.cells #[.pointer (some ⟨a, 0, none⟩)] 24)) (w.heap.size + 1) 31 #[.slice none 0 0] := by
    have := (Kept.alloc [] _ (.cells #[.pointer (some ⟨a, 0, none⟩)] 24)).blk (Blk.new (w.alloc (.cells #[.pointer (some ⟨a, 0, none⟩)] 24)) 31 #[.slice none 0 0]) (by simp)
    rwa [World.size_alloc] at this
  have hb3 : (((w.alloc (.cells #[.pointer (some ⟨a, 0, none⟩)] 24)).alloc (.cells #[.slice none 0 0] 31)).alloc (.cells #[.pointer (some ⟨a, 0, none⟩)] 24)).cell? ⟨w.heap.size + 2, 0, none⟩ = some (.pointer (some ⟨a, 0, none⟩)) := by
    have := (Blk.new ((w.alloc (.cells #[.pointer (some ⟨a, 0, none⟩)] 24)).alloc (.cells #[.slice none 0 0] 31)) 24 #[.pointer (some ⟨a, 0, none⟩)]).cell 0
    rwa [World.size_alloc, World.size_alloc] at this
  have hbl : Below w.heap.size w (((w.alloc (.cells #[.pointer (some ⟨a, 0, none⟩)] 24)).alloc (.cells #[.slice none 0 0] 31)).alloc (.cells #[.pointer (some ⟨a, 0, none⟩)] 24)) :=
    (((Below.refl _ w).alloc (Nat.le_refl _) _).alloc (by simp) _).alloc (by simp; omega) _
  have hsz : (((w.alloc (.cells #[.pointer (some ⟨a, 0, none⟩)] 24)).alloc (.cells #[.slice none 0 0] 31)).alloc (.cells #[.pointer (some ⟨a, 0, none⟩)] 24)).heap.size = w.heap.size + 3 := by simp
  generalize (((w.alloc (.cells #[.pointer (some ⟨a, 0, none⟩)] 24)).alloc (.cells #[.slice none 0 0] 31)).alloc (.cells #[.pointer (some ⟨a, 0, none⟩)] 24)) = W0 at hB0 hb1 hb2 hb3 hbl hsz ⊢
  have hfo := hB.lt
  have hseq : SeqStopsK Fence.wide (8 - 1) Try.prog 45 #[.pointer (some ⟨w.heap.size + 2, 0, none⟩)] cellEnc (Below w.heap.size) (fun xs => xs = cellsOf (nowOf rows)) (fun _ => True) (cellsOf (nowOf rows)).length W0 :=
    fun l J Jx W hW hJ hJx hY h0 => all1_in Fence.wide (8 - 1) trivial rfl (by omega) l (w.heap.size + 2) w.heap.size a rv (.slice A 0 cm) rows [] J Jx hY W (hW.cell (p := ⟨w.heap.size + 2, 0, none⟩) (by simp; omega) |>.trans hb3) (hB0.below hW (fun b hb => by have := hfo b hb; omega)) hfo h0
  obtain ⟨i0, hi, hz0, hz1, hz2⟩ := info_parts info39
  have hN := cellsOf_le hB.few hB.short
  refine wpIn_rangeFunc_ownH rfl (by omega) (gf := 45) (lb := #[.pointer (some ⟨w.heap.size + 2, 0, none⟩)]) rfl trivial (enters_of Try.func45 (by kernel_rfl) rfl) hseq belowK_t (belowK_b (by omega)) (Below.refl _ _) (fun _ => rfl)
    (fun pre W => OutIs w a (pre.filterMap g0) W)
    (fun _ _ _ => False)
    (fun s X Y row hs hg hr => by
      obtain ⟨A, cap, h1, h2, h3, h4⟩ := hs
      exact ⟨A, cap, blk_nc h1 hg (fun r e => (hr r e).2), own_nc h2 hg (fun r e => (hr r e).2), blk_nc h3 hg (fun r e => (hr r e).2), h4.grown hg h4.size (fun k e => by have := (hr k e).1; omega)⟩)
    (fun _ _ _ _ _ hs _ _ => hs)
    ⟨none, 0, hb2, World.ownsRow_nil _ _ _ _, hb1, hbl⟩
    (fun x a' W => ∃ Bx, w.heap.size ≤ Bx ∧ Blk W Bx 73 #[.int .i64 ((x.1.1 : Int) + 1), .int .i64 (x.1.2 : Int)] ∧ a' = { tmps := #[Value.pointer (some { block := a, off := 0 }), Value.pointer (some { block := w.heap.size, off := 0 }),
      Value.slice none 0 0, Value.pointer (some { block := w.heap.size + 1, off := 0 }), .pointer (some ⟨Bx, 0, none⟩), .int .i64 x.2, undef, undef, undef,
      Value.pointer (some { block := a, off := 0 }), Value.bool true, Value.bool false,
      Value.pointer (some { block := a, off := 0 }),
      Value.func (Fn.func 45) #[] #[Value.pointer (some { block := w.heap.size + 1 + 1, off := 0 })], .agg #[.int .i64 ((x.1.1 : Int) + 1), .int .i64 (x.1.2 : Int)], .int .i64 x.2, undef,
      undef, undef, undef, undef, undef, undef, undef, undef, undef, undef, undef, undef, undef, undef, undef, undef, undef,
      undef, undef, undef, undef, undef, undef, undef, undef, undef, undef, undef, undef, undef, undef, undef, undef, undef], defers := [] })
    (fun x a' u X Y row hs hg hr => by
      obtain ⟨Bx, h0, h1, h2⟩ := hs
      exact ⟨Bx, h0, blk_nc h1 hg (fun r e => (hr r e).2), h2⟩) ?assign ?body ?done ?stop
  case assign =>
    rintro l pre x W K ⟨A, cap, h1, h2, h3, h4⟩ hK
    have X1 := Lib.hid h1
    have X2 := Lib.hid h2
    have X3 := Lib.hid h3
    have X4 := Lib.hid h4
    have HK := Lib.hid hK
    clear h1 h2 h3 h4 hK hB hB0 hb1 hb2 hb3 hbl hseq
    simp only [cellEnc, placeV, numV]
    gi_wp2
    refine HK.out _ _ ((KeepsOthers.alloc _ _).from _) ((Below.refl _ W).alloc (by have := X4.out.size; omega) _) ?_ ?_
    · exact ⟨A, cap, (Kept.alloc [] _ _).blk X1.out (by simp), X2.out.alloc _, (Kept.alloc [] _ _).blk X3.out (by simp), X4.out.alloc X4.out.size _⟩
    · exact ⟨W.heap.size, by have := X4.out.size; omega, Blk.new _ _ _, rfl⟩
  case body =>
    rintro l pre ⟨⟨k, j⟩, v⟩ a' W hl ⟨r, hr⟩ ⟨A, cap, h1, h2, h3, h4⟩ ⟨Bx, hBx, hb, rfl⟩ hlt
    have m1 := (h4.cell (p := ⟨a, 2, none⟩) hal).trans hmk
    have c1 := h3.cell 0
    have c2 := h1.cell 0
    have c3 := hb.cell 0
    have c4 := hb.cell 1
    have hsz2 := h4.size
    have X1 := Lib.hid h1
    have X2 := Lib.hid h2
    have X3 := Lib.hid h3
    have X4 := Lib.hid h4
    have X5 := Lib.hid hb
    clear h1 h2 h3 h4 hb hB hB0 hb1 hb2 hb3 hbl hseq hr hmk hm
    by_cases hv : v = 0
    · subst hv
      gi_wp2
      refine ⟨KeepsFrom.refl _ _, Below.refl _ _, A, cap, ?_⟩
      rw [List.filterMap_append]
      simp only [g0, List.filterMap_cons, List.filterMap_nil, if_true, List.append_nil]
      exact ⟨X1.out, X2.out, X3.out, X4.out⟩
    · have hv1 : (v != 0) = true := by simpa using hv
      have hout : List.filterMap g0 (pre ++ [((k, j), v)]) = List.filterMap g0 pre ++ [((k, j), 0, v)] := by
        rw [List.filterMap_append]
        simp [g0, hv]
      have hlen : (List.filterMap g0 pre).length ≤ 16384 := Nat.le_trans (List.length_filterMap_le _ _) (by omega)
      have HO := Lib.hid hout
      have hcn := cell_row_new W (chV ((k, j), 0, v)) 39
      have HC := Lib.hid hcn
      clear hout hcn
      generalize hnl : List.filterMap g0 pre = out at *
      clear hnl
      gi_wp2_with (gi_at_builtin
                   refine wpListIn_append_own _ rfl _ _ 31 rfl w.heap.size 39 i0 (.agg #[.int .i64 0, .int .i64 0, .int .i64 0, .int .i64 0]) 4 32 Try.underlying31 hi hz0 hz1 hz2 rfl (by decide) (.slice A out.length cap) out.length (flatC out) rfl (X2.out.alloc _) ⟨W.heap.size, 0, none⟩ 1 1 (chV ((k, j), 0, v)) rfl rfl HC.out (by simp [chV, Value.oneCell']) (by unfold maxLen; omega) (by omega) (by simp; omega) ?_
                   intro v' w1 hown' hgrow hnil
                   obtain ⟨g', cap', rfl⟩ := own_shape hown' (by omega)
                   have b1 := grown_blk hgrow ((Kept.alloc [] _ _).blk X1.out (by simp)) (fun e => by obtain ⟨cs, hcs⟩ := own_blk X2.out e; exact hcs.ne_ X1.out (by decide) rfl)
                   have g2 := b1.cell 0
                   have g3 := b1.frozen 0
                   have Y1 := Lib.hid b1
                   have Y2 := Lib.hid hown'
                   have Y3 := Lib.hid hgrow
                   clear b1 hown' hgrow hnil)
      have hF : Kept ((w.heap.size + 1) :: (Value.slice A out.length cap).ownBlock.toList) W (w1.setCell ⟨w.heap.size + 1, 0, none⟩ (.slice (some ⟨g', 0, none⟩) (out.length + 1) cap')) :=
        ((Kept.alloc _ _ _).trans' (Kept.grown Y3.out (by simp +contextual))).trans' (Kept.setCell (by simp) _ _)
      have hFb : ∀ b ∈ (w.heap.size + 1) :: (Value.slice A out.length cap).ownBlock.toList, w.heap.size ≤ b ∧ ∃ t cs, Blk W b t cs := by
        intro b hb
        rcases List.mem_cons.1 hb with rfl | hb
        · exact ⟨by omega, _, _, X1.out⟩
        · have e : (Value.slice A out.length cap).ownBlock = some b := by simpa using hb
          obtain ⟨cs, hcs⟩ := own_blk X2.out e
          exact ⟨(X2.out.lt b e).1, _, _, hcs⟩
      have hbW : Below w.heap.size W (w1.setCell ⟨w.heap.size + 1, 0, none⟩ (.slice (some ⟨g', 0, none⟩) (out.length + 1) cap')) := hF.below (fun b hb => (hFb b hb).1) X4.out.size
      refine ⟨(kept_others hF fun b hb => (hFb b hb).2).from _, hbW, (some ⟨g', 0, none⟩), cap', ?_⟩
      rw [HO.out]
      have hlen1 : (out ++ [((k, j), 0, v)]).length = out.length + 1 := by simp
      have hflat : flatC (out ++ [((k, j), 0, v)]) = flatC out ++ chV ((k, j), 0, v) := by simp [flatC]
      rw [hlen1, hflat]
      refine ⟨Y1.out.set_ 0 _, ?_, ?_, X4.out.trans hbW⟩
      · refine (Kept.setCell (F := [w.heap.size + 1]) (p := ⟨w.heap.size + 1, 0, none⟩) (by simp) w1 _).own Y2.out fun b e => ?_
        obtain ⟨cs, hcs⟩ := own_blk Y2.out e
        simpa using hcs.ne_ Y1.out (by decide)
      · refine hF.blk X3.out ?_
        simp only [List.mem_cons, Option.mem_toList, not_or]
        refine ⟨by omega, fun e => ?_⟩
        obtain ⟨cs, hcs⟩ := own_blk X2.out e
        exact hcs.ne_ X3.out (by decide) rfl
  case done =>
    rintro D ys W hD rfl ⟨A, cap, h1, h2, h3, h4⟩ hK
    have c2 := h1.cell 0
    have X1 := Lib.hid h1
    have X2 := Lib.hid h2
    have X4 := Lib.hid h4
    clear h1 h2 h3 h4 hB hB0 hb1 hb2 hb3 hbl hseq hmk hm
    gi_wp2
    refine ⟨by simp, .inl ⟨_, _, rfl, run_takeDeferred hK, ?_⟩⟩
    refine ⟨_, results_tmp rfl _ _ _, A, cap, rfl, ?_, ?_⟩
    · exact own_nc (row := some D) X2.out (grownBy_putObj' W D _) (fun r e => by cases e; exact ⟨_, hK, rfl⟩)
    · refine below_nil (X4.out.trans (belowK_b (w := w) (Nat.le_refl _) W D _ _ (by omega) hK rfl rfl))
  case stop =>
    rintro D c pre W _ _ h _
    exact h.elim
def g1 (m : List ((Nat × Nat) × Int)) (x : (Nat × Nat) × Int) : Option Ch := (mget x.1 m).map fun old => (x.1, old, x.2)
set_option maxRecDepth 100000 in
set_option maxHeartbeats 1000000 in
theorem changes_marks {w : World} {a : Nat} {rv : Value} {mv : Value} {rows : List RowL} {ts : List TopL} {t : TopL} (hB : MemB w a rv rows mv (ts ++ [t])) :
    Calls Try.prog 15 #[.pointer (some ⟨a, 0, none⟩)] w fun e w' => ∃ A cap, e = .returned (.slice A ((cellsOf (nowOf rows)).filterMap (g1 t.m)).length cap) ∧
      w'.ownsRow w.heap.size 39 4 (.slice A ((cellsOf (nowOf rows)).filterMap (g1 t.m)).length cap) ((cellsOf (nowOf rows)).filterMap (g1 t.m)).length (flatC ((cellsOf (nowOf rows)).filterMap (g1 t.m))) ∧ Kept [] w w' := by
  have hm := hB.made
  have hmo := hB.mown
  simp only [List.map_append, List.map_cons, List.map_nil, List.length_append, List.length_cons, List.length_nil, Nat.zero_add] at hmo
  obtain ⟨mb, mc, hmv, hcell, _, hcap, _⟩ := own_cell hmo (k := ts.length) (u := t.val) (by simp)
  have hmb := own_lt hmo (k := mb) (by rw [hmv]; rfl)
  have hmk := hB.marks
  have hmk2 : w.cell? ⟨a, 2, none⟩ = some (.slice (some ⟨mb, 0, none⟩) (ts.length + 1) mc) := by rw [hmk, hmv]
  have hlow := hB.low
  simp only [List.length_append, List.length_cons, List.length_nil, Nat.zero_add] at hlow
  simp only [TopL.val] at hcell
  generalize hnt : ts.length = nt at hmk2 hcell hlow
  clear hnt
  have hmap := hB.top t (by simp)
  have hal := hB.blk.lt
  refine (callsIn_wide (n := 8)).1 ?_
  refine callsIn_of_wp_marks Try.func15 rfl trivial ?_ rfl
  simp only [Try.ntmps15, List.size_toArray, List.length_cons, List.length_nil, Nat.reduceAdd, Nat.reduceSub, Array.replicate_succ, Array.replicate_zero, List.push_toArray, List.append_toArray, List.nil_append, List.cons_append]
  gi_wp2_with (first
    | (refine ⟨trivial, ?_⟩; gi_at_call 31; refine (callsIn_wide.2 (is_yes a _ (by simpa [World.cell?_alloc_past, hal] using hm))).mono ?_; rintro e w' ⟨rfl, rfl⟩)
    | (refine ⟨trivial, ?_⟩; gi_at_call 32; refine (callsIn_wide.2 (all_calls a _)).mono ?_; rintro e w' ⟨rfl, rfl⟩))
  have hB0 : MemB (((w.alloc (.cells #[.pointer (some ⟨a, 0, none⟩)] 24)).alloc (.cells #[.slice none 0 0] 31)).alloc (.cells #[.pointer (some ⟨a, 0, none⟩)] 24)) a rv rows mv (ts ++ [t]) :=
    hB.kept (((Kept.alloc [] _ _).trans' (Kept.alloc _ _ _)).trans' (Kept.alloc _ _ _)) (by simp)
  have hb1 : Blk (((w.alloc (.cells #[.pointer (some ⟨a, 0, none⟩)] 24)).alloc (.cells #[.slice none 0 0] 31)).alloc (.cells #[.pointer (some ⟨a, 0, none⟩)] 24)) w.heap.size 24 #[.pointer (some ⟨a, 0, none⟩)] :=
    ((Kept.alloc [] _ _).trans' (Kept.alloc _ _ _)).blk (Blk.new w 24 _) (by simp)
  have hb2 : Blk (((w.alloc (.cells #[.pointer (some ⟨a, 0, none⟩)] 24)).alloc (.cells #[.slice none 0 0] 31)).alloc (.cells #[.pointer (some ⟨a, 0, none⟩)] 24)) (w.heap.size + 1) 31 #[.slice none 0 0] := by
    have := (Kept.alloc [] _ (.cells #[.pointer (some ⟨a, 0, none⟩)] 24)).blk (Blk.new (w.alloc (.cells #[.pointer (some ⟨a, 0, none⟩)] 24)) 31 #[.slice none 0 0]) (by simp)
    rwa [World.size_alloc] at this
  have hb3 : (((w.alloc (.cells #[.pointer (some ⟨a, 0, none⟩)] 24)).alloc (.cells #[.slice none 0 0] 31)).alloc (.cells #[.pointer (some ⟨a, 0, none⟩)] 24)).cell? ⟨w.heap.size + 2, 0, none⟩ = some (.pointer (some ⟨a, 0, none⟩)) := by
    have := (Blk.new ((w.alloc (.cells #[.pointer (some ⟨a, 0, none⟩)] 24)).alloc (.cells #[.slice none 0 0] 31)) 24 #[.pointer (some ⟨a, 0, none⟩)]).cell 0
    rwa [World.size_alloc, World.size_alloc] at this
  have hbl : Below w.heap.size w (((w.alloc (.cells #[.pointer (some ⟨a, 0, none⟩)] 24)).alloc (.cells #[.slice none 0 0] 31)).alloc (.cells #[.pointer (some ⟨a, 0, none⟩)] 24)) :=
    (((Below.refl _ w).alloc (Nat.le_refl _) _).alloc (by simp) _).alloc (by simp; omega) _
  have hsz : (((w.alloc (.cells #[.pointer (some ⟨a, 0, none⟩)] 24)).alloc (.cells #[.slice none 0 0] 31)).alloc (.cells #[.pointer (some ⟨a, 0, none⟩)] 24)).heap.size = w.heap.size + 3 := by simp
  generalize (((w.alloc (.cells #[.pointer (some ⟨a, 0, none⟩)] 24)).alloc (.cells #[.slice none 0 0] 31)).alloc (.cells #[.pointer (some ⟨a, 0, none⟩)] 24)) = W0 at hB0 hb1 hb2 hb3 hbl hsz ⊢
  have hfo := hB.lt
  have hseq : SeqStopsK Fence.wide (8 - 1) Try.prog 45 #[.pointer (some ⟨w.heap.size + 2, 0, none⟩)] cellEnc (Below w.heap.size) (fun xs => xs = cellsOf (nowOf rows)) (fun _ => True) (cellsOf (nowOf rows)).length W0 :=
    fun l J Jx W hW hJ hJx hY h0 => all1_in Fence.wide (8 - 1) trivial rfl (by omega) l (w.heap.size + 2) w.heap.size a rv mv rows (ts ++ [t]) J Jx hY W (hW.cell (p := ⟨w.heap.size + 2, 0, none⟩) (by simp; omega) |>.trans hb3) (hB0.below hW (fun b hb => by have := hfo b hb; omega)) hfo h0
  obtain ⟨i0, hi, hz0, hz1, hz2⟩ := info_parts info39
  have hN := cellsOf_le hB.few hB.short
  refine wpIn_rangeFunc_ownH rfl (by omega) (gf := 45) (lb := #[.pointer (some ⟨w.heap.size + 2, 0, none⟩)]) rfl trivial (enters_of Try.func45 (by kernel_rfl) rfl) hseq belowK_t (belowK_b (by omega)) (Below.refl _ _) (fun _ => rfl)
    (fun pre W => OutIs w a (pre.filterMap (g1 t.m)) W)
    (fun _ _ _ => False)
    (fun s X Y row hs hg hr => by
      obtain ⟨A, cap, h1, h2, h3, h4⟩ := hs
      exact ⟨A, cap, blk_nc h1 hg (fun r e => (hr r e).2), own_nc h2 hg (fun r e => (hr r e).2), blk_nc h3 hg (fun r e => (hr r e).2), h4.grown hg h4.size (fun k e => by have := (hr k e).1; omega)⟩)
    (fun _ _ _ _ _ hs _ _ => hs)
    ⟨none, 0, hb2, World.ownsRow_nil _ _ _ _, hb1, hbl⟩
    (fun x a' W => ∃ Bx, w.heap.size ≤ Bx ∧ Blk W Bx 73 #[.int .i64 ((x.1.1 : Int) + 1), .int .i64 (x.1.2 : Int)] ∧ a' = { tmps := #[Value.pointer (some { block := a, off := 0 }), Value.pointer (some { block := w.heap.size, off := 0 }),
      Value.slice none 0 0, Value.pointer (some { block := w.heap.size + 1, off := 0 }), .pointer (some ⟨Bx, 0, none⟩), .int .i64 x.2, undef, undef, undef,
      Value.pointer (some { block := a, off := 0 }), Value.bool true, Value.bool false,
      Value.pointer (some { block := a, off := 0 }),
      Value.func (Fn.func 45) #[] #[Value.pointer (some { block := w.heap.size + 1 + 1, off := 0 })], .agg #[.int .i64 ((x.1.1 : Int) + 1), .int .i64 (x.1.2 : Int)], .int .i64 x.2, undef,
      undef, undef, undef, undef, undef, undef, undef, undef, undef, undef, undef, undef, undef, undef, undef, undef, undef,
      undef, undef, undef, undef, undef, undef, undef, undef, undef, undef, undef, undef, undef, undef, undef, undef, undef], defers := [] })
    (fun x a' u X Y row hs hg hr => by
      obtain ⟨Bx, h0, h1, h2⟩ := hs
      exact ⟨Bx, h0, blk_nc h1 hg (fun r e => (hr r e).2), h2⟩) ?assign ?body ?done ?stop
  case assign =>
    rintro l pre x W K ⟨A, cap, h1, h2, h3, h4⟩ hK
    have X1 := Lib.hid h1
    have X2 := Lib.hid h2
    have X3 := Lib.hid h3
    have X4 := Lib.hid h4
    have HK := Lib.hid hK
    clear h1 h2 h3 h4 hK hB hB0 hb1 hb2 hb3 hbl hseq hmap hmo hmv hcell hmk hmk2 hcap
    simp only [cellEnc, placeV, numV]
    gi_wp2
    refine HK.out _ _ ((KeepsOthers.alloc _ _).from _) ((Below.refl _ W).alloc (by have := X4.out.size; omega) _) ?_ ?_
    · exact ⟨A, cap, (Kept.alloc [] _ _).blk X1.out (by simp), X2.out.alloc _, (Kept.alloc [] _ _).blk X3.out (by simp), X4.out.alloc X4.out.size _⟩
    · exact ⟨W.heap.size, by have := X4.out.size; omega, Blk.new _ _ _, rfl⟩
  case body =>
    rintro l pre ⟨⟨k, j⟩, v⟩ a' W hl ⟨r, hr⟩ ⟨A, cap, h1, h2, h3, h4⟩ ⟨Bx, hBx, hb, rfl⟩ hlt
    have m1 := (h4.cell (p := ⟨a, 2, none⟩) hal).trans hmk2
    have m2 := (h4.cell (p := ⟨mb, nt, none⟩) hmb).trans hcell
    have hmW := (below_kept h4).map hmap (fun hn => by
      have := (List.mem_filter.1 hn).2
      have := hmap.lt
      simp only [decide_eq_true_eq] at *
      omega)
    have c1 := h3.cell 0
    have c2 := h1.cell 0
    have c3 := hb.cell 0
    have c4 := hb.cell 1
    have hsz2 := h4.size
    have X1 := Lib.hid h1
    have X2 := Lib.hid h2
    have X3 := Lib.hid h3
    have X4 := Lib.hid h4
    have X5 := Lib.hid hb
    clear h1 h2 h3 h4 hb hB hB0 hb1 hb2 hb3 hbl hseq hr hmk hm hmap hmo hmv hcell hmk2 hcap
    have hlk := fun nq => run_lookup_ok place_keys Try.underlying76 ((Kept.drewN [] W nq).map hmW (by simp)) (k, j) (.int .i64 0) Try.zeroValue2
    cases hg : mget (k, j) t.m with
    | none =>
      simp only [hg] at hlk
      simp only [placeV, Option.map_none, Option.getD_none, Option.isSome_none] at hlk
      have HG := Lib.hid hg
      clear hg hmW
      gi_wp2
      have hw2 : IntKind.i64.wrap (nt : Int) = nt := IntWalk.i64_in _ (by omega)
      have hw3 : (nt : Int) < nt + 1 := by omega
      have hw4 : IntKind.i64.wrap ((nt : Int) + 1 - 1) = nt := by rw [show (nt : Int) + 1 - 1 = nt from by omega]; exact hw2
      refine wpIn_region_quiet_round rfl (by kernel_rfl) (by kernel_rfl) (by kernel_rfl) ?_
      repeat (gi_big_quiet_step (fail))
      refine wpQuietIn_nil ?_
      rintro w5 ⟨nq, rfl⟩
      gi_wp2
      refine ⟨⟨Nat.le_refl _, fun _ _ _ h _ => h⟩, ⟨rfl, rfl, rfl, Nat.le_refl _, fun _ _ => rfl⟩, A, cap, ?_⟩
      rw [List.filterMap_append]
      simp only [g1, List.filterMap_cons, List.filterMap_nil, HG.out, Option.map_none, List.append_nil]
      exact ⟨X1.out, X2.out, X3.out, X4.out.trans ⟨rfl, rfl, rfl, Nat.le_refl _, fun _ _ => rfl⟩⟩
    | some u =>
      simp only [hg] at hlk
      simp only [placeV, numV, Option.map_some, Option.getD_some, Option.isSome_some] at hlk
      have hout : List.filterMap (g1 t.m) (pre ++ [((k, j), v)]) = List.filterMap (g1 t.m) pre ++ [((k, j), u, v)] := by
        rw [List.filterMap_append]
        simp [g1, hg]
      have hlen : (List.filterMap (g1 t.m) pre).length ≤ 16384 := Nat.le_trans (List.length_filterMap_le _ _) (by omega)
      have HO := Lib.hid hout
      clear hout hg hmW
      generalize hnl : List.filterMap (g1 t.m) pre = out at *
      clear hnl
      gi_wp2
      have hw2 : IntKind.i64.wrap (nt : Int) = nt := IntWalk.i64_in _ (by omega)
      have hw3 : (nt : Int) < nt + 1 := by omega
      have hw4 : IntKind.i64.wrap ((nt : Int) + 1 - 1) = nt := by rw [show (nt : Int) + 1 - 1 = nt from by omega]; exact hw2
      refine wpIn_region_quiet_round rfl (by kernel_rfl) (by kernel_rfl) (by kernel_rfl) ?_
      repeat (gi_big_quiet_step (fail))
      refine wpQuietIn_nil ?_
      rintro w5 ⟨nq, rfl⟩
      have hk5 : KeepsOthers W (W.drewN nq) := ⟨Nat.le_refl _, fun _ _ h _ => h⟩
      have hb5 : Below w.heap.size W (W.drewN nq) := ⟨rfl, rfl, rfl, Nat.le_refl _, fun _ _ => rfl⟩
      have x1 : Blk (W.drewN nq) (w.heap.size + 1) 31 #[.slice A out.length cap] := X1.out
      have x2 : (W.drewN nq).ownsRow w.heap.size 39 4 (.slice A out.length cap) out.length (flatC out) := X2.out
      have x3 : Blk (W.drewN nq) w.heap.size 24 #[.pointer (some ⟨a, 0, none⟩)] := X3.out
      have x4 : Below w.heap.size w (W.drewN nq) := X4.out.trans hb5
      have x5 : Blk (W.drewN nq) Bx 73 #[.int .i64 ((k : Int) + 1), .int .i64 (j : Int)] := X5.out
      clear hlk m1 m2 c1 c2 c3 c4 hsz2 X1 X2 X3 X4 X5
      generalize W.drewN nq = W5 at *
      have c1 := x3.cell 0
      have c2 := x1.cell 0
      have c3 := x5.cell 0
      have c4 := x5.cell 1
      have hsz2 := x4.size
      have hcn := cell_row_new W5 (chV ((k, j), u, v)) 39
      have HC := Lib.hid hcn
      have X1 := Lib.hid x1
      have X2 := Lib.hid x2
      have X3 := Lib.hid x3
      have X4 := Lib.hid x4
      have K5 := Lib.hid hk5
      have B5 := Lib.hid hb5
      clear hcn x1 x2 x3 x4 x5 hk5 hb5
      gi_wp2_with (gi_at_builtin
                   refine wpListIn_append_own _ rfl _ _ 31 rfl w.heap.size 39 i0 (.agg #[.int .i64 0, .int .i64 0, .int .i64 0, .int .i64 0]) 4 32 Try.underlying31 hi hz0 hz1 hz2 rfl (by decide) (.slice A out.length cap) out.length (flatC out) rfl (X2.out.alloc _) ⟨W5.heap.size, 0, none⟩ 1 1 (chV ((k, j), u, v)) rfl rfl HC.out (by simp [chV, Value.oneCell']) (by unfold maxLen; omega) (by omega) (by simp; omega) ?_
                   intro v' w1 hown' hgrow hnil
                   obtain ⟨g', cap', rfl⟩ := own_shape hown' (by omega)
                   have b1 := grown_blk hgrow ((Kept.alloc [] _ _).blk X1.out (by simp)) (fun e => by obtain ⟨cs, hcs⟩ := own_blk X2.out e; exact hcs.ne_ X1.out (by decide) rfl)
                   have g2 := b1.cell 0
                   have g3 := b1.frozen 0
                   have Y1 := Lib.hid b1
                   have Y2 := Lib.hid hown'
                   have Y3 := Lib.hid hgrow
                   clear b1 hown' hgrow hnil)
      have hF : Kept ((w.heap.size + 1) :: (Value.slice A out.length cap).ownBlock.toList) W5 (w1.setCell ⟨w.heap.size + 1, 0, none⟩ (.slice (some ⟨g', 0, none⟩) (out.length + 1) cap')) :=
        ((Kept.alloc _ _ _).trans' (Kept.grown Y3.out (by simp +contextual))).trans' (Kept.setCell (by simp) _ _)
      have hFb : ∀ b ∈ (w.heap.size + 1) :: (Value.slice A out.length cap).ownBlock.toList, w.heap.size ≤ b ∧ ∃ t cs, Blk W5 b t cs := by
        intro b hb
        rcases List.mem_cons.1 hb with rfl | hb
        · exact ⟨by omega, _, _, X1.out⟩
        · have e : (Value.slice A out.length cap).ownBlock = some b := by simpa using hb
          obtain ⟨cs, hcs⟩ := own_blk X2.out e
          exact ⟨(X2.out.lt b e).1, _, _, hcs⟩
      have hbW : Below w.heap.size W5 (w1.setCell ⟨w.heap.size + 1, 0, none⟩ (.slice (some ⟨g', 0, none⟩) (out.length + 1) cap')) := hF.below (fun b hb => (hFb b hb).1) X4.out.size
      refine ⟨(K5.out.trans (kept_others hF fun b hb => (hFb b hb).2)).from _, B5.out.trans hbW, (some ⟨g', 0, none⟩), cap', ?_⟩
      rw [HO.out]
      have hlen1 : (out ++ [((k, j), u, v)]).length = out.length + 1 := by simp
      have hflat : flatC (out ++ [((k, j), u, v)]) = flatC out ++ chV ((k, j), u, v) := by simp [flatC]
      rw [hlen1, hflat]
      refine ⟨Y1.out.set_ 0 _, ?_, ?_, X4.out.trans hbW⟩
      · refine (Kept.setCell (F := [w.heap.size + 1]) (p := ⟨w.heap.size + 1, 0, none⟩) (by simp) w1 _).own Y2.out fun b e => ?_
        obtain ⟨cs, hcs⟩ := own_blk Y2.out e
        simpa using hcs.ne_ Y1.out (by decide)
      · refine hF.blk X3.out ?_
        simp only [List.mem_cons, Option.mem_toList, not_or]
        refine ⟨by omega, fun e => ?_⟩
        obtain ⟨cs, hcs⟩ := own_blk X2.out e
        exact hcs.ne_ X3.out (by decide) rfl
  case done =>
    rintro D ys W hD rfl ⟨A, cap, h1, h2, h3, h4⟩ hK
    have c2 := h1.cell 0
    have X1 := Lib.hid h1
    have X2 := Lib.hid h2
    have X4 := Lib.hid h4
    clear h1 h2 h3 h4 hB hB0 hb1 hb2 hb3 hbl hseq hmk hm hmap hmo hmv hcell hmk2 hcap
    gi_wp2
    refine ⟨by simp, .inl ⟨_, _, rfl, run_takeDeferred hK, ?_⟩⟩
    refine ⟨_, results_tmp rfl _ _ _, A, cap, rfl, ?_, ?_⟩
    · exact own_nc (row := some D) X2.out (grownBy_putObj' W D _) (fun r e => by cases e; exact ⟨_, hK, rfl⟩)
    · refine below_nil (X4.out.trans (belowK_b (w := w) (Nat.le_refl _) W D _ _ (by omega) hK rfl rfl))
  case stop =>
    rintro D c pre W _ _ h _
    exact h.elim

/-! ### what Changes tells -/
def CM.base (c : CM) : List (List Int) := c.marks.getLast?.getD []
def chg (base : List (List Int)) (x : (Nat × Nat) × Int) : Option Ch := if look base x.1 = x.2 then none else some (x.1, look base x.1, x.2)
def CM.changes (c : CM) : List Ch := (cellsOf c.now).filterMap (chg c.base)

theorem cellsOf_spots (now : List (List Int)) : cellsOf now = (spots (lens now)).map fun p => (p, look now p) := by
  unfold cellsOf cellsUp spots rowUp
  rw [List.map_flatMap]
  simp only [lens, List.length_map, List.map_map]
  congr 1
  funext i
  simp only [List.getElem?_map]
  have : (now[i]?.getD []).length = (now[i]?.map List.length).getD 0 := by cases now[i]? <;> rfl
  rw [this]
  rfl
theorem mem_cellsOf {now : List (List Int)} {x : (Nat × Nat) × Int} (h : x ∈ cellsOf now) : x.2 = look now x.1 := by
  rw [cellsOf_spots] at h
  obtain ⟨p, _, rfl⟩ := List.mem_map.1 h
  rfl
theorem filterMap_congr' {α β : Type} {f g : α → Option β} {l : List α} (h : ∀ x ∈ l, f x = g x) : l.filterMap f = l.filterMap g := by
  induction l with
  | nil => rfl
  | cons a l ih =>
    rw [List.filterMap_cons, List.filterMap_cons, h a (by simp), ih fun x hx => h x (by simp [hx])]

theorem Changes_calls {w : World} {a : Nat} {F : List Nat} {c : CM} (h : IsMem w a c F) :
    Calls Try.prog 15 #[.pointer (some ⟨a, 0, none⟩)] w fun e w' => ∃ A cap, e = .returned (.slice A c.changes.length cap) ∧
      w'.ownsRow w.heap.size 39 4 (.slice A c.changes.length cap) c.changes.length (flatC c.changes) ∧ Kept [] w w' := by
  obtain ⟨rv, rows, mv, tops, h, h2, h3, rfl⟩ := h
  rcases List.eq_nil_or_concat tops with rfl | ⟨ts, t, rfl⟩
  · have hn : c.marks = [] := by rw [← h3]; rfl
    obtain ⟨A, cap, rfl⟩ := own_slice h.mown
    have e : c.changes = (cellsOf (nowOf rows)).filterMap g0 := by
      unfold CM.changes
      rw [← h2]
      refine filterMap_congr' fun x _ => ?_
      have : look c.base x.1 = 0 := by simp [CM.base, hn, look]
      unfold chg g0
      rw [this]
      by_cases hx : x.2 = 0
      · rw [if_pos hx.symm, if_pos hx]
      · rw [if_neg (fun e => hx e.symm), if_neg hx]
    rw [e]
    exact changes_first h.toMemB
  · simp only [List.concat_eq_append] at h h3 ⊢
    have hl : c.marks.getLast? = some t.snap := by rw [← h3]; simp [snapsOf]
    have hch := (chain_snoc _ _ _).1 h.chain
    have e : c.changes = (cellsOf (nowOf rows)).filterMap (g1 t.m) := by
      unfold CM.changes
      rw [← h2]
      refine filterMap_congr' fun x hx => ?_
      have hx2 := mem_cellsOf hx
      have hb : c.base = t.snap := by simp [CM.base, hl]
      unfold chg g1
      rw [hb, hch.2 x.1, hx2]
      split <;> rfl
    rw [e]
    exact changes_marks h.toMemB
theorem changes_count (c : CM) : c.changes.length = (others c.base c.now).length := by
  unfold CM.changes others
  rw [cellsOf_spots, List.filterMap_map]
  generalize spots (lens c.now) = l
  induction l with
  | nil => rfl
  | cons p l ih =>
    rw [List.filterMap_cons, List.filter_cons]
    by_cases h : look c.base p = look c.now p
    · simp only [Function.comp, chg, h, if_true, ne_eq, not_true, decide_false, Bool.false_eq_true, if_false]
      exact ih
    · simp only [Function.comp, chg, h, if_false, ne_eq, not_false_eq_true, decide_true, if_true, List.length_cons]
      rw [ih]
end Go.Proofs.Ytlfaoibgmbbacaa
