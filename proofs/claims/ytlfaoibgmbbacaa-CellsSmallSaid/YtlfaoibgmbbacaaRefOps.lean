/- The walks of the reference's Load, Store, Mark, New. -/
import Derived.Test.YtlfaoibgmbbacaaRef
namespace Go.Proofs.Ytlfaoibgmbbacaa
open Go.RowKit
open Go.ChangeMaps (setBlock)

set_option maxRecDepth 100000 in
set_option maxHeartbeats 1000000 in
theorem refLoad_calls {w : World} {F : List Nat} {v : Value} {c : CM} (h : RefIs w F v c) (hn : c.now.length ≤ 1024) (hs : ∀ xs ∈ c.now, xs.length ≤ 1024) (o i : Int) :
    Calls Try.prog 41 #[v, .int .i64 o, .int .i64 i] w fun e w' => e = .returned (.tuple #[.int .i64 (c.load o i).1, .int .i64 (c.load o i).2]) ∧ Kept [] w w' := by
  obtain ⟨nv, mv, rfl, ⟨A, cap, vs, rfl, hr, hvl, hrows⟩, _⟩ := h
  have HK := Lib.hid (Kept.alloc [] w (.cells #[.slice A c.now.length cap, mv] 86))
  by_cases h1 : o < 1
  · have hld : c.load o i = (0, 211) := by unfold CM.load; rw [if_pos (.inl h1)]
    rw [hld]
    clear hld hr hvl hrows
    go_enter Try.func41, Try.ntmps41
    go_wp2
    go_ret2
    exact ⟨rfl, HK.out⟩
  · by_cases h2 : (c.now.length : Int) < o
    · have hld : c.load o i = (0, 211) := by unfold CM.load; rw [if_pos (.inr h2)]
      rw [hld]
      clear hld hr hvl hrows
      go_enter Try.func41, Try.ntmps41
      go_wp2
      go_ret2
      exact ⟨rfl, HK.out⟩
    · obtain ⟨k, rfl⟩ : ∃ k : Nat, o = (k : Int) + 1 := ⟨(o - 1).toNat, by omega⟩
      have hlt : k < c.now.length := by omega
      obtain ⟨xs, hx⟩ : ∃ xs, c.now[k]? = some xs := ⟨_, List.getElem?_eq_getElem hlt⟩
      have hxs := hs xs (List.mem_of_getElem? hx)
      clear hs
      obtain ⟨bx, ox, cb, hvk, hB⟩ := hrows k xs hx
      obtain ⟨b0, off0, rfl, hb1, hb2, hc⟩ := hr.resolve_left (by intro e; rw [e] at hvk; simp at hvk)
      have hck := hc k _ hvk
      have et : (((k : Int) + 1) - 1).toNat = k := by omega
      have hnl : ¬ ((k : Int) + 1 < 1 ∨ (c.now.length : Int) < (k : Int) + 1) := by omega
      by_cases h3 : i < 0
      · have hld : c.load ((k : Int) + 1) i = (0, 212) := by unfold CM.load; rw [if_neg hnl, if_pos (.inl h3)]
        rw [hld]
        clear hld hr hvl hrows hc hB hnl hx hvk
        go_enter Try.func41, Try.ntmps41
        go_wp2
        go_ret2
        exact ⟨rfl, HK.out⟩
      · by_cases h4 : (xs.length : Int) ≤ i
        · have hld : c.load ((k : Int) + 1) i = (0, 212) := by
            unfold CM.load
            rw [if_neg hnl]
            simp only [et, hx, Option.getD_some]
            rw [if_pos (.inr h4)]
          rw [hld]
          clear hld hr hvl hrows hc hB hnl hx hvk et
          go_enter Try.func41, Try.ntmps41
          go_wp2
          go_ret2
          exact ⟨rfl, HK.out⟩
        · obtain ⟨j, rfl⟩ : ∃ j : Nat, i = (j : Int) := ⟨i.toNat, by omega⟩
          have hj : j < xs.length := by omega
          obtain ⟨y, hy⟩ : ∃ y, xs[j]? = some y := ⟨_, List.getElem?_eq_getElem hj⟩
          have hld : c.load ((k : Int) + 1) (j : Int) = (y, 0) := by
            unfold CM.load
            rw [if_neg hnl]
            simp only [et, hx, Option.getD_some]
            rw [if_neg (by omega)]
            simp [look, hx, hy]
          rcases hB with h0 | ⟨bx', ox', he, _, hb4, hB⟩
          · have : xs = [] := by simpa using h0
            rw [this] at hj
            simp at hj
          simp only [Option.some.injEq, Addr.mk.injEq, and_true] at he
          obtain ⟨rfl, rfl⟩ := he
          have hcj := hB j (numV y) (by rw [List.getElem?_map, hy]; rfl)
          simp only [numV] at hcj
          rw [hld]
          clear hld hr hvl hrows hc hB hnl hx hvk et hy
          go_enter Try.func41, Try.ntmps41
          go_wp2
          go_ret2
          exact ⟨rfl, HK.out⟩

theorem info86 : (Try.prog.info? 86).map (·.size) = some 2 := by kernel_rfl
theorem load86 {w : World} {g : Nat} {e : TypeId} {x y : Value} (hb : Blk w g e #[x, y]) : (loadVar 86 ⟨g, 0, none⟩).run Try.prog w = .ok (.agg #[x, y]) w :=
  run_loadVar_row w g e 86 #[x, y] (0, 0) _ hb Try.underlying86 rfl info86
theorem results_c86 {fn : Func} {t u v : Tmp} {tmps : Array Value} {w : World} {g : Nat} {e : TypeId} {x y : Value} (h : fn.results = #[.cell t 86, .tmp u, .tmp v]) (ht : tmps.getD t undef = .pointer (some ⟨g, 0, none⟩))
    (hb : Blk w g e #[x, y]) : (results fn tmps).run Try.prog w = .ok (.tuple #[.agg #[x, y], tmps.getD u undef, tmps.getD v undef]) w := by
  have hl := load86 hb
  simp only [results, h]
  simp only [Array.getD_eq_getD_getElem?] at ht
  simp [Sem.run_bind, Result.andThen, ht, asAddr, hl]
theorem results_one86 {fn : Func} {t : Tmp} {tmps : Array Value} {w : World} {g : Nat} {e : TypeId} {x y : Value} (h : fn.results = #[.cell t 86]) (ht : tmps.getD t undef = .pointer (some ⟨g, 0, none⟩))
    (hb : Blk w g e #[x, y]) : (results fn tmps).run Try.prog w = .ok (.agg #[x, y]) w := by
  have hl := load86 hb
  simp only [results, h]
  simp only [Array.getD_eq_getD_getElem?] at ht
  simp [Sem.run_bind, Result.andThen, ht, asAddr, hl]

theorem OwnGrid.kept {w w' : World} {G : List Nat} {rv : Value} {rows : List RowL} (h : OwnGrid w rv rows) (hk : Kept G w w') (hd : ∀ b ∈ gridFoot rv rows, b ∉ G) : OwnGrid w' rv rows where
  rown := hk.own h.rown fun b hb => hd b (by unfold gridFoot; rw [hb]; simp)
  row r hr := hk.own (h.row r hr) fun b hb => hd b (by
    simp only [RowL.val, Value.ownBlock, Option.some.injEq] at hb
    subst hb
    unfold gridFoot
    exact List.mem_append_right _ (List.mem_map.2 ⟨r, hr, rfl⟩))
  rnd := h.rnd
theorem OwnGrid.set_ {w : World} {rv : Value} {rows : List RowL} {k : Nat} {r : RowL} (h : OwnGrid w rv rows) (hr : rows[k]? = some r) (j : Nat) (x : Int) :
    OwnGrid (w.setCell ⟨r.b, j, none⟩ (numV x)) rv (rows.set k { r with xs := r.xs.set j x }) ∧ gridFoot rv (rows.set k { r with xs := r.xs.set j x }) = gridFoot rv rows ∧ nowOf (rows.set k { r with xs := r.xs.set j x }) = put (nowOf rows) (k, j) x := by
  have hrm := List.mem_of_getElem? hr
  obtain ⟨hkl, hrk⟩ := List.getElem?_eq_some_iff.1 hr
  have hb : (rows.set k { r with xs := r.xs.set j x }).map RowL.b = rows.map RowL.b := by
    rw [List.map_set]
    refine List.ext_getElem? fun n => ?_
    rw [List.getElem?_set]
    split
    · rename_i e
      subst e
      simp [hr]
      exact hkl
    · rfl
  have hv : (rows.set k { r with xs := r.xs.set j x }).map RowL.val = rows.map RowL.val := by
    rw [List.map_set]
    refine List.ext_getElem? fun n => ?_
    rw [List.getElem?_set]
    split
    · rename_i e
      subst e
      simp [hr, RowL.val]
      exact hkl
    · rfl
  refine ⟨⟨?_, ?_, by rw [hb]; exact h.rnd⟩, by unfold gridFoot; rw [hb], ?_⟩
  · rw [hv, List.length_set]
    refine (Kept.setCell (F := [r.b]) (p := ⟨r.b, j, none⟩) (by simp) w (numV x)).own h.rown fun b hb hm => ?_
    simp only [List.mem_singleton] at hm
    subst hm
    obtain ⟨cs, h1⟩ := own_blk h.rown hb
    obtain ⟨cs', h2⟩ := own_blk (h.row r hrm) (k := r.b) rfl
    exact h1.ne_ h2 (by decide) rfl
  · intro s hs
    obtain ⟨n, hn⟩ := List.getElem?_of_mem hs
    rw [List.getElem?_set] at hn
    split at hn
    · simp only [Option.some.injEq] at hn
      subst hn
      have := own_set (j := j) (h.row r hrm) (b := r.b) rfl (numV x)
      simpa [RowL.val, List.map_set] using this
    · rename_i hne
      have hsm := List.mem_of_getElem? hn
      refine (Kept.setCell (F := [r.b]) (p := ⟨r.b, j, none⟩) (by simp) w (numV x)).own (h.row s hsm) fun b hb hm => ?_
      simp only [List.mem_singleton] at hm
      subst hm
      simp only [RowL.val, Value.ownBlock, Option.some.injEq] at hb
      have hnd := List.pairwise_iff_getElem.1 h.rnd
      obtain ⟨hnl, hnk⟩ := List.getElem?_eq_some_iff.1 hn
      rcases Nat.lt_or_gt_of_ne hne with hlt | hlt
      · have := hnd k n (by simpa using hkl) (by simpa using hnl) hlt
        simp only [List.getElem_map, hrk, hnk] at this
        exact this hb.symm
      · have := hnd n k (by simpa using hnl) (by simpa using hkl) hlt
        simp only [List.getElem_map, hrk, hnk] at this
        exact this hb
  · unfold nowOf put
    refine List.ext_getElem? fun n => ?_
    rw [List.getElem?_map, List.getElem?_set, List.getElem?_modify, List.getElem?_map]
    split
    · rename_i e
      subst e
      rw [hr]
      rfl
    · rename_i e
      simp
theorem load_at {c : CM} {o i : Int} (h : (c.load o i).2 = 0) : ∃ (k j : Nat) (xs : List Int), o = (k : Int) + 1 ∧ i = (j : Int) ∧ c.now[k]? = some xs ∧ j < xs.length := by
  unfold CM.load at h
  split at h
  · cases h
  · rename_i h1
    split at h
    · cases h
    · rename_i h2
      have hk : (o - 1).toNat < c.now.length := by omega
      refine ⟨(o - 1).toNat, i.toNat, c.now[(o - 1).toNat], by omega, by omega, List.getElem?_eq_getElem hk, ?_⟩
      rw [List.getElem?_eq_getElem hk] at h2
      simp only [Option.getD_some] at h2
      omega

set_option maxRecDepth 100000 in
set_option maxHeartbeats 1000000 in
theorem refStore_calls {w : World} {F : List Nat} {v : Value} {c : CM} (h : RefIs w F v c) (hn : c.now.length ≤ 1024) (hs : ∀ xs ∈ c.now, xs.length ≤ 1024) (o i x : Int) :
    Calls Try.prog 42 #[v, .int .i64 o, .int .i64 i, .int .i64 x] w fun e w' => ∃ v' F', e = .returned (.tuple #[v', .int .i64 (c.load o i).1, .int .i64 (c.load o i).2]) ∧ RefIs w' F' v' (c.store o i x) ∧ Kept [] w w' ∧
      (∀ b ∈ F, b ∈ F') ∧ ∀ b ∈ F', b ∈ F ∨ w.heap.size ≤ b := by
  have HL := fun (w1 : World) (hk : Kept [] w w1) => refLoad_calls (h.kept hk (by simp)) hn hs o i
  have H := Lib.hid h
  obtain ⟨nv, mv, rfl, hg, Am, capm, vm, rfl, hcap, hm⟩ := h
  have HCAP := Lib.hid hcap
  clear hcap
  have hg' := hg
  obtain ⟨An, capn, vn, rfl, _⟩ := hg'
  have HLL := Lib.hid HL
  have HN := Lib.hid hn
  have HS := Lib.hid hs
  have HG := Lib.hid hg
  have HM := Lib.hid hm
  clear HL hn hs hg hm
  by_cases he : (c.load o i).2 = 0
  · obtain ⟨k, j, xs, rfl, rfl, hx, hj⟩ := load_at he
    have hst : c.store ((k : Int) + 1) (j : Int) x = ⟨put c.now (k, j) x, c.marks⟩ := by
      unfold CM.store
      rw [if_pos he]
      have et : (((k : Int) + 1) - 1).toNat = k := by omega
      simp only [et, Int.toNat_natCast]
    rw [hst]
    clear hst
    have hkl := (List.getElem?_eq_some_iff.1 hx).1
    have hkb : k ≤ 1024 := by have := HN.out; omega
    have hxb := HS.out xs (List.mem_of_getElem? hx)
    have HX := Lib.hid hx
    clear hx
    generalize hlo : c.load ((k : Int) + 1) (j : Int) = lo at *
    obtain ⟨lv, le⟩ := lo
    simp only at he
    subst he
    clear hlo
    go_enter Try.func42, Try.ntmps42
    go_wp2_with fail
    refine (HLL.out _ ((Kept.alloc _ _ _).trans' (Kept.alloc _ _ _))).mono ?_
    rintro e w2 ⟨rfl, hk⟩
    have b4 : Blk w2 w.heap.size 86 #[.slice An c.now.length capn, .slice Am c.marks.length capm] := hk.blk ((Kept.alloc [] _ _).blk (Blk.new _ _ _) (by simp)) (by simp)
    have b8 : Blk w2 (w.heap.size + 1) 86 #[.slice none 0 0, .slice none 0 0] := hk.blk (by have := Blk.new (w.alloc (.cells #[.slice An c.now.length capn, .slice Am c.marks.length capm] 86)) 86 #[.slice none 0 0, .slice none 0 0]; rwa [World.size_alloc] at this) (by simp)
    have KK : Kept [] w w2 := ((Kept.alloc _ _ _).trans' (Kept.alloc _ _ _)).trans' hk
    have c40 := b4.cell 0
    have c41 := b4.cell 1
    have B4 := Lib.hid b4
    have B8 := Lib.hid b8
    have K2 := Lib.hid KK
    clear b4 b8 hk KK
    go_wp2_with fail
    refine (copied_calls (HG.out.kept K2.out (by simp)) HN.out HS.out).mono ?_
    rintro e w3 ⟨rv, rows, rfl, hog, hnow, hk3, hft⟩
    have hr0 : ∃ r, rows[k]? = some r ∧ r.xs = xs := by
      have := HX.out
      rw [← hnow] at this
      simpa [nowOf] using this
    obtain ⟨r, hr, rfl⟩ := hr0
    have hrm := List.mem_of_getElem? hr
    have hrl : rows.length = c.now.length := by rw [← hnow]; simp [nowOf]
    obtain ⟨R, cR, rfl, hcR, _⟩ := own_cell hog.rown (k := k) (u := r.val) (by rw [List.getElem?_map, hr]; rfl)
    obtain ⟨y, hy⟩ : ∃ y, r.xs[j]? = some y := ⟨_, List.getElem?_eq_getElem hj⟩
    obtain ⟨rb, rc, hrv, hcr, hfr, _⟩ := own_cell (hog.row r hrm) (k := j) (u := numV y) (by rw [List.getElem?_map, hy]; rfl)
    simp only [RowL.val, Value.slice.injEq, Option.some.injEq, Addr.mk.injEq, true_and, and_true] at hrv
    obtain ⟨rfl, rfl⟩ := hrv
    simp only [RowL.val] at hcR
    have hR : w2.heap.size ≤ R := hft R (by simp [gridFoot, Value.ownBlock])
    have hrb : w2.heap.size ≤ r.b := hft r.b (by unfold gridFoot; exact List.mem_append_right _ (List.mem_map.2 ⟨r, hrm, rfl⟩))
    have l8 := B8.out.lt
    have b4 := hk3.blk B4.out (by simp)
    have b8 := hk3.blk B8.out (by simp)
    have c40 := b4.cell 0
    have c41 := b4.cell 1
    have c80 := b8.cell 0
    have c81 := b8.cell 1
    have z40 := b4.frozen 0
    have z80 := b8.frozen 0
    have z81 := b8.frozen 1
    have n1 : ¬ R = w.heap.size := by omega
    have n2 : ¬ r.b = w.heap.size := by omega
    have n3 : ¬ w.heap.size = R := by omega
    have n4 : ¬ w.heap.size = r.b := by omega
    have n5 : ¬ R = r.b := by
      intro e
      obtain ⟨cs, h1⟩ := own_blk hog.rown (k := R) rfl
      obtain ⟨cs', h2⟩ := own_blk (hog.row r hrm) (k := r.b) rfl
      exact h1.ne_ h2 (by decide) e
    have l3 : w.heap.size + 1 < w3.heap.size := Nat.lt_of_lt_of_le l8 hk3.size
    have lR : R < w3.heap.size := own_lt hog.rown rfl
    have lrb : r.b < w3.heap.size := own_lt (hog.row r hrm) rfl
    have B4' := Lib.hid b4
    have B8' := Lib.hid b8
    have P1 := Lib.hid hog
    have P2 := Lib.hid hnow
    have P3 := Lib.hid hk3
    have P4 := Lib.hid hft
    have P5 := Lib.hid hr
    have P6 := Lib.hid hrl
    clear b4 b8 hog hnow hk3 hft hr hy hrm
    rw [hrl]
    clear hrl
    go_wp2
    have hRV : (Value.slice (some ⟨R, 0, none⟩) rows.length cR) = .slice (some ⟨R, 0, none⟩) c.now.length cR := by rw [P6.out]
    have og0 := P1.out
    rw [hRV] at og0
    have ft0 := P4.out
    rw [hRV] at ft0
    have kD : Kept [w.heap.size] w3 (w3.setCell ⟨w.heap.size, 0, none⟩ (.slice (some ⟨R, 0, none⟩) c.now.length cR)) := Kept.setCell (by simp) _ _
    have og1 := og0.kept kD fun b hb => by have := ft0 b hb; simp only [List.mem_singleton]; omega
    obtain ⟨og2, hf2, hn2⟩ := og1.set_ P5.out j x
    have k8 : ∀ (W : World), Kept [w.heap.size + 1] W ((W.setCell ⟨w.heap.size + 1, 0, none⟩ (.slice (some ⟨R, 0, none⟩) c.now.length cR)).setCell ⟨w.heap.size + 1, 1, none⟩ (.slice Am c.marks.length capm)) :=
      fun W => (Kept.setCell (by simp) _ _).trans' (Kept.setCell (by simp) _ _)
    have og3 := og2.kept (k8 _) fun b hb => by rw [hf2] at hb; have := ft0 b hb; simp only [List.mem_singleton]; omega
    have kr : ∀ (W : World), Kept [r.b] W (W.setCell ⟨r.b, j, none⟩ (numV x)) := fun W => Kept.setCell (by simp) _ _
    have kall := ((((K2.out.trans' P3.out).nil_mono (F := [w.heap.size, w.heap.size + 1, r.b])).trans' (kD.mono (by simp))).trans' ((kr _).mono (by simp))).trans' ((k8 _).mono (by simp))
    have kw := kall.mono (F' := []) (by
      intro b hb hlt
      have := K2.out.size
      simp only [List.mem_cons, List.not_mem_nil, or_false] at hb
      omega)
    have bl := (((B8'.out.set_ 0 (.slice (some ⟨R, 0, none⟩) c.now.length cR)).set_ 1 (.slice Am c.marks.length capm)))
    have b8'' := ((kr _).blk (kD.blk B8'.out (by simp)) (by simp only [List.mem_singleton]; omega))
    have bl := (b8''.set_ 0 (.slice (some ⟨R, 0, none⟩) c.now.length cR)).set_ 1 (.slice Am c.marks.length capm)
    refine bodyPost_ret (results_c86 rfl rfl bl) rfl ?_
    have hg3 := og3.grid
    rw [hf2, hn2, P2.out] at hg3
    obtain ⟨hm1, hm2, hm3⟩ := HM.out
    refine ⟨_, F ++ gridFoot (.slice (some ⟨R, 0, none⟩) c.now.length cR) rows, rfl, ⟨_, _, rfl, hg3.mono fun b hb => List.mem_append_right _ hb, Am, capm, vm, rfl, HCAP.out, (hm1.kept kw (by simp)).mono fun b hb => List.mem_append_left _ hb, hm2, fun n t ht => ?_⟩, kw, fun b hb => List.mem_append_left _ hb, fun b hb => ?_⟩
    · obtain ⟨u, hu1, hu2⟩ := hm3 n t ht
      exact ⟨u, hu1, (hu2.kept kw (by simp)).mono fun b hb => List.mem_append_left _ hb⟩
    · rcases List.mem_append.1 hb with hb | hb
      · exact .inl hb
      · have := ft0 b hb
        have := K2.out.size
        exact .inr (by omega)
  · have hst : c.store o i x = c := by unfold CM.store; rw [if_neg he]
    rw [hst]
    clear hst
    have h1 : (c.load o i).1 = 0 := by
      unfold CM.load at he ⊢
      split
      · rfl
      · rename_i h1
        rw [if_neg h1] at he
        split
        · rfl
        · rename_i h2
          rw [if_neg h2] at he
          exact absurd rfl he
    generalize hr2 : (c.load o i).2 = er at *
    have HE := Lib.hid he
    have HR1 := Lib.hid h1
    have HR2 := Lib.hid hr2
    clear hr2 h1
    have hne : (er != 0) = true := by simp [he]
    clear he
    go_enter Try.func42, Try.ntmps42
    go_wp2_with fail
    refine (HLL.out _ ((Kept.alloc _ _ _).trans' (Kept.alloc _ _ _))).mono ?_
    rintro e w2 ⟨rfl, hk⟩
    have b4 : Blk w2 w.heap.size 86 #[.slice An c.now.length capn, .slice Am c.marks.length capm] := hk.blk ((Kept.alloc [] _ _).blk (Blk.new _ _ _) (by simp)) (by simp)
    have b8 : Blk w2 (w.heap.size + 1) 86 #[.slice none 0 0, .slice none 0 0] := hk.blk (by have := Blk.new (w.alloc (.cells #[.slice An c.now.length capn, .slice Am c.marks.length capm] 86)) 86 #[.slice none 0 0, .slice none 0 0]; rwa [World.size_alloc] at this) (by simp)
    have KK : Kept [] w w2 := ((Kept.alloc _ _ _).trans' (Kept.alloc _ _ _)).trans' hk
    have c40 := b4.cell 0
    have c41 := b4.cell 1
    have c80 := b8.cell 0
    have c81 := b8.cell 1
    have z80 := b8.frozen 0
    have z81 := b8.frozen 1
    have l8 := b8.lt
    have B8 := Lib.hid b8
    have K2 := Lib.hid KK
    clear b4 b8 hk KK
    go_wp2
    have bl := (B8.out.set_ 0 (.slice An c.now.length capn)).set_ 1 (.slice Am c.marks.length capm)
    refine bodyPost_ret (results_c86 rfl rfl bl) rfl ?_
    have hk3 : Kept [] w (World.setCell (World.setCell w2 ⟨w.heap.size + 1, 0, none⟩ (.slice An c.now.length capn)) ⟨w.heap.size + 1, 1, none⟩ (.slice Am c.marks.length capm)) :=
      (K2.out.nil_mono (F := [w.heap.size + 1])).trans' ((Kept.setCell (by simp) _ _).trans' (Kept.setCell (by simp) _ _)) |>.mono (by
        intro b hb hlt
        simp only [List.mem_singleton] at hb
        omega)
    refine ⟨_, F, by rw [HR1.out]; rfl, H.out.kept hk3 (by simp), hk3, fun b hb => hb, fun b hb => .inl hb⟩
end Go.Proofs.Ytlfaoibgmbbacaa
