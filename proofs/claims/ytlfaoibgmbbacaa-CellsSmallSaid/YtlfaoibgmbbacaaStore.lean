/- The walk of Store of package cells: with a mark, without one, refused. -/
import Derived.Test.YtlfaoibgmbbacaaLoad
import Derived.Deep.RegionHeld
import Derived.BigRegion
namespace Go.Proofs.Ytlfaoibgmbbacaa
open Go.RowKit
open Go.ChangeMaps (setBlock)
def storeM (p : Nat × Nat) (old v : Int) (m : List ((Nat × Nat) × Int)) : List ((Nat × Nat) × Int) :=
  match mget p m with
  | none => if v = old then m else mput p old m
  | some u => if v = u then mdel p m else m

theorem alloc2_cells (w0 : World) (n : Nat) (hn : w0.heap.size = n) (A B : Array Value) (t u : TypeId) :
    (∀ i, ((w0.alloc (.cells A t)).alloc (.cells B u)).drew.cell? ⟨n, i, none⟩ = A[i]?) ∧
    (∀ i, ((w0.alloc (.cells A t)).alloc (.cells B u)).drew.cell? ⟨n + 1, i, none⟩ = B[i]?) ∧ Kept [] w0 ((w0.alloc (.cells A t)).alloc (.cells B u)).drew := by
  subst hn
  have b1 : Blk ((w0.alloc (.cells A t)).alloc (.cells B u)) w0.heap.size t A := (Kept.alloc [] _ _).blk (Blk.new w0 t A) (by simp)
  have b2 : Blk ((w0.alloc (.cells A t)).alloc (.cells B u)) (w0.alloc (.cells A t)).heap.size u B := Blk.new _ u B
  rw [World.size_alloc] at b2
  exact ⟨fun i => b1.cell i, fun i => b2.cell i, ((Kept.alloc _ _ _).trans' (Kept.alloc _ _ _)).trans' (Kept.drew _ _)⟩
set_option maxHeartbeats 1000000 in
theorem store_marks (a : Nat) (w : World) (k j : Nat) (v old : Int) (g nr cr b n c mb nm cm r : Nat) (m : List ((Nat × Nat) × Int))
  (ho2 : k < nr) (hi2 : j < n) (hnr : nr ≤ 16) (hn : n ≤ 1024) (hm2 : nm + 1 ≤ 64)
  (h1 : w.cell? ⟨a, 1, none⟩ = some (.slice (some ⟨g, 0, none⟩) nr cr))
  (h2 : w.cell? ⟨a, 2, none⟩ = some (.slice (some ⟨mb, 0, none⟩) (nm + 1) cm))
  (hx : w.cell? ⟨g, k, none⟩ = some (.slice (some ⟨b, 0, none⟩) n c))
  (hc : w.cell? ⟨b, j, none⟩ = some (.int .i64 old))
  (hf : w.frozen? ⟨b, j, none⟩ = false)
  (hm : w.cell? ⟨mb, nm, none⟩ = some (.map (some r)))
  (hr : MapIs placeV numV w r m) (hab : a ≠ b) (hmb : mb ≠ b) (hrb : r ≠ b) (ha : a < w.heap.size) (hmbs : mb < w.heap.size)
  (hL : Hid (Calls Try.prog 21 #[.pointer (some ⟨a, 0, none⟩), .int .i64 ((k : Int) + 1), .int .i64 (j : Int)] w fun e w'' => e = .returned (.tuple #[.int .i64 old, .int .i64 0]) ∧ w = w'')) :
    Calls Try.prog 24 #[.pointer (some ⟨a, 0, none⟩), .int .i64 ((k : Int) + 1), .int .i64 (j : Int), .int .i64 v] w fun e w' => e = .returned (.tuple #[.int .i64 old, .int .i64 0]) ∧
      MapIs placeV numV w' r (storeM (k, j) old v m) ∧ Kept [r] (w.setCell ⟨b, j, none⟩ (.int .i64 v)) w' := by
  have hW2 := (World.cell?_setCell_far w ⟨b, j, none⟩ ⟨a, 2, none⟩ (.int .i64 v) (Ne.symm hab)).trans h2
  have hWm := (World.cell?_setCell_far w ⟨b, j, none⟩ ⟨mb, nm, none⟩ (.int .i64 v) (Ne.symm hmb)).trans hm
  have hR : Hid (MapIs placeV numV (w.setCell ⟨b, j, none⟩ (.int .i64 v)) r m) := Lib.hid ((Kept.setCell (F := [b]) (p := ⟨b, j, none⟩) (by simp) w _).map hr (by simpa using hrb))
  have hrl : r < w.heap.size := hr.lt
  clear hr hab hmb hrb
  go_enter Try.func24, Try.ntmps24
  go_wp2_with (go_at_call 21; refine hL.out.mono ?_; rintro e w' ⟨rfl, rfl⟩)
  go_region
  · generalize hW : World.drew _ = W
    obtain ⟨q1, q2, k0⟩ := alloc2_cells (w.setCell ⟨b, j, none⟩ (.int .i64 v)) w.heap.size (by simp) #[.int .i64 ((k : Int) + 1), .int .i64 (j : Int)] #[.map (some r)] 73 78
    rw [hW] at q1 q2 k0
    have f1 : W.cell? ⟨w.heap.size, 0, none⟩ = some (.int .i64 ((k : Int) + 1)) := q1 0
    have f2 : W.cell? ⟨w.heap.size, 1, none⟩ = some (.int .i64 (j : Int)) := q1 1
    have f3 : W.cell? ⟨w.heap.size + 1, 0, none⟩ = some (.map (some r)) := q2 0
    have hR2 := k0.map hR.out (by simp)
    clear hW q1 q2 hR
    have K0 := Lib.hid k0
    clear k0
    cases hg : mget (k, j) m with
    | none =>
      have hlk := run_lookup_ok place_keys Try.underlying76 hR2 (k, j) (.int .i64 0) Try.zeroValue2
      rw [hg] at hlk
      simp only [placeV, Option.map_none, Option.getD_none, Option.isSome_none] at hlk
      by_cases hv : v = old
      · have hv1 : (v != old) = false := by simp [hv]
        have HS : Hid (storeM (k, j) old v m = m) := Lib.hid (by simp [storeM, hg, hv])
        have HR := Lib.hid hR2
        clear hv hR2 hg
        go_wp2
        go_ret2
        exact ⟨rfl, by rw [HS.out]; exact HR.out, K0.out.nil_mono⟩
      · have hv1 : (v != old) = true := by simp [hv]
        have HS : Hid (storeM (k, j) old v m = mput (k, j) old m) := Lib.hid (by simp [storeM, hg, hv])
        obtain ⟨o1, hup, hM⟩ := run_update place_keys Try.underlying76 hR2 (k, j) old
        simp only [placeV, numV] at hup
        have HR := Lib.hid hM
        clear hv hR2 hg hM
        go_wp2
        go_ret2
        exact ⟨rfl, by rw [HS.out]; exact HR.out, K0.out.nil_mono.trans' (Kept.setBlock (by simp) _ _)⟩
    | some u =>
      have hlk := run_lookup_ok place_keys Try.underlying76 hR2 (k, j) (.int .i64 0) Try.zeroValue2
      rw [hg] at hlk
      simp only [placeV, numV, Option.map_some, Option.getD_some, Option.isSome_some] at hlk
      by_cases hv : v = u
      · have hv1 : (v == u) = true := by simp [hv]
        have HS : Hid (storeM (k, j) old v m = mdel (k, j) m) := Lib.hid (by simp [storeM, hg, hv])
        obtain ⟨o1, hup, hM⟩ := run_delete place_keys Try.underlying76 hR2 (k, j) 0
        simp only [placeV] at hup
        have HR := Lib.hid hM
        clear hv hR2 hg hM
        go_wp2
        go_ret2
        exact ⟨rfl, by rw [HS.out]; exact HR.out, K0.out.nil_mono.trans' (Kept.setBlock (by simp) _ _)⟩
      · have hv1 : (v == u) = false := by simp [hv]
        have HS : Hid (storeM (k, j) old v m = m) := Lib.hid (by simp [storeM, hg, hv])
        have HR := Lib.hid hR2
        clear hv hR2 hg
        go_wp2
        go_ret2
        exact ⟨rfl, by rw [HS.out]; exact HR.out, K0.out.nil_mono⟩
  · generalize hW : World.drew _ = W
    obtain ⟨q1, q2, k0⟩ := alloc2_cells (w.setCell ⟨b, j, none⟩ (.int .i64 v)) w.heap.size (by simp) #[.map (some r)] #[.int .i64 ((k : Int) + 1), .int .i64 (j : Int)] 78 73
    rw [hW] at q1 q2 k0
    have f1 : W.cell? ⟨w.heap.size + 1, 0, none⟩ = some (.int .i64 ((k : Int) + 1)) := q2 0
    have f2 : W.cell? ⟨w.heap.size + 1, 1, none⟩ = some (.int .i64 (j : Int)) := q2 1
    have f3 : W.cell? ⟨w.heap.size, 0, none⟩ = some (.map (some r)) := q1 0
    have hR2 := k0.map hR.out (by simp)
    clear hW q1 q2 hR
    have K0 := Lib.hid k0
    clear k0
    cases hg : mget (k, j) m with
    | none =>
      have hlk := run_lookup_ok place_keys Try.underlying76 hR2 (k, j) (.int .i64 0) Try.zeroValue2
      rw [hg] at hlk
      simp only [placeV, Option.map_none, Option.getD_none, Option.isSome_none] at hlk
      by_cases hv : v = old
      · have hv1 : (v != old) = false := by simp [hv]
        have HS : Hid (storeM (k, j) old v m = m) := Lib.hid (by simp [storeM, hg, hv])
        have HR := Lib.hid hR2
        clear hv hR2 hg
        go_wp2
        go_ret2
        exact ⟨rfl, by rw [HS.out]; exact HR.out, K0.out.nil_mono⟩
      · have hv1 : (v != old) = true := by simp [hv]
        have HS : Hid (storeM (k, j) old v m = mput (k, j) old m) := Lib.hid (by simp [storeM, hg, hv])
        obtain ⟨o1, hup, hM⟩ := run_update place_keys Try.underlying76 hR2 (k, j) old
        simp only [placeV, numV] at hup
        have HR := Lib.hid hM
        clear hv hR2 hg hM
        go_wp2
        go_ret2
        exact ⟨rfl, by rw [HS.out]; exact HR.out, K0.out.nil_mono.trans' (Kept.setBlock (by simp) _ _)⟩
    | some u =>
      have hlk := run_lookup_ok place_keys Try.underlying76 hR2 (k, j) (.int .i64 0) Try.zeroValue2
      rw [hg] at hlk
      simp only [placeV, numV, Option.map_some, Option.getD_some, Option.isSome_some] at hlk
      by_cases hv : v = u
      · have hv1 : (v == u) = true := by simp [hv]
        have HS : Hid (storeM (k, j) old v m = mdel (k, j) m) := Lib.hid (by simp [storeM, hg, hv])
        obtain ⟨o1, hup, hM⟩ := run_delete place_keys Try.underlying76 hR2 (k, j) 0
        simp only [placeV] at hup
        have HR := Lib.hid hM
        clear hv hR2 hg hM
        go_wp2
        go_ret2
        exact ⟨rfl, by rw [HS.out]; exact HR.out, K0.out.nil_mono.trans' (Kept.setBlock (by simp) _ _)⟩
      · have hv1 : (v == u) = false := by simp [hv]
        have HS : Hid (storeM (k, j) old v m = m) := Lib.hid (by simp [storeM, hg, hv])
        have HR := Lib.hid hR2
        clear hv hR2 hg
        go_wp2
        go_ret2
        exact ⟨rfl, by rw [HS.out]; exact HR.out, K0.out.nil_mono⟩

theorem store_bare (a : Nat) (w : World) (k j : Nat) (v old : Int) (g nr cr b n c : Nat) (A : Option Addr) (cm : Nat)
  (ho2 : k < nr) (hi2 : j < n) (hnr : nr ≤ 16) (hn : n ≤ 1024)
  (h1 : w.cell? ⟨a, 1, none⟩ = some (.slice (some ⟨g, 0, none⟩) nr cr))
  (h2 : w.cell? ⟨a, 2, none⟩ = some (.slice A 0 cm))
  (hx : w.cell? ⟨g, k, none⟩ = some (.slice (some ⟨b, 0, none⟩) n c))
  (hc : w.cell? ⟨b, j, none⟩ = some (.int .i64 old))
  (hf : w.frozen? ⟨b, j, none⟩ = false) (hab : a ≠ b)
  (hL : Hid (Calls Try.prog 21 #[.pointer (some ⟨a, 0, none⟩), .int .i64 ((k : Int) + 1), .int .i64 (j : Int)] w fun e w'' => e = .returned (.tuple #[.int .i64 old, .int .i64 0]) ∧ w = w'')) :
    Calls Try.prog 24 #[.pointer (some ⟨a, 0, none⟩), .int .i64 ((k : Int) + 1), .int .i64 (j : Int), .int .i64 v] w fun e w' => e = .returned (.tuple #[.int .i64 old, .int .i64 0]) ∧
      w.setCell ⟨b, j, none⟩ (.int .i64 v) = w' := by
  have hW2 := (World.cell?_setCell_far w ⟨b, j, none⟩ ⟨a, 2, none⟩ (.int .i64 v) (Ne.symm hab)).trans h2
  clear hab
  go_enter Try.func24, Try.ntmps24
  go_wp2_with (go_at_call 21; refine hL.out.mono ?_; rintro e w' ⟨rfl, rfl⟩)
  go_ret2
  exact ⟨rfl, rfl⟩
theorem store_not (a : Nat) (w : World) (o i v e : Int) (he : e = 211 ∨ e = 212)
  (hL : Hid (Calls Try.prog 21 #[.pointer (some ⟨a, 0, none⟩), .int .i64 o, .int .i64 i] w fun r w'' => r = .returned (.tuple #[.int .i64 0, .int .i64 e]) ∧ w = w'')) :
    Calls Try.prog 24 #[.pointer (some ⟨a, 0, none⟩), .int .i64 o, .int .i64 i, .int .i64 v] w fun r w' => r = .returned (.tuple #[.int .i64 0, .int .i64 e]) ∧ w = w' := by
  rcases he with rfl | rfl
  all_goals
    go_enter Try.func24, Try.ntmps24
    go_wp2_with (go_at_call 21; refine hL.out.mono ?_; rintro e w' ⟨rfl, rfl⟩)
    go_ret2
    exact ⟨rfl, rfl⟩

/-! ### the values behind it -/
def put (l : List (List Int)) (p : Nat × Nat) (v : Int) : List (List Int) := l.modify p.1 fun xs => xs.set p.2 v
def CM.store (c : CM) (o i v : Int) : CM :=
  if (c.load o i).2 = 0 then { c with now := put c.now ((o - 1).toNat, i.toNat) v } else c

theorem look_put (l : List (List Int)) (p q : Nat × Nat) (v : Int) (hp : ∃ xs, l[p.1]? = some xs ∧ p.2 < xs.length) :
    look (put l p v) q = if p = q then v else look l q := by
  obtain ⟨xs, h1, h2⟩ := hp
  obtain ⟨k, j⟩ := p
  obtain ⟨k', j'⟩ := q
  simp only at h1 h2
  simp only [look, put, List.getElem?_modify, Prod.mk.injEq]
  by_cases hk : k = k'
  · subst hk
    simp only [h1, if_true, Option.map_eq_map, Option.map_some, Option.getD_some, true_and]
    by_cases hj : j = j'
    · subst hj
      rw [List.getElem?_set_self h2, if_pos rfl]
      rfl
    · rw [List.getElem?_set_ne hj, if_neg hj]
  · simp [hk]
theorem lens_put (l : List (List Int)) (p : Nat × Nat) (v : Int) : lens (put l p v) = lens l := by
  apply List.ext_getElem?
  intro i
  simp only [lens, put, List.getElem?_map, List.getElem?_modify]
  by_cases h : p.1 = i
  · simp only [h, if_true]
    cases l[i]? <;> simp
  · simp [h]

theorem storeM_diff {m : List ((Nat × Nat) × Int)} {old new : List (List Int)} (p : Nat × Nat) (v : Int) (hn : (m.map (·.1)).Nodup) (h : IsDiff m old new) (hp : ∃ xs, new[p.1]? = some xs ∧ p.2 < xs.length) :
    IsDiff (storeM p (look new p) v m) old (put new p v) := by
  intro q
  rw [look_put new p q v hp]
  have hq := h q
  have h0 := h p
  unfold storeM
  cases hg : mget p m with
  | none =>
    rw [hg] at h0
    have heq : look old p = look new p := by
      by_cases e : look old p = look new p
      · exact e
      · rw [if_neg e] at h0; cases h0
    simp only
    by_cases hv : v = look new p
    · rw [if_pos hv]
      by_cases hpq : p = q
      · subst hpq
        rw [if_pos rfl, hg, hv, if_pos heq]
      · rw [if_neg hpq]; exact hq
    · rw [if_neg hv, mget_mput]
      by_cases hpq : p = q
      · subst hpq
        rw [if_pos rfl, if_pos rfl, if_neg (by rw [heq]; exact fun e => hv e.symm), heq]
      · rw [if_neg hpq, if_neg hpq]; exact hq
  | some u =>
    rw [hg] at h0
    have hne : ¬ look old p = look new p := fun e => by rw [if_pos e] at h0; cases h0
    rw [if_neg hne] at h0
    simp only [Option.some.injEq] at h0
    subst h0
    simp only
    by_cases hv : v = look old p
    · rw [if_pos hv, mget_mdel _ _ _ hn]
      by_cases hpq : p = q
      · subst hpq
        rw [if_pos rfl, if_pos rfl, if_pos hv.symm]
      · rw [if_neg hpq, if_neg hpq]; exact hq
    · rw [if_neg hv]
      by_cases hpq : p = q
      · subst hpq
        rw [hg, if_pos rfl, if_neg (fun e => hv e.symm)]
      · rw [if_neg hpq]; exact hq

theorem chain_snoc (now : List (List Int)) (t : TopL) : ∀ ts : List TopL, Chain now (ts ++ [t]) ↔ Chain t.snap ts ∧ IsDiff t.m t.snap now
  | [] => by simp [Chain]
  | [u] => by simp [Chain, and_comm]
  | u :: u' :: ts => by
    have := chain_snoc now t (u' :: ts)
    simp only [List.cons_append, Chain] at this ⊢
    rw [this, and_assoc]

theorem own_set {w : World} {base n b j : Nat} {e : TypeId} {v : Value} {xs : List Value} (h : w.ownsRow base e 1 v n xs) (hv : v.ownBlock = some b) (u : Value) :
    (w.setCell ⟨b, j, none⟩ u).ownsRow base e 1 v n (xs.set j u) := by
  refine ⟨by simpa using h.1, ?_⟩
  rcases h.2 with ⟨rfl, _⟩ | ⟨g, cap, cur, rfl, hb, hg, h1, h2, h3, h4⟩
  · simp [Value.ownBlock] at hv
  · simp only [Value.ownBlock, Option.some.injEq] at hv
    subst hv
    refine .inr ⟨g, cap, cur.setIfInBounds j u, rfl, hb, Blk.set_ hg j u, h1, h2, by simpa using h3, ?_⟩
    rw [Array.toList_setIfInBounds, List.take_set, h4]

section
variable {w w' : World} {a : Nat} {rv mv : Value} {rows : List RowL} {tops : List TopL} {F : List Nat} {c : CM}
theorem MemB.ne_row (h : MemB w a rv rows mv tops) {r : RowL} (hr : r ∈ rows) : a ≠ r.b := by
  obtain ⟨cs, hb⟩ := own_blk (h.row r hr) (k := r.b) rfl
  exact h.blk.ne_ hb (by decide)
theorem MemB.rv_row (h : MemB w a rv rows mv tops) {r : RowL} (hr : r ∈ rows) {g : Nat} (hg : rv.ownBlock = some g) : g ≠ r.b := by
  obtain ⟨cs, hb⟩ := own_blk (h.row r hr) (k := r.b) rfl
  obtain ⟨cs', hb'⟩ := own_blk h.rown hg
  exact hb'.ne_ hb (by decide)
theorem MemB.mv_row (h : MemB w a rv rows mv tops) {r : RowL} (hr : r ∈ rows) {g : Nat} (hg : mv.ownBlock = some g) : g ≠ r.b := by
  obtain ⟨cs, hb⟩ := own_blk (h.row r hr) (k := r.b) rfl
  obtain ⟨cs', hb'⟩ := own_blk h.mown hg
  exact hb'.ne_ hb (by decide)
theorem MemB.top_row (h : MemB w a rv rows mv tops) {r : RowL} (hr : r ∈ rows) {t : TopL} (ht : t ∈ tops) : t.r ≠ r.b := by
  obtain ⟨cs, hb⟩ := own_blk (h.row r hr) (k := r.b) rfl
  exact (h.top t ht).not_blk hb
theorem MemB.top_a (h : MemB w a rv rows mv tops) {t : TopL} (ht : t ∈ tops) : t.r ≠ a := (h.top t ht).not_blk h.blk
theorem MemB.top_rv (h : MemB w a rv rows mv tops) {t : TopL} (ht : t ∈ tops) {g : Nat} (hg : rv.ownBlock = some g) : t.r ≠ g := by
  obtain ⟨cs', hb'⟩ := own_blk h.rown hg
  exact (h.top t ht).not_blk hb'
theorem MemB.top_mv (h : MemB w a rv rows mv tops) {t : TopL} (ht : t ∈ tops) {g : Nat} (hg : mv.ownBlock = some g) : t.r ≠ g := by
  obtain ⟨cs', hb'⟩ := own_blk h.mown hg
  exact (h.top t ht).not_blk hb'

theorem map_set_same {α β : Type} (f : α → β) {l : List α} {k : Nat} {x y : α} (h : l[k]? = some x) (e : f y = f x) : (l.set k y).map f = l.map f := by
  apply List.ext_getElem?
  intro i
  simp only [List.getElem?_map]
  by_cases hi : k = i
  · subst hi
    rw [List.getElem?_set_self (List.getElem?_eq_some_iff.1 h).1, h, Option.map_some, Option.map_some, e]
  · rw [List.getElem?_set_ne hi]
def RowL.set (r : RowL) (j : Nat) (v : Int) : RowL := { r with xs := r.xs.set j v }
theorem nowOf_set {k j : Nat} {v : Int} {r : RowL} (hr : rows[k]? = some r) : nowOf (rows.set k (r.set j v)) = put (nowOf rows) (k, j) v := by
  apply List.ext_getElem?
  intro i
  simp only [nowOf, put, List.getElem?_map, List.getElem?_modify]
  by_cases h : k = i
  · subst h
    rw [List.getElem?_set_self (List.getElem?_eq_some_iff.1 hr).1, hr]
    simp [RowL.set]
  · rw [List.getElem?_set_ne h]
    simp [h]

/-- A cell has been stored; the last mark's map has followed. -/
theorem MemB.stored (h : MemB w a rv rows mv tops) {k j : Nat} {r : RowL} (hr : rows[k]? = some r) (v : Int) {tops' : List TopL} {G : List Nat}
    (hk : Kept G (w.setCell ⟨r.b, j, none⟩ (numV v)) w') (hG : ∀ b ∈ G, ∃ t ∈ tops, t.r = b)
    (h1 : tops'.map TopL.r = tops.map TopL.r) (h2 : snapsOf tops' = snapsOf tops) (htop : ∀ t ∈ tops', MapIs placeV numV w' t.r t.m) : MemB w' a rv (rows.set k (r.set j v)) mv tops' := by
  have hmem := List.mem_of_getElem? hr
  have hK : Kept (r.b :: G) w w' := (Kept.setCell (F := r.b :: G) (p := ⟨r.b, j, none⟩) (by simp) w (numV v)).trans hk (fun b hb => .inl (by simp [hb]))
  have hGa : a ∉ G := fun hm => by obtain ⟨t, ht, e⟩ := hG a hm; exact h.top_a ht e
  have hlen : tops'.length = tops.length := by have := congrArg List.length h1; simpa using this
  have hval : ∀ r' : RowL, (r'.set j v).val = r'.val := fun r' => by simp [RowL.val, RowL.set]
  have hrows : (rows.set k (r.set j v)).map RowL.val = rows.map RowL.val := map_set_same _ hr (hval r)
  have hbs : (rows.set k (r.set j v)).map RowL.b = rows.map RowL.b := map_set_same _ hr rfl
  have htv : tops'.map TopL.val = tops.map TopL.val := by
    have e : ∀ l : List TopL, l.map TopL.val = (l.map TopL.r).map fun n => Value.map (some n) := fun l => by rw [List.map_map]; rfl
    rw [e, e, h1]
  refine ⟨hK.blk h.blk ?_, ?_, ?_, ?_, ?_, htop, ?_, ?_, ?_, ?_, ?_⟩
  · simp only [List.mem_cons, not_or]
    exact ⟨h.ne_row hmem, hGa⟩
  · rw [hrows, List.length_set]
    exact hK.own h.rown fun g hg => by
      simp only [List.mem_cons, not_or]
      exact ⟨h.rv_row hmem hg, fun hm => by obtain ⟨t, ht, e⟩ := hG g hm; exact h.top_rv ht hg e⟩
  · intro r' hr'
    have hG' : ∀ r0 ∈ rows, r0.b ∉ G := fun r0 h0 hm => by obtain ⟨t, ht, e⟩ := hG _ hm; exact h.top_row h0 ht e
    obtain ⟨i, hi⟩ := List.mem_iff_getElem?.1 hr'
    rw [List.getElem?_set] at hi
    split at hi
    · rename_i e
      split at hi
      · simp only [Option.some.injEq] at hi
        subst hi
        have hs := own_set (j := j) (h.row r hmem) (b := r.b) rfl (numV v)
        rw [hval]
        have e2 : (r.set j v).xs.length = r.xs.length := by simp [RowL.set]
        have e3 : (r.set j v).xs.map numV = (r.xs.map numV).set j (numV v) := by simp [RowL.set, List.map_set]
        rw [e2, e3]
        exact hk.own hs fun g hg => by
          simp only [RowL.val, Value.ownBlock, Option.some.injEq] at hg
          exact hg ▸ hG' r hmem
      · cases hi
    · rename_i hne
      have hm' := List.mem_of_getElem? hi
      refine hK.own (h.row r' hm') fun g hg => ?_
      simp only [RowL.val, Value.ownBlock, Option.some.injEq] at hg
      subst hg
      simp only [List.mem_cons, not_or]
      refine ⟨fun e => hne ?_, hG' r' hm'⟩
      have hi1 := (List.getElem?_eq_some_iff.1 hi)
      have hr1 := (List.getElem?_eq_some_iff.1 hr)
      refine (List.getElem?_inj (l := rows.map RowL.b) (by simpa using hr1.1) h.rnd).1 ?_
      simp [hi, hr, e]
  · rw [hbs]; exact h.rnd
  · rw [htv, hlen]
    exact hK.own h.mown fun g hg => by
      simp only [List.mem_cons, not_or]
      exact ⟨h.mv_row hmem hg, fun hm => by obtain ⟨t, ht, e⟩ := hG g hm; exact h.top_mv ht hg e⟩
  · rw [h1]; exact h.tnd
  · rw [nowOf_set hr, lens_put]
    intro t ht
    have : t.snap ∈ snapsOf tops := by rw [← h2]; exact List.mem_map.2 ⟨t, ht, rfl⟩
    obtain ⟨t', ht', e⟩ := List.mem_map.1 this
    rw [← e]
    exact h.shape t' ht'
  · rw [List.length_set]; exact h.few
  · intro r' hr'
    rcases List.mem_or_eq_of_mem_set hr' with h' | rfl
    · exact h.short r' h'
    · simpa [RowL.set] using h.short r hmem
  · rw [hlen]; exact h.low


theorem foot_stored {k j : Nat} {r : RowL} (hr : rows[k]? = some r) (v : Int) {tops' : List TopL} (h1 : tops'.map TopL.r = tops.map TopL.r) :
    foot a rv (rows.set k (r.set j v)) mv tops' = foot a rv rows mv tops := by
  unfold foot
  rw [map_set_same RowL.b (y := r.set j v) hr rfl, h1]

theorem load_ok {o i : Int} (h : (c.load o i).2 = 0) : ∃ k j : Nat, o = (k : Int) + 1 ∧ i = (j : Int) ∧ ∃ xs, c.now[k]? = some xs ∧ j < xs.length ∧ c.load o i = (look c.now (k, j), 0) := by
  unfold CM.load at h ⊢
  split at h
  · simp at h
  · rename_i h1
    split at h
    · simp at h
    · rename_i h2
      have ho : 1 ≤ o ∧ o ≤ c.now.length := by omega
      refine ⟨(o - 1).toNat, i.toNat, by omega, by omega, c.now[(o - 1).toNat]'(by omega), List.getElem?_eq_getElem _, ?_, by rw [if_neg h1, if_neg h2]⟩
      rw [List.getElem?_eq_getElem (by omega : (o - 1).toNat < c.now.length)] at h2
      simp only [Option.getD_some] at h2
      omega
theorem load_err (c : CM) (o i : Int) : (c.load o i).2 = 0 ∨ c.load o i = (0, 211) ∨ c.load o i = (0, 212) := by
  unfold CM.load
  split
  · simp
  · split <;> simp

/-- Store, whatever it is asked. -/
theorem Store_calls (h : IsMem w a c F) (o i v : Int) :
    Calls Try.prog 24 #[.pointer (some ⟨a, 0, none⟩), .int .i64 o, .int .i64 i, .int .i64 v] w fun e w' => e = .returned (.tuple #[.int .i64 (c.load o i).1, .int .i64 (c.load o i).2]) ∧
      IsMem w' a (c.store o i v) F ∧ Kept F w w' := by
  have hL := Load_calls h o i
  rcases load_err c o i with h0 | he
  · obtain ⟨k, j, rfl, rfl, xs, hxs, hj, hl⟩ := load_ok h0
    have hst : c.store ((k : Int) + 1) j v = { c with now := put c.now (k, j) v } := by
      unfold CM.store
      rw [if_pos h0]
      simp
    rw [hst]
    rw [hl] at hL ⊢
    obtain ⟨rv, rows, mv, tops, hM, h2, h3, rfl⟩ := h
    rw [← h2, nowOf_get] at hxs
    obtain ⟨r, hr, rfl⟩ := Option.map_eq_some_iff.1 hxs
    have hmem := List.mem_of_getElem? hr
    obtain ⟨g, cap, hrv, hg⟩ := hM.rowAt hr
    have hlook : look c.now (k, j) = r.xs[j] := by
      rw [← h2]
      simp [look, nowOf_get, hr, hj]
    obtain ⟨hc, hf⟩ := hM.cellAt hmem (List.getElem?_eq_getElem hj)
    have hcells := hM.cells
    rw [hrv] at hcells
    have hk := (List.getElem?_eq_some_iff.1 hr).1
    rcases List.eq_nil_or_concat tops with rfl | ⟨ts, t, rfl⟩
    · obtain ⟨A, cm, hmv⟩ := own_slice hM.mown
      have hmk := hM.marks
      rw [hmv] at hmk
      rw [hlook] at hL ⊢
      refine (store_bare a w k j v _ g rows.length cap r.b r.xs.length r.cap A cm hk hj hM.few (hM.short r hmem) hcells hmk hg hc hf (hM.ne_row hmem) (Lib.hid hL)).mono ?_
      rintro e w' ⟨rfl, rfl⟩
      have hS : MemL _ a rv _ mv [] := ⟨hM.toMemB.stored (j := j) hr v (tops' := []) (Kept.refl [] _) (by simp) rfl rfl (by simp), by simp [Chain]⟩
      exact ⟨rfl, ⟨rv, _, mv, _, hS, by rw [nowOf_set hr, h2], h3, (foot_stored hr v rfl).symm⟩, Kept.setCell (by simp only [mem_foot]; exact .inr (.inr (.inr (.inl ⟨r, hmem, rfl⟩)))) _ _⟩
    · simp only [List.concat_eq_append] at hM h3 ⊢
      obtain ⟨mb, cm, hmv, htop, _⟩ := own_cell hM.mown (k := ts.length) (u := t.val) (by simp)
      have hmk := hM.marks
      simp only [List.length_append, List.length_cons, List.length_nil] at hmv
      rw [hmv] at hmk
      have ht : t ∈ ts ++ [t] := by simp
      have hlow := hM.low
      simp only [List.length_append, List.length_cons, List.length_nil] at hlow
      rw [hlook] at hL ⊢
      refine (store_marks a w k j v _ g rows.length cap r.b r.xs.length r.cap mb ts.length cm t.r t.m hk hj hM.few (hM.short r hmem) (by omega) hcells hmk hg hc hf htop (hM.top t ht) (hM.ne_row hmem)
        (hM.mv_row hmem (by rw [hmv]; rfl)) (hM.top_row hmem ht) hM.blk.lt (own_lt hM.mown (by rw [hmv]; rfl)) (Lib.hid hL)).mono ?_
      rintro e w' ⟨rfl, hmap, hkept⟩
      have hch := (chain_snoc _ _ _).1 hM.chain
      have hB := hM.toMemB.stored (j := j) hr v (tops' := ts ++ [{ t with m := storeM (k, j) r.xs[j] v t.m }]) (G := [t.r]) hkept (by simp) (by simp) (by simp [snapsOf]) (by
        intro u hu
        rcases List.mem_append.1 hu with hu | hu
        · refine hkept.map ((Kept.setCell (F := [r.b]) (p := ⟨r.b, j, none⟩) (by simp) w (numV v)).map (hM.top u (by simp [hu])) ?_) ?_
          · simp only [List.mem_singleton]
            exact hM.top_row hmem (by simp [hu])
          · simp only [List.mem_singleton]
            intro e
            have hnd := hM.tnd
            rw [List.map_append] at hnd
            exact (List.nodup_append.1 hnd).2.2 u.r (List.mem_map.2 ⟨u, hu, rfl⟩) t.r (by simp) e
        · simp only [List.mem_singleton] at hu
          subst hu
          exact hmap)
      have hS : MemL _ a rv _ mv _ := ⟨hB, by
        rw [nowOf_set hr, chain_snoc]
        refine ⟨hch.1, ?_⟩
        have := storeM_diff (k, j) v (hM.top t ht).nodup hch.2 ⟨r.xs, by rw [nowOf_get, hr]; rfl, hj⟩
        rw [← hlook, ← h2]
        exact this⟩
      refine ⟨rfl, ⟨rv, _, mv, _, hS, by rw [nowOf_set hr, h2], by simpa [snapsOf] using h3, (foot_stored hr v (by simp)).symm⟩, ?_⟩
      refine (Kept.setCell ?_ w _).trans' (hkept.mono fun b hb _ => ?_)
      · simp only [mem_foot]; exact .inr (.inr (.inr (.inl ⟨r, hmem, rfl⟩)))
      · simp only [List.mem_singleton] at hb
        subst hb
        simp only [mem_foot]; exact .inr (.inr (.inr (.inr ⟨t, ht, rfl⟩)))
  · have hs : c.store o i v = c := by
      unfold CM.store
      rcases he with e | e <;> rw [e] <;> simp
    rw [hs]
    rcases he with e | e
    all_goals
      rw [e] at hL ⊢
      refine (store_not a w o i v _ (by simp) (Lib.hid hL)).mono ?_
      rintro r w' ⟨rfl, rfl⟩
      exact ⟨rfl, h, Kept.refl _ _⟩
end
end Go.Proofs.Ytlfaoibgmbbacaa
