/- The reference's memory: slices that are read and never written again; the walk of its copied. -/
import Derived.Test.YtlfaoibgmbbacaaCopiesLaw
namespace Go.Proofs.Ytlfaoibgmbbacaa
open Go.RowKit
open Go.ChangeMaps (setBlock)

theorem addr_add (b o j : Nat) : (⟨b, o, none⟩ : Addr).add j = ⟨b, o + j, none⟩ := by
  by_cases h : j = 0
  · subst h
    rfl
  · simp [Addr.add, h]
/-- Cells that lie in some of these blocks. -/
def ReadsIn (w : World) (F : List Nat) (A : Option Addr) (xs : List Value) : Prop :=
  xs = [] ∨ ∃ b off, A = some ⟨b, off, none⟩ ∧ b ∈ F ∧ b < w.heap.size ∧ ∀ j u, xs[j]? = some u → w.cell? ⟨b, off + j, none⟩ = some u
section
variable {w w' : World} {F F' G : List Nat} {A : Option Addr} {xs : List Value}
theorem ReadsIn.reads (h : ReadsIn w F A xs) : Reads w A xs := by
  rcases h with h | ⟨b, off, h1, _, _, h2⟩
  · exact .inl h
  · exact .inr ⟨b, off, h1, h2⟩
theorem ReadsIn.kept (h : ReadsIn w F A xs) (hk : Kept G w w') (hd : ∀ b ∈ F, b ∉ G) : ReadsIn w' F A xs := by
  rcases h with h | ⟨b, off, h1, h2, h3, h4⟩
  · exact .inl h
  · exact .inr ⟨b, off, h1, h2, Nat.lt_of_lt_of_le h3 hk.size, fun j u hu => hk.cell (h4 j u hu) (hd b h2)⟩
theorem ReadsIn.mono (h : ReadsIn w F A xs) (hF : ∀ b ∈ F, b ∈ F') : ReadsIn w F' A xs := by
  rcases h with h | ⟨b, off, h1, h2, h3⟩
  · exact .inl h
  · exact .inr ⟨b, off, h1, hF b h2, h3⟩
end

/-- All cells as the reference has them. -/
def GridIs (w : World) (F : List Nat) (v : Value) (ls : List (List Int)) : Prop :=
  ∃ (A : Option Addr) (cap : Nat) (vs : List Value), v = .slice A ls.length cap ∧ ReadsIn w F A vs ∧ vs.length = ls.length ∧
    ∀ (k : Nat) (xs : List Int), ls[k]? = some xs → ∃ (b off cb : Nat), vs[k]? = some (.slice (some ⟨b, off, none⟩) xs.length cb) ∧ ReadsIn w F (some ⟨b, off, none⟩) (xs.map numV)
/-- A memory of the reference. -/
def RefIs (w : World) (F : List Nat) (v : Value) (c : CM) : Prop :=
  ∃ (nv mv : Value), v = .agg #[nv, mv] ∧ GridIs w F nv c.now ∧ ∃ (A : Option Addr) (cap : Nat) (vs : List Value), mv = .slice A c.marks.length cap ∧ c.marks.length ≤ cap ∧ ReadsIn w F A vs ∧ vs.length = c.marks.length ∧
    ∀ (k : Nat) (s : List (List Int)), c.marks[k]? = some s → ∃ u : Value, vs[k]? = some u ∧ GridIs w F u s
section
variable {w w' : World} {F F' G : List Nat} {v : Value} {ls : List (List Int)} {c : CM}
theorem GridIs.kept (h : GridIs w F v ls) (hk : Kept G w w') (hd : ∀ b ∈ F, b ∉ G) : GridIs w' F v ls := by
  obtain ⟨A, cap, vs, h1, h2, h3, h4⟩ := h
  refine ⟨A, cap, vs, h1, h2.kept hk hd, h3, fun k xs hx => ?_⟩
  obtain ⟨b, off, cb, h5, h6⟩ := h4 k xs hx
  exact ⟨b, off, cb, h5, h6.kept hk hd⟩
theorem GridIs.mono (h : GridIs w F v ls) (hF : ∀ b ∈ F, b ∈ F') : GridIs w F' v ls := by
  obtain ⟨A, cap, vs, h1, h2, h3, h4⟩ := h
  refine ⟨A, cap, vs, h1, h2.mono hF, h3, fun k xs hx => ?_⟩
  obtain ⟨b, off, cb, h5, h6⟩ := h4 k xs hx
  exact ⟨b, off, cb, h5, h6.mono hF⟩
theorem RefIs.kept (h : RefIs w F v c) (hk : Kept G w w') (hd : ∀ b ∈ F, b ∉ G) : RefIs w' F v c := by
  obtain ⟨nv, mv, h1, h2, A, cap, vs, h3, hc, h4, h5, h6⟩ := h
  refine ⟨nv, mv, h1, h2.kept hk hd, A, cap, vs, h3, hc, h4.kept hk hd, h5, fun k s hs => ?_⟩
  obtain ⟨u, h7, h8⟩ := h6 k s hs
  exact ⟨u, h7, h8.kept hk hd⟩
theorem RefIs.mono (h : RefIs w F v c) (hF : ∀ b ∈ F, b ∈ F') : RefIs w F' v c := by
  obtain ⟨nv, mv, h1, h2, A, cap, vs, h3, hc, h4, h5, h6⟩ := h
  refine ⟨nv, mv, h1, h2.mono hF, A, cap, vs, h3, hc, h4.mono hF, h5, fun k s hs => ?_⟩
  obtain ⟨u, h7, h8⟩ := h6 k s hs
  exact ⟨u, h7, h8.mono hF⟩
end

/-- Cells of one's own, row by row. -/
structure OwnGrid (w : World) (rv : Value) (rows : List RowL) : Prop where
  rown : w.ownsRow 0 28 1 rv rows.length (rows.map RowL.val)
  row : ∀ r ∈ rows, w.ownsRow 0 2 1 r.val r.xs.length (r.xs.map numV)
  rnd : (rows.map RowL.b).Nodup
def gridFoot (rv : Value) (rows : List RowL) : List Nat := rv.ownBlock.toList ++ rows.map RowL.b
theorem own_readsIn {w : World} {base n cap size : Nat} {e : TypeId} {A : Option Addr} {xs : List Value} {F : List Nat} (h : w.ownsRow base e size (.slice A n cap) n xs) (hF : ∀ b, (Value.slice A n cap).ownBlock = some b → b ∈ F) : ReadsIn w F A xs := by
  rcases own_reads h with h0 | ⟨b, off, rfl, h1⟩
  · exact .inl h0
  · by_cases hx : xs = []
    · exact .inl hx
    · rcases h.2 with ⟨hv, rfl⟩ | ⟨g, cap', cur, hv, hb, hg, _⟩
      · simp at hv
      · simp only [Value.slice.injEq, Option.some.injEq, Addr.mk.injEq, true_and, and_true] at hv
        obtain ⟨⟨rfl, rfl⟩, rfl⟩ := hv
        exact .inr ⟨b, 0, rfl, hF b rfl, lt_of_heap hg, h1⟩
theorem OwnGrid.grid {w : World} {rv : Value} {rows : List RowL} (h : OwnGrid w rv rows) : GridIs w (gridFoot rv rows) rv (nowOf rows) := by
  obtain ⟨A, cap, rfl⟩ := own_slice h.rown
  refine ⟨A, cap, rows.map RowL.val, by simp [nowOf], own_readsIn h.rown fun b hb => ?_, by simp [nowOf], fun k xs hx => ?_⟩
  · unfold gridFoot
    rw [hb]
    simp
  · simp only [nowOf, List.getElem?_map] at hx
    obtain ⟨r, hr, rfl⟩ := Option.map_eq_some_iff.1 hx
    refine ⟨r.b, 0, r.cap, by rw [List.getElem?_map, hr]; rfl, own_readsIn (n := r.xs.length) (h.row r (List.mem_of_getElem? hr)) fun b hb => ?_⟩
    simp only [Value.ownBlock, Option.some.injEq] at hb
    unfold gridFoot
    simp only [List.mem_append, List.mem_map]
    exact .inr ⟨r, List.mem_of_getElem? hr, hb⟩

/-- One more row of one's own. -/
theorem OwnGrid.add {w W2 w2 : World} {rv v' : Value} {rows : List RowL} (h : OwnGrid w rv rows) (r : RowL) (hk : Kept [] w W2) (hr : W2.ownsRow 0 2 1 r.val r.xs.length (r.xs.map numV)) (hnew : w.heap.size ≤ r.b)
    (hg : W2.grownBy w2 rv.ownBlock) (hown : w2.ownsRow 0 28 1 v' (rows.length + 1) (rows.map RowL.val ++ [r.val])) (hloc : v'.ownBlock = rv.ownBlock ∨ v'.ownBlock = some W2.heap.size) :
    OwnGrid w2 v' (rows ++ [r]) ∧ Kept rv.ownBlock.toList w w2 ∧ ∀ b ∈ gridFoot v' (rows ++ [r]), b ∈ gridFoot rv rows ∨ w.heap.size ≤ b := by
  have k2 : Kept rv.ownBlock.toList W2 w2 := Kept.grown hg (by simp)
  have hrv : ∀ s ∈ rows, s.b ∉ rv.ownBlock.toList := fun s hs hm => by
    obtain ⟨cs, hb⟩ := own_blk (h.row s hs) (k := s.b) rfl
    obtain ⟨cs', hb'⟩ := own_blk h.rown (by simpa using hm)
    exact hb.ne_ hb' (by decide) rfl
  refine ⟨⟨?_, ?_, ?_⟩, hk.nil_mono.trans' k2, ?_⟩
  · rw [List.map_append, List.length_append]
    exact hown
  · intro s hs
    rcases List.mem_append.1 hs with hs | hs
    · exact k2.own (hk.own (h.row s hs) (by simp)) fun k e => by
        simp only [RowL.val, Value.ownBlock, Option.some.injEq] at e
        subst e
        exact hrv s hs
    · simp only [List.mem_singleton] at hs
      subst hs
      refine k2.own hr fun k e hm => ?_
      simp only [RowL.val, Value.ownBlock, Option.some.injEq] at e
      subst e
      have := own_lt h.rown (by simpa using hm)
      omega
  · rw [List.map_append]
    refine List.nodup_append.2 ⟨h.rnd, by simp, fun x hx y hy => ?_⟩
    obtain ⟨s, hs, rfl⟩ := List.mem_map.1 hx
    simp only [List.map_cons, List.map_nil, List.mem_singleton] at hy
    subst hy
    have := own_lt (h.row s hs) (k := s.b) rfl
    omega
  · intro b hb
    unfold gridFoot at hb ⊢
    rw [List.map_append] at hb
    simp only [List.mem_append, Option.mem_toList] at hb ⊢
    have hs := hk.size
    rcases hb with hb | hb | hb
    · rcases hloc with e | e
      · exact .inl (.inl (e ▸ hb))
      · rw [hb] at e
        simp only [Option.some.injEq] at e
        exact .inr (by omega)
    · exact .inl (.inr hb)
    · simp only [List.map_cons, List.map_nil, List.mem_singleton] at hb
      exact .inr (by omega)

set_option maxRecDepth 100000 in
set_option maxHeartbeats 1000000 in
theorem copied_calls {w : World} {F : List Nat} {v : Value} {ls : List (List Int)} (h : GridIs w F v ls) (hn : ls.length ≤ 1024) (hs : ∀ xs ∈ ls, xs.length ≤ 1024) :
    Calls Try.prog 47 #[v] w fun e w' => ∃ rv rows, e = .returned rv ∧ OwnGrid w' rv rows ∧ nowOf rows = ls ∧ Kept [] w w' ∧ ∀ b ∈ gridFoot rv rows, w.heap.size ≤ b := by
  obtain ⟨A, cap, vs, rfl, hr, hvl, hrows⟩ := h
  obtain ⟨i0, hi, hz0, hz1, hz2⟩ := info_parts info2
  obtain ⟨j0, hj, hy0, hy1, hy2⟩ := info_parts info28
  have HR := Lib.hid hr
  have HV := Lib.hid hvl
  have HW := Lib.hid hrows
  have HS := Lib.hid hs
  clear hr hvl hrows hs
  go_enter Try.func47, Try.ntmps47
  go_wp2
  go_loopw [3, 4] (fun o i wr => ∃ (k : Nat) (rows : List RowL), k ≤ ls.length ∧ i = .int .i64 k ∧ OwnGrid wr o rows ∧ nowOf rows = ls.take k ∧ Kept [] w wr ∧ ∀ b ∈ gridFoot o rows, w.heap.size ≤ b) (fun _ i _ => ls.length - (intOf i).toNat)
  case atStart =>
    exact ⟨0, [], Nat.zero_le _, rfl, ⟨World.ownsRow_nil _ _ _ _, by simp, by simp⟩, by simp [nowOf], Kept.refl _ _, by simp [gridFoot, Value.ownBlock]⟩
  case round =>
    obtain ⟨k, rows, hk, rfl, hG, hnow, hK, hfoot⟩ := hrel
    have hlen : rows.length = k := by
      have := congrArg List.length hnow
      simp only [nowOf, List.length_map, List.length_take] at this
      omega
    by_cases hlt : k < ls.length
    · obtain ⟨xs, hx⟩ : ∃ xs, ls[k]? = some xs := ⟨_, List.getElem?_eq_getElem hlt⟩
      obtain ⟨bx, ox, cb, hvk, hB⟩ := HW.out k xs hx
      have hxs := HS.out xs (List.mem_of_getElem? hx)
      obtain ⟨b0, off0, rfl, hb1, hb2, hc⟩ := HR.out.resolve_left (by intro e; rw [e] at hvk; simp at hvk)
      have hck := hK.cell (hc k _ hvk) (by simp)
      have hb3 := Nat.lt_of_lt_of_le hb2 hK.size
      have hcells : ∀ j u, (xs.map numV)[j]? = some u → (wr.alloc (.cells #[] 2)).cell? ((⟨bx, ox, none⟩ : Addr).add j) = some u := by
        intro j u hj
        rcases hB with h0 | ⟨b', off', he, _, _, h5⟩
        · rw [h0] at hj
          simp at hj
        · simp only [Option.some.injEq, Addr.mk.injEq, and_true] at he
          obtain ⟨rfl, rfl⟩ := he
          have h6 := (hK.trans' (Kept.alloc [] wr (.cells #[] 2))).cell (h5 j u hj) (by simp)
          rw [addr_add]
          exact h6
      obtain ⟨R1, c1, rfl⟩ := own_slice hG.rown
      have hrow := hG.rown
      rw [hlen] at hrow
      have hmade := World.ownsRow_made (size := 1) (e := 2) wr #[] 0 (Nat.le_refl wr.heap.size) (by unfold maxLen; omega) (by simp)
      have HM := Lib.hid hmade
      have P1 := Lib.hid hG
      have P2 := Lib.hid hnow
      have P3 := Lib.hid hK
      have P4 := Lib.hid hfoot
      have P5 := Lib.hid hx
      have P6 := Lib.hid hrow
      have P8 := Lib.hid hlen
      have P9 := Lib.hid hcells
      clear hG hnow hK hfoot hx hrow hB hmade hc hvk hcells
      rw [hlen]
      go_wp2_with (first
        | (at_builtin
           refine wpList_append_own_at _ rfl _ _ 28 rfl wr.heap.size 2 i0 (.int .i64 0) 1 8 Try.underlying28 hi hz0 hz1 hz2 rfl (by decide) (.slice (some ⟨wr.heap.size, 0, none⟩) 0 0) 0 [] rfl HM.out ⟨bx, ox, none⟩ xs.length cb (xs.map numV) rfl (by simp) P9.out (by simp [numV, Value.oneCell']) (by unfold maxLen; omega) (by omega) (by simp) ?_
           intro v' w1 hown' hgrow hnil hloc
           simp only [Nat.zero_add, List.nil_append] at hown'
           obtain ⟨g, gc, rfl⟩ : ∃ g gc, v' = .slice (some ⟨g, 0, none⟩) xs.length gc := by
             rcases hown'.2 with ⟨rfl, hx0⟩ | ⟨g, cap, cur, rfl, rest⟩
             · have := hnil.1 rfl
               simp at this
             · exact ⟨g, cap, rfl⟩
           have hk1 : Kept [] wr w1 := ((Kept.alloc [wr.heap.size] wr _).trans' (Kept.grown hgrow (by simp [Value.ownBlock]))).mono (by
             intro b hb hlt
             simp only [List.mem_singleton] at hb
             omega)
           have X1 := Lib.hid hown'
           have X2 := Lib.hid hk1
           have HC := Lib.hid (cell_one_new w1 (.slice (some ⟨g, 0, none⟩) xs.length gc) 28)
           clear hown' hgrow hnil hloc hk1)
        | (at_builtin
           refine wpList_append_own_at _ rfl _ _ 60 rfl 0 28 j0 (.slice none 0 0) 1 24 Try.underlying60 hj hy0 hy1 hy2 rfl (by decide) (.slice R1 k c1) k (rows.map RowL.val) rfl ((X2.out.trans' (Kept.alloc _ _ _)).own P6.out (by simp)) ⟨w1.heap.size, 0, none⟩ 1 1 [.slice (some ⟨g, 0, none⟩) xs.length gc] rfl rfl HC.out (by simp [Value.oneCell']) (by unfold maxLen; omega) (by omega) (Nat.zero_le _) ?_
           intro v2 w2 hown2 hgrow2 hnil2 hloc2
           have Y1 := Lib.hid hown2
           have Y2 := Lib.hid hgrow2
           have Y3 := Lib.hid hloc2
           clear hown2 hgrow2 hnil2 hloc2))
      go_roundw
      case rel =>
        have hA := P1.out.add ⟨g, gc, xs⟩ (X2.out.trans' (Kept.alloc [] w1 (.cells #[.slice (some ⟨g, 0, none⟩) xs.length gc] 28))) (own_base ((Kept.alloc [] w1 _).own X1.out (by simp)) (Nat.zero_le _)) (X1.out.lt g rfl).1 (by rw [P8.out]; exact Y2.out) (by rw [P8.out]; exact Y1.out) (by rw [P8.out]; exact Y3.out)
        obtain ⟨hA1, hA2, hA3⟩ := hA
        refine ⟨k + 1, _, by omega, by go_num, hA1, ?_, ?_, ?_⟩
        · have := P2.out
          simp only [nowOf] at this ⊢
          rw [List.map_append, this, List.take_add_one, P5.out]
          rfl
        · refine P3.out.trans hA2 fun b hb => .inr (P4.out b ?_)
          unfold gridFoot
          exact List.mem_append_left _ hb
        · intro b hb
          rcases hA3 b hb with h | h
          · exact P4.out b h
          · exact Nat.le_trans P3.out.size h
      case measure => simp [intOf]; omega
    · obtain rfl : k = ls.length := by omega
      rw [List.take_length] at hnow
      have P1 := Lib.hid hG
      have P2 := Lib.hid hnow
      have P3 := Lib.hid hK
      have P4 := Lib.hid hfoot
      clear hG hnow hK hfoot hlen
      go_wp2
      go_ret
      exact ⟨_, rows, rfl, P1.out, P2.out, P3.out, P4.out⟩
end Go.Proofs.Ytlfaoibgmbbacaa
