/- The walk of Keep of package cells. -/
import Derived.Test.YtlfaoibgmbbacaaBack
import Derived.Deep.RegionHeld
import Derived.BigRegion
namespace Go.Proofs.Ytlfaoibgmbbacaa
open Go.RowKit
open Go.ChangeMaps (setBlock)

/-- The map below, while the entries of the map above come in: those still to come stand as they stood. -/
def Mixed (m0 m : List ((Nat × Nat) × Int)) (old new : List (List Int)) (left : List ((Nat × Nat) × Int)) : Prop :=
  ∀ p, mget p m = if p ∈ left.map (·.1) then mget p m0 else if look old p = look new p then none else some (look old p)
def keepM (p : Nat × Nat) (v x : Int) (m : List ((Nat × Nat) × Int)) : List ((Nat × Nat) × Int) :=
  match mget p m with
  | none => mput p v m
  | some u => if u = x then mdel p m else m
theorem mixed_step {m0 m : List ((Nat × Nat) × Int)} {old mid new : List (List Int)} {l1 l2 : List ((Nat × Nat) × Int)} {p : Nat × Nat} {v : Int}
    (h : Mixed m0 m old new (l1 ++ (p, v) :: l2)) (hn : ((l1 ++ (p, v) :: l2).map (·.1)).Nodup) (hm : (m.map (·.1)).Nodup) (h0 : IsDiff m0 old mid) (hv : v = look mid p) (hne : look mid p ≠ look new p) :
    Mixed m0 (keepM p v (look new p) m) old new (l1 ++ l2) := by
  intro q
  simp only [List.map_append, List.map_cons] at hn
  have hn1 := List.nodup_append.1 hn
  have hn2 := List.nodup_cons.1 hn1.2.1
  have hp := h p
  rw [if_pos (by simp)] at hp
  by_cases hpq : p = q
  · subst hpq
    have hnot : p ∉ List.map (·.1) (l1 ++ l2) := by
      rw [List.map_append, List.mem_append, not_or]
      exact ⟨fun hm => hn1.2.2 p hm p (by simp) rfl, hn2.1⟩
    rw [if_neg hnot]
    have h0p := h0 p
    unfold keepM
    cases hg : mget p m with
    | none =>
      rw [hg] at hp
      rw [← hp] at h0p
      have e : look old p = look mid p := by
        rcases Classical.em (look old p = look mid p) with e | e
        · exact e
        · rw [if_neg e] at h0p; cases h0p
      simp only
      rw [mget_mput, if_pos rfl, if_neg (by rw [e]; exact hne), hv, e]
    | some u =>
      rw [hg] at hp
      rw [← hp] at h0p
      have e : ¬ look old p = look mid p := fun e => by rw [if_pos e] at h0p; cases h0p
      rw [if_neg e] at h0p
      simp only [Option.some.injEq] at h0p
      subst h0p
      simp only
      by_cases hu : look old p = look new p
      · rw [if_pos hu, if_pos hu, mget_mdel _ _ _ hm, if_pos rfl]
      · rw [if_neg hu, if_neg hu, hg]
  · have hq := h q
    have hiff : (q ∈ List.map (·.1) (l1 ++ (p, v) :: l2)) ↔ (q ∈ List.map (·.1) (l1 ++ l2)) := by
      simp only [List.map_append, List.map_cons, List.mem_append, List.mem_cons]
      have : ¬ q = p := fun e => hpq e.symm
      simp [this]
    simp only [hiff] at hq
    rw [← hq]
    unfold keepM
    cases hg : mget p m with
    | none => simp only; rw [mget_mput, if_neg hpq]
    | some u =>
      simp only
      split
      · rw [mget_mdel _ _ _ hm, if_neg hpq]
      · rfl

theorem keep_none {w : World} {a : Nat} {A : Option Addr} {cap : Nat} (hm : w.cell? ⟨a, 0, none⟩ = some (.bool true)) (h2 : w.cell? ⟨a, 2, none⟩ = some (.slice A 0 cap)) (hal : a < w.heap.size) :
    Calls Try.prog 20 #[.pointer (some ⟨a, 0, none⟩)] w fun e w' => e = .returned (.tuple #[.int .i64 0, .int .i64 213]) ∧ Kept [] w w' := by
  have HP := Lib.hid (pop_none hm h2 hal)
  clear hm h2
  go_enter Try.func20, Try.ntmps20
  go_wp2_with fail
  refine HP.out.mono ?_
  rintro e w1 ⟨rfl, hk1⟩
  have K1 := Lib.hid hk1
  clear hk1
  go_wp2
  go_ret2
  exact ⟨rfl, K1.out.trans' (Kept.alloc _ _ _)⟩

theorem keep_last {w : World} {a : Nat} {rv mv : Value} {rows : List RowL} {t : TopL} (h : MemB w a rv rows mv [t]) :
    ∃ mv', mv'.ownBlock = mv.ownBlock ∧ Calls Try.prog 20 #[.pointer (some ⟨a, 0, none⟩)] w fun e w' => e = .returned (.tuple #[.int .i64 t.m.length, .int .i64 0]) ∧
      MemB w' a rv rows mv' [] ∧ Kept [a] w w' := by
  obtain ⟨mv', hmv', hp⟩ := Pop_calls (ts := []) h
  refine ⟨mv', hmv', ?_⟩
  have HP := Lib.hid hp
  have H2 := Lib.hid hmv'
  clear hp h hmv'
  go_enter Try.func20, Try.ntmps20
  go_wp2_with fail
  refine HP.out.mono ?_
  rintro e w1 ⟨rfl, hk1, hB1, hm1⟩
  have K1 := Lib.hid hk1
  obtain ⟨A, cap, hmv⟩ := own_slice hB1.mown
  have hlen := fun ty => run_len_is (P := Try.prog) Try.underlying76 ((Kept.alloc [] w1 (.cells #[.map (some t.r)] 78)).map hm1 (by simp)) ty
  have hmk := hB1.marks
  rw [hmv] at hmk
  have ha := hB1.blk.lt
  have B1 := Lib.hid hB1
  clear hk1 hB1 hm1 hmv
  go_wp2
  go_ret2
  exact ⟨rfl, B1.out.kept (Kept.alloc [] _ _) (by simp), K1.out.trans' (Kept.alloc _ _ _)⟩

theorem MemB.remap {w w' : World} {a : Nat} {rv mv : Value} {rows : List RowL} {ts : List TopL} {u : TopL} {mn : List ((Nat × Nat) × Int)} (h : MemB w a rv rows mv (ts ++ [u])) (hk : Kept [u.r] w w') (hm : MapIs placeV numV w' u.r mn) :
    MemB w' a rv rows mv (ts ++ [{ u with m := mn }]) := by
  have hu : u ∈ ts ++ [u] := by simp
  refine ⟨hk.blk h.blk (by simpa using (h.top_a hu).symm), hk.own h.rown fun g hg => by simpa using (h.top_rv hu hg).symm, fun r hr => hk.own (h.row r hr) fun g hg => ?_, h.rnd, ?_, ?_, ?_, ?_, h.few, h.short, by simpa using h.low⟩
  · simp only [RowL.val, Value.ownBlock, Option.some.injEq] at hg
    subst hg
    simpa using (h.top_row hr hu).symm
  · have := hk.own h.mown fun g hg => by simpa using (h.top_mv hu hg).symm
    simpa [TopL.val] using this
  · intro t ht
    rcases List.mem_append.1 ht with ht | ht
    · refine hk.map (h.top t (by simp [ht])) ?_
      simp only [List.mem_singleton]
      intro e
      have hnd := h.tnd
      rw [List.map_append] at hnd
      exact (List.nodup_append.1 hnd).2.2 t.r (List.mem_map.2 ⟨t, ht, rfl⟩) u.r (by simp) e
    · simp only [List.mem_singleton] at ht
      subst ht
      exact hm
  · simpa using h.tnd
  · intro t ht
    rcases List.mem_append.1 ht with ht | ht
    · exact h.shape t (by simp [ht])
    · simp only [List.mem_singleton] at ht
      subst ht
      exact h.shape u (by simp)

set_option maxRecDepth 100000 in
set_option maxHeartbeats 1000000 in
theorem keep_one {w : World} {a : Nat} {rv mv : Value} {rows : List RowL} {ts : List TopL} {u t : TopL} (h : MemL w a rv rows mv ((ts ++ [u]) ++ [t])) :
    ∃ mv', mv'.ownBlock = mv.ownBlock ∧ Calls Try.prog 20 #[.pointer (some ⟨a, 0, none⟩)] w fun e w' => e = .returned (.tuple #[.int .i64 t.m.length, .int .i64 0]) ∧
      ∃ m', IsDiff m' u.snap (nowOf rows) ∧ MemB w' a rv rows mv' (ts ++ [{ u with m := m' }]) ∧ Kept [a, u.r] w w' := by
  obtain ⟨mv', hmv', hp⟩ := Pop_calls h.toMemB
  refine ⟨mv', hmv', ?_⟩
  have HP := Lib.hid hp
  have H := Lib.hid h
  have H2 := Lib.hid hmv'
  have hal := h.blk.lt
  clear hp h hmv'
  go_enter Try.func20, Try.ntmps20
  go_wp2_with fail
  refine HP.out.mono ?_
  rintro e w1 ⟨rfl, hk1, hB1, hm1⟩
  have K1 := Lib.hid hk1
  have hmo := hB1.mown
  simp only [List.map_append, List.map_cons, List.map_nil, List.length_append, List.length_cons, List.length_nil, Nat.zero_add] at hmo
  obtain ⟨mb, cap, hmv, hcell, _, hcap, _⟩ := own_cell hmo (k := ts.length) (u := u.val) (by simp)
  have hmb := own_lt hmo (k := mb) (by rw [hmv]; rfl)
  have hmk := hB1.marks
  rw [hmv] at hmk
  simp only [TopL.val] at hcell
  have hlow := hB1.low
  simp only [List.length_append, List.length_cons, List.length_nil, Nat.zero_add] at hlow
  have ha := hB1.blk.lt
  have kA : Kept [] w1 ((w1.alloc (.cells #[.map (some t.r)] 78)).alloc (.cells #[.map (some u.r)] 78)) := (Kept.alloc _ _ _).trans' (Kept.alloc _ _ _)
  obtain ⟨o, hrg, hit⟩ := run_range_is (P := Try.prog) Try.underlying76 (kA.map hm1 (by simp))
  rw [World.size_alloc, World.size_alloc] at hrg hit
  have IT := Lib.hid hit
  have B1 := Lib.hid hB1
  have M1 := Lib.hid hm1
  have KA := Lib.hid kA
  clear hk1 hit hB1 hm1 hmo kA hmv hcap
  go_wp2
  have k0 : Kept [] w1 (((w1.alloc (.cells #[.map (some t.r)] 78)).alloc (.cells #[.map (some u.r)] 78)).alloc o) := KA.out.trans' (Kept.alloc _ _ _)
  have bx : Blk (((w1.alloc (.cells #[.map (some t.r)] 78)).alloc (.cells #[.map (some u.r)] 78)).alloc o) w1.heap.size 78 #[.map (some t.r)] :=
    ((Kept.alloc [] _ _).trans' (Kept.alloc [] _ _)).blk (Blk.new w1 78 _) (by simp)
  have bz : Blk (((w1.alloc (.cells #[.map (some t.r)] 78)).alloc (.cells #[.map (some u.r)] 78)).alloc o) (w1.heap.size + 1) 78 #[.map (some u.r)] := by
    have := (Kept.alloc [] _ o).blk (Blk.new (w1.alloc (.cells #[.map (some t.r)] 78)) 78 #[.map (some u.r)]) (by simp)
    rw [World.size_alloc] at this
    exact this
  have hsz : (((w1.alloc (.cells #[.map (some t.r)] 78)).alloc (.cells #[.map (some u.r)] 78)).alloc o).heap.size = w1.heap.size + 3 := by simp
  have it0 := IT.out
  generalize hW0 : (((w1.alloc (.cells #[.map (some t.r)] 78)).alloc (.cells #[.map (some u.r)] 78)).alloc o) = W0 at k0 bx bz hsz it0 ⊢
  have b0 := B1.out.kept k0 (by simp)
  have K0 := Lib.hid k0
  have SZ := Lib.hid hsz
  have BX := Lib.hid bx
  have BZ := Lib.hid bz
  have IT0 := Lib.hid it0
  have B0 := Lib.hid b0
  clear hrg IT hW0 k0 bx bz hsz it0 b0 hmb hmk hcell ha
  go_loopw [39] (fun _ wr => ∃ m' left, MemB wr a rv rows mv' (ts ++ [{ u with m := m' }]) ∧ IterIs placeV numV wr (w1.heap.size + 1 + 1) t.r t.m left ∧
      Mixed u.m m' u.snap (nowOf rows) left ∧ left.Sublist t.m ∧ Kept [w1.heap.size + 1 + 1, u.r] W0 wr ∧ wr.cell? ⟨w1.heap.size, 0, none⟩ = some (.map (some t.r)) ∧ wr.cell? ⟨w1.heap.size + 1, 0, none⟩ = some (.map (some u.r)))
    (fun _ wr => iterLeft wr (w1.heap.size + 1 + 1))
  case atStart =>
    refine ⟨u.m, t.m, B0.out, IT0.out, ?_, List.Sublist.refl _, Kept.refl _ _, BX.out.cell 0, BZ.out.cell 0⟩
    intro p
    split
    · rfl
    · rename_i hp
      have hch := (chain_snoc _ _ _).1 H.out.chain
      have hc2 := (chain_snoc _ _ _).1 hch.1
      have := hch.2 p
      rw [mget_none.2 hp] at this
      have e : look t.snap p = look (nowOf rows) p := by
        rcases Classical.em (look t.snap p = look (nowOf rows) p) with e | e
        · exact e
        · rw [if_neg e] at this; cases this
      rw [← e]
      exact hc2.2 p
  case round =>
    obtain ⟨m', left, hB, hI, hH, hS, hK, hx, hz⟩ := hrel
    have hmap := hI.map
    have hlen := fun ty => run_len_is (P := Try.prog) Try.underlying76 hmap ty
    rcases run_next_is (P := Try.prog) hI 0 with ⟨hnil, hrun⟩ | ⟨p, v, l1, l2, o1, w2, hleft, hw2, hrun, hit2, hent⟩
    · subst hnil
      have BB := Lib.hid hB
      have HH := Lib.hid hH
      have KK := Lib.hid hK
      clear hB hH hK hI hmap hS
      go_wp2
      go_ret2
      refine ⟨rfl, m', ?_, BB.out, ?_⟩
      · intro p
        have := HH.out p
        simpa using this
      · refine (K1.out.mono ?_).trans ((K0.out.nil_mono).trans' KK.out) ?_
        · intro b hb _
          simp only [List.mem_singleton] at hb
          simp [hb]
        · intro b hb
          have := K1.out.size
          rcases List.mem_cons.1 hb with rfl | hb
          · exact .inr (by omega)
          · exact .inl (List.mem_cons_of_mem _ hb)
    · obtain ⟨k, j⟩ := p
      have hkey : (k, j) ∈ t.m.map (·.1) := (hS.map (·.1)).subset (by rw [hleft]; simp)
      have hch := ((chain_snoc _ _ _).1 H.out.chain)
      obtain ⟨hg, xs, hxs, hj⟩ := isDiff_in hch.2 (H.out.shape t (by simp)) hkey
      have hne : look t.snap (k, j) ≠ look (nowOf rows) (k, j) := by
        intro e
        have := hch.2 (k, j)
        rw [if_pos e, hg] at this
        cases this
      have hv : v = look t.snap (k, j) := by
        have := mget_mem hmap.nodup (hS.subset (by rw [hleft]; simp : ((k, j), v) ∈ left))
        rw [hg] at this
        simpa using this.symm
      obtain ⟨r', hr', hxe⟩ : ∃ r', rows[k]? = some r' ∧ r'.xs = xs := by
        rw [nowOf_get] at hxs
        exact Option.map_eq_some_iff.1 hxs
      have hj' : j < r'.xs.length := by rw [hxe]; exact hj
      have hlook : look (nowOf rows) (k, j) = r'.xs[j] := by simp [look, nowOf_get, hr', hj']
      have hkW : Kept [w1.heap.size + 1 + 1] wr (setBlock w2 (w1.heap.size + 1 + 1) o1) := by
        rcases hw2 with rfl | rfl
        · exact Kept.setBlock (by simp) _ _
        · exact (Kept.drew _ _).trans' (Kept.setBlock (by simp) _ _)
      have hitr := hI.ne_
      have hitl := hI.lt
      have he := hent (setBlock w2 (w1.heap.size + 1 + 1) o1) (hkW.block _ hmap.lt (by simpa using fun e => hitr e.symm)) (by
        rcases hw2 with rfl | rfl <;> simp [Go.ChangeMaps.setBlock, hitl])
      have hB2 := hB.kept hkW (fun b hb => by
        simp only [List.mem_singleton]
        rintro rfl
        exact hB.iter hI hb)
      have hx2 := hkW.cell hx (by simp; omega)
      have hz2 := hkW.cell hz (by simp)
      simp only [placeV, numV] at hrun he
      generalize hW2 : setBlock w2 (w1.heap.size + 1 + 1) o1 = W2 at *
      obtain ⟨g, cap1, hrv, hgc⟩ := hB2.rowAt hr'
      have hcells := hB2.cells
      rw [hrv] at hcells
      have hmem := List.mem_of_getElem? hr'
      obtain ⟨hc, hf⟩ := hB2.cellAt hmem (List.getElem?_eq_getElem hj')
      have ha2 := hB2.blk.lt
      have hg2 : g < W2.heap.size := own_lt hB2.rown (by rw [hrv]; rfl)
      have hb2 : r'.b < W2.heap.size := own_lt (hB2.row r' hmem) rfl
      have hk' := (List.getElem?_eq_some_iff.1 hr').1
      have hfew := hB2.few
      have hsh := hB2.short r' hmem
      have hxl : w1.heap.size < W2.heap.size := World.block_lt_of_cell? _ _ hx2
      have hzl : w1.heap.size + 1 < W2.heap.size := World.block_lt_of_cell? _ _ hz2
      simp only [RowL.val] at hgc
      have hmu := hB2.top { u with m := m' } (by simp)
      have kP : Kept [] W2 (W2.alloc (.cells #[.int .i64 ((k : Int) + 1), .int .i64 (j : Int)] 73)) := Kept.alloc _ _ _
      have hmu2 := kP.map hmu (by simp)
      simp only at hmu2
      have hnd := hmu.nodup
      have HQ : Hid (Mixed u.m (keepM (k, j) v r'.xs[j] m') u.snap (nowOf rows) (l1 ++ l2)) := by
        have hh := hH
        rw [hleft] at hh
        have := mixed_step hh (by rw [← hleft]; exact hmap.nodup.sublist (hS.map _)) hnd ((chain_snoc _ _ _).1 hch.1).2 hv hne
        rw [hlook] at this
        exact this
      have P1 := Lib.hid hB2
      have P4 := Lib.hid hH
      have P5 := Lib.hid hK
      have P6 := Lib.hid hI
      have P7 := Lib.hid hS
      have P8 := Lib.hid hleft
      have P10 := Lib.hid hkW
      have P11 := Lib.hid hit2
      have P13 := Lib.hid hmu2
      have P14 := Lib.hid kP
      have HE : Hid (∀ (W3 : World) (mn : List ((Nat × Nat) × Int)), Kept [u.r] W2 W3 → MapIs placeV numV W3 u.r mn → mn = keepM (k, j) v r'.xs[j] m' →
          (∃ m' left, MemB W3 a rv rows mv' (ts ++ [{ u with m := m' }]) ∧ IterIs placeV numV W3 (w1.heap.size + 1 + 1) t.r t.m left ∧
            Mixed u.m m' u.snap (nowOf rows) left ∧ left.Sublist t.m ∧ Kept [w1.heap.size + 1 + 1, u.r] W0 W3 ∧ W3.cell? ⟨w1.heap.size, 0, none⟩ = some (.map (some t.r)) ∧ W3.cell? ⟨w1.heap.size + 1, 0, none⟩ = some (.map (some u.r))) ∧
          iterLeft W3 (w1.heap.size + 1 + 1) < iterLeft wr (w1.heap.size + 1 + 1)) := by
        intro W3 mn hk3 hm3 hmn
        have hul := (B1.out.top u (by simp)).lt
        have hut : t.r ≠ u.r := by
          intro e
          have hnd2 := H.out.tnd
          rw [List.map_append] at hnd2
          exact (List.nodup_append.1 hnd2).2.2 u.r (by simp) t.r (by simp) e.symm
        have hI3 := hk3.iter hit2 (by simp; omega) (by simpa using hut)
        refine ⟨⟨mn, l1 ++ l2, P1.out.remap hk3 hm3, hI3, by rw [hmn]; exact HQ.out, ?_, ?_, hk3.cell hx2 (by simp; omega), hk3.cell hz2 (by simp; omega)⟩, ?_⟩
        · rw [hleft] at hS
          exact ((List.sublist_cons_self _ _).append_left l1).trans hS
        · refine (hK.trans' (hkW.mono (by simp))).trans' (hk3.mono ?_)
          intro b hb _
          simp only [List.mem_singleton] at hb
          simp [hb]
        · rw [hI3.left, hI.left, hleft]
          simp only [List.length_append, List.length_cons]
          omega
      clear hB2 hB hH hK hI hS hleft hv hkW hit2 hW2 hw2 hg hxs hch hkey hmap hlen hitr hent hrv hlook hne hxe hmu hmu2 kP hnd
      cases hgu : mget (k, j) m' with
      | none =>
        have hlk := run_lookup_ok place_keys Try.underlying76 P13.out (k, j) (.int .i64 0) Try.zeroValue2
        rw [hgu] at hlk
        simp only [placeV, Option.map_none, Option.getD_none, Option.isSome_none] at hlk
        obtain ⟨o2, hup, hM⟩ := run_update place_keys Try.underlying76 P13.out (k, j) v
        simp only [placeV, numV] at hup
        have HM := Lib.hid hM
        have HKM : Hid (mput (k, j) v m' = keepM (k, j) v r'.xs[j] m') := Lib.hid (by simp [keepM, hgu])
        clear hM hgu
        go_wp2
        have hfin := HE.out _ _ (P14.out.nil_mono.trans' (Kept.setBlock (by simp) _ _)) HM.out HKM.out
        go_roundw
        case rel => exact hfin.1
        case measure => exact hfin.2
      | some x0 =>
        have hlk := run_lookup_ok place_keys Try.underlying76 P13.out (k, j) (.int .i64 0) Try.zeroValue2
        rw [hgu] at hlk
        simp only [placeV, numV, Option.map_some, Option.getD_some, Option.isSome_some] at hlk
        by_cases hx0 : x0 = r'.xs[j]
        · have hx1 : (x0 == r'.xs[j]) = true := by simp [hx0]
          have kD : Kept [] W2 (W2.alloc (.cells #[.int .i64 ((k : Int) + 1), .int .i64 (j : Int)] 73)).drew := P14.out.trans' (Kept.drew _ _)
          obtain ⟨o2, hup, hM⟩ := run_delete place_keys Try.underlying76 ((Kept.drew [] _).map P13.out (by simp)) (k, j) 0
          simp only [placeV] at hup
          have HM := Lib.hid hM
          have HKD := Lib.hid kD
          have HKM : Hid (mdel (k, j) m' = keepM (k, j) v r'.xs[j] m') := Lib.hid (by simp [keepM, hgu, hx0])
          clear hM hgu hx0 kD
          go_wp2
          go_region
          go_wp2
          have hfin := HE.out _ _ (HKD.out.nil_mono.trans' (Kept.setBlock (by simp) _ _)) HM.out HKM.out
          go_roundw
          case rel => exact hfin.1
          case measure => exact hfin.2
        · have hx1 : (x0 == r'.xs[j]) = false := by simp [hx0]
          have HKD : Hid (Kept [] W2 (W2.alloc (.cells #[.int .i64 ((k : Int) + 1), .int .i64 (j : Int)] 73)).drew) := P14.out.trans' (Kept.drew _ _)
          have HKM : Hid (m' = keepM (k, j) v r'.xs[j] m') := Lib.hid (by simp [keepM, hgu, hx0])
          clear hgu hx0
          go_wp2
          go_region
          go_wp2
          have hfin := HE.out _ _ HKD.out.nil_mono ((Kept.drew [] _).map P13.out (by simp)) HKM.out
          go_roundw
          case rel => exact hfin.1
          case measure => exact hfin.2

def CM.keep (c : CM) : CM := { c with marks := c.marks.dropLast }

theorem Keep_calls {w : World} {a : Nat} {F : List Nat} {c : CM} (h : IsMem w a c F) :
    Calls Try.prog 20 #[.pointer (some ⟨a, 0, none⟩)] w fun e w' => e = .returned (.tuple #[.int .i64 c.popRes.1, .int .i64 c.popRes.2]) ∧ Turns w w' a F c.keep := by
  have h0 := h
  obtain ⟨rv, rows, mv, tops, h, h2, h3, rfl⟩ := h
  rcases List.eq_nil_or_concat tops with rfl | ⟨ts, t, rfl⟩
  · have hn : c.marks = [] := by rw [← h3]; rfl
    obtain ⟨A, cap, hmv⟩ := own_slice h.mown
    have hmk := h.marks
    rw [hmv] at hmk
    have hkeep : c.keep = c := by
      unfold CM.keep
      cases c
      simp_all
    rw [hkeep]
    unfold CM.popRes
    rw [hn]
    refine (keep_none h.made hmk h.blk.lt).mono ?_
    rintro e w' ⟨rfl, hk⟩
    refine ⟨rfl, _, h0.keptNil hk, hk.nil_mono, fun b hb => .inl hb⟩
  · simp only [List.concat_eq_append] at h h3 h0 ⊢
    have hn : c.marks = snapsOf ts ++ [t.snap] := by rw [← h3]; simp [snapsOf]
    have hl : c.marks.getLast? = some t.snap := by rw [hn]; simp
    have hd : c.marks.dropLast = snapsOf ts := by rw [hn]; simp
    unfold CM.popRes CM.keep
    rw [hl]
    have hch := (chain_snoc _ _ _).1 h.chain
    have hcount := isDiff_count hch.2 (h.shape t (by simp)) (h.top t (by simp)).nodup
    rw [h2] at hcount
    rcases List.eq_nil_or_concat ts with rfl | ⟨ts, u, rfl⟩
    · obtain ⟨mv', hmv', hb⟩ := keep_last h.toMemB
      refine hb.mono ?_
      rintro e w' ⟨rfl, hB, hk⟩
      refine ⟨by rw [hcount], _, ⟨rv, rows, mv', [], ⟨hB, by simp [Chain]⟩, h2, hd.symm, rfl⟩, hk.mono ?_, fun b hb => .inl (foot_less hmv' rfl b hb)⟩
      intro b hb _
      simp only [List.mem_singleton] at hb
      rw [hb]
      exact mem_foot.2 (.inl rfl)
    · simp only [List.concat_eq_append] at h h3 h0 hd hch ⊢
      obtain ⟨mv', hmv', hb⟩ := keep_one h
      refine hb.mono ?_
      rintro e w' ⟨rfl, m', hdm, hB, hk⟩
      have hc2 := (chain_snoc _ _ _).1 hch.1
      refine ⟨by rw [hcount], _, ⟨rv, rows, mv', _, ⟨hB, ?_⟩, h2, ?_, rfl⟩, hk.mono ?_, fun b hb => ?_⟩
      · rw [chain_snoc]
        exact ⟨hc2.1, hdm⟩
      · rw [hd]
        simp [snapsOf]
      · intro b hb _
        simp only [List.mem_cons, List.not_mem_nil, or_false] at hb
        rcases hb with rfl | rfl
        · exact mem_foot.2 (.inl rfl)
        · exact mem_foot.2 (.inr (.inr (.inr (.inr ⟨u, by simp, rfl⟩))))
      · refine .inl (foot_less hmv' rfl b ?_)
        unfold foot at hb ⊢
        simpa using hb
end Go.Proofs.Ytlfaoibgmbbacaa
