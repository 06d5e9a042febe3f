/- The walk of Back of package cells. -/
import Derived.Test.YtlfaoibgmbbacaaPop
import Derived.Deep.RegionHeld
import Derived.BigRegion
namespace Go.Proofs.Ytlfaoibgmbbacaa
open Go.RowKit
open Go.ChangeMaps (setBlock)

/-- Half of a mark's values have been given back: those whose places are still to come are as they were. -/
def Half (now snap cur : List (List Int)) (left : List ((Nat × Nat) × Int)) : Prop :=
  ∀ p, look cur p = if p ∈ left.map (·.1) then look now p else look snap p


theorem isDiff_in {m : List ((Nat × Nat) × Int)} {old new : List (List Int)} (h : IsDiff m old new) (hs : lens old = lens new) {p : Nat × Nat} (hp : p ∈ m.map (·.1)) :
    mget p m = some (look old p) ∧ ∃ xs, new[p.1]? = some xs ∧ p.2 < xs.length := by
  have hg : mget p m ≠ none := fun e => (mget_none.1 e) hp
  have h0 := h p
  have hne : ¬ look old p = look new p := fun e => by rw [if_pos e] at h0; exact hg h0
  rw [if_neg hne] at h0
  refine ⟨h0, ?_⟩
  cases hx : new[p.1]? with
  | none =>
    exfalso
    have ho : old[p.1]? = none := by
      have := congrArg (fun l => l[p.1]?) hs
      simp only [lens, List.getElem?_map, hx, Option.map_none] at this
      simpa using this
    apply hne
    simp [look, hx, ho]
  | some xs =>
    refine ⟨xs, rfl, ?_⟩
    rcases Nat.lt_or_ge p.2 xs.length with hlt | hge
    · exact hlt
    · exfalso
      have := congrArg (fun l => l[p.1]?) hs
      simp only [lens, List.getElem?_map, hx, Option.map_some] at this
      obtain ⟨ys, hy, hl⟩ := Option.map_eq_some_iff.1 this
      apply hne
      simp [look, hx, hy, List.getElem?_eq_none hge, List.getElem?_eq_none (hl ▸ hge)]

theorem look_ext {l l' : List (List Int)} (hs : lens l = lens l') (h : ∀ p, look l p = look l' p) : l = l' := by
  have hlen : l.length = l'.length := by have := congrArg List.length hs; simpa [lens] using this
  apply List.ext_getElem hlen
  intro i h1 h2
  have hl : l[i].length = l'[i].length := by
    have := congrArg (fun x => x[i]?) hs
    simpa [lens, h1, h2] using this
  apply List.ext_getElem hl
  intro j h3 h4
  have := h (i, j)
  simpa [look, h1, h2, h3, h4] using this

theorem mget_mem {K V : Type} [DecidableEq K] {m : List (K × V)} (hn : (m.map (·.1)).Nodup) {k : K} {v : V} (h : (k, v) ∈ m) : mget k m = some v := by
  induction m with
  | nil => cases h
  | cons p m ih =>
    simp only [List.map_cons, List.nodup_cons] at hn
    unfold mget
    rcases List.mem_cons.1 h with rfl | h
    · rw [if_pos rfl]
    · have : ¬ p.1 = k := fun e => hn.1 (e ▸ List.mem_map.2 ⟨_, h, rfl⟩)
      rw [if_neg this]
      exact ih hn.2 h

theorem half_step {now snap cur : List (List Int)} {l1 l2 : List ((Nat × Nat) × Int)} {p : Nat × Nat} {v : Int} (h : Half now snap cur (l1 ++ (p, v) :: l2)) (hn : ((l1 ++ (p, v) :: l2).map (·.1)).Nodup)
    (hv : v = look snap p) (hp : ∃ xs, cur[p.1]? = some xs ∧ p.2 < xs.length) : Half now snap (put cur p v) (l1 ++ l2) := by
  intro q
  rw [look_put _ _ _ _ hp, h q]
  simp only [List.map_append, List.map_cons] at hn ⊢
  have hn1 := List.nodup_append.1 hn
  have hn2 := List.nodup_cons.1 hn1.2.1
  by_cases hpq : p = q
  · subst hpq
    have : p ∉ List.map (·.1) l1 ++ List.map (·.1) l2 := by
      rw [List.mem_append, not_or]
      exact ⟨fun hm => hn1.2.2 p hm p (by simp) rfl, hn2.1⟩
    rw [if_pos rfl, if_neg this, hv]
  · rw [if_neg hpq]
    have : (q ∈ List.map (·.1) l1 ++ p :: List.map (·.1) l2) ↔ (q ∈ List.map (·.1) l1 ++ List.map (·.1) l2) := by
      simp only [List.mem_append, List.mem_cons]
      have : ¬ q = p := fun e => hpq e.symm
      simp [this]
    simp only [this]
theorem MemB.iter {w : World} {a : Nat} {rv mv : Value} {rows : List RowL} {ts : List TopL} (h : MemB w a rv rows mv ts) {it r : Nat} {m left : List ((Nat × Nat) × Int)} (hi : IterIs placeV numV w it r m left) :
    it ∉ foot a rv rows mv ts := by
  rw [mem_foot]
  rintro (e | e | e | ⟨u, hu, e⟩ | ⟨u, hu, e⟩)
  · exact hi.not_blk h.blk e
  · obtain ⟨cs, hcs⟩ := own_blk h.rown e
    exact hi.not_blk hcs rfl
  · obtain ⟨cs, hcs⟩ := own_blk h.mown e
    exact hi.not_blk hcs rfl
  · obtain ⟨cs, hcs⟩ := own_blk (h.row u hu) (k := u.b) rfl
    exact hi.not_blk hcs e.symm
  · exact hi.not_map (h.top u hu) e.symm

set_option maxRecDepth 100000 in
set_option maxHeartbeats 1000000 in
theorem back_one {w : World} {a : Nat} {rv mv : Value} {rows : List RowL} {ts : List TopL} {t : TopL} (h : MemL w a rv rows mv (ts ++ [t])) :
    ∃ mv', mv'.ownBlock = mv.ownBlock ∧ Calls Try.prog 17 #[.pointer (some ⟨a, 0, none⟩)] w fun e w' => e = .returned (.tuple #[.int .i64 t.m.length, .int .i64 0]) ∧
      ∃ rows', rows'.map RowL.b = rows.map RowL.b ∧ nowOf rows' = t.snap ∧ MemB w' a rv rows' mv' ts ∧ Kept (a :: rows.map RowL.b) w w' := by
  obtain ⟨mv', hmv', hp⟩ := Pop_calls h.toMemB
  refine ⟨mv', hmv', ?_⟩
  have HP := Lib.hid hp
  have H := Lib.hid h
  have H2 := Lib.hid hmv'
  have hal := h.blk.lt
  clear hp h hmv'
  go_enter Try.func17, Try.ntmps17
  go_wp2_with fail
  refine HP.out.mono ?_
  rintro e w1 ⟨rfl, hk1, hB1, hm1⟩
  have K1 := Lib.hid hk1
  obtain ⟨o, hrg, hit⟩ := run_range_is (P := Try.prog) Try.underlying76 ((Kept.alloc [] w1 (.cells #[.map (some t.r)] 78)).map hm1 (by simp))
  rw [World.size_alloc] at hrg hit
  have hlen := run_len_is (P := Try.prog) Try.underlying76 hm1 0
  have IT := Lib.hid hit
  have B1 := Lib.hid hB1
  have M1 := Lib.hid hm1
  clear hk1 hit hB1 hm1 hlen
  go_wp2
  have k0 : Kept [] w1 ((w1.alloc (.cells #[.map (some t.r)] 78)).alloc o) := (Kept.alloc _ _ _).trans' (Kept.alloc _ _ _)
  have bx : Blk ((w1.alloc (.cells #[.map (some t.r)] 78)).alloc o) w1.heap.size 78 #[.map (some t.r)] := (Kept.alloc [] _ _).blk (Blk.new w1 78 _) (by simp)
  have hsz : ((w1.alloc (.cells #[.map (some t.r)] 78)).alloc o).heap.size = w1.heap.size + 2 := by simp
  have it0 := IT.out
  generalize hW0 : (w1.alloc (.cells #[.map (some t.r)] 78)).alloc o = W0 at k0 bx hsz it0 ⊢
  have b0 := B1.out.kept k0 (by simp)
  have K0 := Lib.hid k0
  have SZ := Lib.hid hsz
  have BX := Lib.hid bx
  have IT0 := Lib.hid it0
  have B0 := Lib.hid b0
  clear hrg IT hW0 k0 bx hsz it0 b0
  go_loopw [20] (fun _ wr => ∃ rows' left, rows'.map RowL.b = rows.map RowL.b ∧ lens (nowOf rows') = lens (nowOf rows) ∧ MemB wr a rv rows' mv' ts ∧ IterIs placeV numV wr (w1.heap.size + 1) t.r t.m left ∧
      Half (nowOf rows) t.snap (nowOf rows') left ∧ left.Sublist t.m ∧ Kept ((w1.heap.size + 1) :: rows.map RowL.b) W0 wr ∧ wr.cell? ⟨w1.heap.size, 0, none⟩ = some (.map (some t.r)))
    (fun _ wr => iterLeft wr (w1.heap.size + 1))
  case atStart =>
    refine ⟨rows, t.m, rfl, rfl, B0.out, IT0.out, ?_, List.Sublist.refl _, Kept.refl _ _, BX.out.cell 0⟩
    intro p
    split
    · rfl
    · rename_i hp
      have hch := (chain_snoc _ _ _).1 H.out.chain
      have := hch.2 p
      rw [mget_none.2 hp] at this
      by_cases e : look t.snap p = look (nowOf rows) p
      · exact e.symm
      · rw [if_neg e] at this; cases this
  case round =>
    obtain ⟨rows', left, hbs, hls, hB, hI, hH, hS, hK, hx⟩ := hrel
    have hmap := hI.map
    have hlen := fun ty => run_len_is (P := Try.prog) Try.underlying76 hmap ty
    rcases run_next_is (P := Try.prog) hI 0 with ⟨hnil, hrun⟩ | ⟨p, v, l1, l2, o1, w2, hleft, hw2, hrun, hit2, hent⟩
    · subst hnil
      have BB := Lib.hid hB
      have BS := Lib.hid hbs
      have LS := Lib.hid hls
      have HH := Lib.hid hH
      have KK := Lib.hid hK
      clear hB hbs hls hH hK hI hmap hS
      go_wp2
      go_ret2
      refine ⟨rfl, rows', BS.out, ?_, BB.out, ?_⟩
      · refine look_ext (LS.out.trans (H.out.shape t (by simp)).symm) fun p => ?_
        rw [HH.out p]
        simp
      · refine (K1.out.mono ?_).trans ((K0.out.nil_mono).trans' KK.out) ?_
        · intro b hb _
          simp only [List.mem_singleton] at hb
          simp [hb]
        · intro b hb
          have := K1.out.size
          have := SZ.out
          rcases List.mem_cons.1 hb with rfl | hb
          · exact .inr (by omega)
          · exact .inl (by simp only [List.mem_cons]; exact .inr hb)
    · obtain ⟨k, j⟩ := p
      have hkey : (k, j) ∈ t.m.map (·.1) := (hS.map (·.1)).subset (by rw [hleft]; simp)
      have hch := ((chain_snoc _ _ _).1 H.out.chain).2
      obtain ⟨hg, xs, hxs, hj⟩ := isDiff_in hch (H.out.shape t (by simp)) hkey
      have hv : v = look t.snap (k, j) := by
        have := mget_mem hmap.nodup (hS.subset (by rw [hleft]; simp : ((k, j), v) ∈ left))
        rw [hg] at this
        simpa using this.symm
      obtain ⟨r', hr', hj'⟩ : ∃ r', rows'[k]? = some r' ∧ j < r'.xs.length := by
        have := congrArg (fun l => l[k]?) hls
        simp only [lens, List.getElem?_map, hxs, Option.map_some, nowOf_get] at this
        obtain ⟨x, hx1, hx2⟩ := Option.map_eq_some_iff.1 this
        obtain ⟨r', h1, rfl⟩ := Option.map_eq_some_iff.1 hx1
        exact ⟨r', h1, by omega⟩
      have hkW : Kept [w1.heap.size + 1] wr (setBlock w2 (w1.heap.size + 1) o1) := by
        rcases hw2 with rfl | rfl
        · exact Kept.setBlock (by simp) _ _
        · exact (Kept.drew _ _).trans' (Kept.setBlock (by simp) _ _)
      have hitr := hI.ne_
      have hitl := hI.lt
      have he := hent (setBlock w2 (w1.heap.size + 1) o1) (hkW.block _ hmap.lt (by simpa using fun e => hitr e.symm)) (by
        rcases hw2 with rfl | rfl <;> simp [Go.ChangeMaps.setBlock, hitl])
      have hB2 := hB.kept hkW (fun b hb => by
        simp only [List.mem_singleton]
        rintro rfl
        exact hB.iter hI hb)
      have hx2 := hkW.cell hx (by simp)
      simp only [placeV, numV] at hrun he
      generalize hW2 : setBlock w2 (w1.heap.size + 1) o1 = W2 at *
      obtain ⟨g, cap, hrv, hgc⟩ := hB2.rowAt hr'
      have hcells := hB2.cells
      have hrvw := hrv
      rw [hrv] at hcells
      have hmem := List.mem_of_getElem? hr'
      obtain ⟨hc, hf⟩ := hB2.cellAt hmem (List.getElem?_eq_getElem hj')
      have ha2 := hB2.blk.lt
      have hg2 : g < W2.heap.size := own_lt hB2.rown (by rw [hrv]; rfl)
      have hb2 : r'.b < W2.heap.size := own_lt (hB2.row r' hmem) rfl
      have hk' := (List.getElem?_eq_some_iff.1 hr').1
      have hfew := hB2.few
      have hsh := hB2.short r' hmem
      have hxl := hx2
      simp only [RowL.val] at hgc
      have P1 := Lib.hid hB2
      have P2 := Lib.hid hbs
      have P3 := Lib.hid hls
      have P4 := Lib.hid hH
      have P5 := Lib.hid hK
      have P6 := Lib.hid hI
      have P7 := Lib.hid hS
      have P8 := Lib.hid hleft
      have P9 := Lib.hid hv
      have P10 := Lib.hid hkW
      have P11 := Lib.hid hit2
      have P12 := Lib.hid hr'
      clear hB2 hB hbs hls hH hK hI hS hleft hv hkW hit2 hr' hW2 hw2 hg hxs hch hkey hmap hlen hitr hent hrv hrvw hxl
      go_wp2
      go_region
      go_wp2
      have kA : Kept [] (W2.setCell ⟨r'.b, j, none⟩ (numV v)) (((W2.setCell ⟨r'.b, j, none⟩ (numV v)).alloc (.cells #[.int .i64 ((k : Int) + 1), .int .i64 (j : Int)] 73)).drew) :=
        (Kept.alloc _ _ _).trans' (Kept.drew _ _)
      have kB : Kept [r'.b] W2 (((W2.setCell ⟨r'.b, j, none⟩ (numV v)).alloc (.cells #[.int .i64 ((k : Int) + 1), .int .i64 (j : Int)] 73)).drew) :=
        (Kept.setCell (by simp) _ _).trans' kA.nil_mono
      have hmem := List.mem_of_getElem? P12.out
      obtain ⟨cs, hcs⟩ := own_blk (P1.out.row r' hmem) (k := r'.b) rfl
      have hI3 := kB.iter P11.out (by simpa using P11.out.not_blk hcs) (by simpa using P11.out.map.not_blk hcs)
      go_roundw
      case rel =>
        have hbk : r'.b ∈ rows.map RowL.b := by rw [← P2.out]; exact List.mem_map.2 ⟨r', hmem, rfl⟩
        refine ⟨rows'.set k (r'.set j v), l1 ++ l2, ?_, ?_, ?_, hI3, ?_, ?_, ?_, ?_⟩
        · rw [map_set_same RowL.b (y := r'.set j v) P12.out rfl]
          exact P2.out
        · rw [nowOf_set P12.out, lens_put]
          exact P3.out
        · refine P1.out.stored P12.out v kA (by simp) rfl rfl fun u hu => kB.map (P1.out.top u hu) ?_
          simpa using P1.out.top_row hmem hu
        · rw [nowOf_set P12.out]
          have hh := P4.out
          rw [P8.out] at hh
          refine half_step hh ?_ P9.out ⟨r'.xs, by rw [nowOf_get, P12.out]; rfl, hj'⟩
          rw [← P8.out]
          exact P6.out.map.nodup.sublist (P7.out.map _)
        · have := P7.out
          rw [P8.out] at this
          exact ((List.sublist_cons_self _ _).append_left l1).trans this
        · refine (P5.out.trans' (P10.out.mono (by simp))).trans' (kB.mono ?_)
          intro b hb _
          simp only [List.mem_singleton] at hb
          rw [hb]
          exact List.mem_cons_of_mem _ hbk
        · refine kB.cell hx2 ?_
          simp only [List.mem_singleton]
          rintro hbb
          obtain ⟨r0, hr0, e0⟩ := List.mem_map.1 hbk
          have := own_lt (B1.out.row r0 hr0) (k := r0.b) rfl
          omega
      case measure =>
        have e1 := hI3.left
        have e2 := P6.out.left
        rw [P8.out] at e2
        simp only [List.length_append, List.length_cons] at e1 e2
        simp only [numV] at e1
        rw [e1, e2]
        omega

/-! ### how many cells have other values -/
def spots (ls : List Nat) : List (Nat × Nat) := (List.range ls.length).flatMap fun i => (List.range (ls[i]?.getD 0)).map fun j => (i, j)
def others (old new : List (List Int)) : List (Nat × Nat) := (spots (lens new)).filter fun p => decide (look old p ≠ look new p)

theorem mem_spots {ls : List Nat} {p : Nat × Nat} : p ∈ spots ls ↔ ∃ n, ls[p.1]? = some n ∧ p.2 < n := by
  obtain ⟨i, j⟩ := p
  simp only [spots, List.mem_flatMap, List.mem_range, List.mem_map, Prod.mk.injEq]
  constructor
  · rintro ⟨i', hi, j', hj, rfl, rfl⟩
    refine ⟨ls[i'], List.getElem?_eq_getElem hi, ?_⟩
    simpa [hi] using hj
  · rintro ⟨n, h1, h2⟩
    exact ⟨i, (List.getElem?_eq_some_iff.1 h1).1, j, by rw [h1]; exact h2, rfl, rfl⟩
theorem nodup_flat {α β : Type} (l : List α) (f : α → List β) (hl : l.Nodup) (hf : ∀ a ∈ l, (f a).Nodup) (hd : ∀ a ∈ l, ∀ b ∈ l, a ≠ b → ∀ x ∈ f a, x ∉ f b) : (l.flatMap f).Nodup := by
  induction l with
  | nil => simp
  | cons a l ih =>
    rw [List.flatMap_cons]
    have hl' := List.nodup_cons.1 hl
    refine List.nodup_append.2 ⟨hf a (by simp), ih hl'.2 (fun b hb => hf b (by simp [hb])) (fun b hb c hc => hd b (by simp [hb]) c (by simp [hc])), ?_⟩
    rintro x hx y hy rfl
    obtain ⟨b, hb, hyb⟩ := List.mem_flatMap.1 hy
    exact hd a (by simp) b (by simp [hb]) (fun e => hl'.1 (e ▸ hb)) x hx hyb
theorem nodup_spots (ls : List Nat) : (spots ls).Nodup := by
  refine nodup_flat _ _ List.nodup_range ?_ ?_
  · intro i _
    exact List.Pairwise.map _ (fun a b h e => h (by simpa using e)) (List.nodup_range (n := _))
  · intro i _ i' _ hne x hx hx'
    obtain ⟨j, _, rfl⟩ := List.mem_map.1 hx
    obtain ⟨j', _, e⟩ := List.mem_map.1 hx'
    simp only [Prod.mk.injEq] at e
    exact hne e.1.symm
theorem perm_of_nodup {α : Type} {l l' : List α} (h : l.Nodup) (h' : l'.Nodup) (hm : ∀ x, x ∈ l ↔ x ∈ l') : l.length = l'.length :=
  Nat.le_antisymm (h.length_le_of_subset fun x hx => (hm x).1 hx) (h'.length_le_of_subset fun x hx => (hm x).2 hx)
theorem isDiff_count {m : List ((Nat × Nat) × Int)} {old new : List (List Int)} (h : IsDiff m old new) (hs : lens old = lens new) (hn : (m.map (·.1)).Nodup) : m.length = (others old new).length := by
  rw [← List.length_map (f := fun p : (Nat × Nat) × Int => p.1)]
  refine perm_of_nodup hn ((nodup_spots _).filter _) fun p => ?_
  simp only [others, List.mem_filter, decide_eq_true_eq]
  constructor
  · intro hp
    obtain ⟨h1, xs, h2, h3⟩ := isDiff_in h hs hp
    refine ⟨mem_spots.2 ⟨xs.length, by simp [lens, h2], h3⟩, fun e => ?_⟩
    have := h p
    rw [if_pos e, h1] at this
    cases this
  · rintro ⟨_, hne⟩
    have := h p
    rw [if_neg hne] at this
    rcases Classical.em (p ∈ m.map (·.1)) with hp | hp
    · exact hp
    · rw [mget_none.2 hp] at this
      cases this

def CM.back (c : CM) : CM := match c.marks.getLast? with
  | none => c
  | some s => { now := s, marks := c.marks.dropLast }
def CM.popRes (c : CM) : Int × Int := match c.marks.getLast? with
  | none => (0, 213)
  | some s => ((others s c.now).length, 0)

theorem back_none {w : World} {a : Nat} {A : Option Addr} {cap : Nat} (hm : w.cell? ⟨a, 0, none⟩ = some (.bool true)) (h2 : w.cell? ⟨a, 2, none⟩ = some (.slice A 0 cap)) (hal : a < w.heap.size) :
    Calls Try.prog 17 #[.pointer (some ⟨a, 0, none⟩)] w fun e w' => e = .returned (.tuple #[.int .i64 0, .int .i64 213]) ∧ Kept [] w w' := by
  have HP := Lib.hid (pop_none hm h2 hal)
  clear hm h2
  go_enter Try.func17, Try.ntmps17
  go_wp2_with fail
  refine HP.out.mono ?_
  rintro e w1 ⟨rfl, hk1⟩
  have K1 := Lib.hid hk1
  clear hk1
  go_wp2
  go_ret2
  exact ⟨rfl, K1.out.trans' (Kept.alloc _ _ _)⟩

theorem foot_less {a : Nat} {rv mv mv' : Value} {rows rows' : List RowL} {ts : List TopL} {t : TopL} (h1 : mv'.ownBlock = mv.ownBlock) (h2 : rows'.map RowL.b = rows.map RowL.b) :
    ∀ b ∈ foot a rv rows' mv' ts, b ∈ foot a rv rows mv (ts ++ [t]) := by
  intro b hb
  unfold foot at hb ⊢
  rw [h1, h2] at hb
  simp only [List.map_append, List.mem_cons, List.mem_append] at hb ⊢
  rcases hb with h | h | h | h | h
  · exact .inl h
  · exact .inr (.inl h)
  · exact .inr (.inr (.inl h))
  · exact .inr (.inr (.inr (.inl h)))
  · exact .inr (.inr (.inr (.inr (.inl h))))

theorem Back_calls {w : World} {a : Nat} {F : List Nat} {c : CM} (h : IsMem w a c F) :
    Calls Try.prog 17 #[.pointer (some ⟨a, 0, none⟩)] w fun e w' => e = .returned (.tuple #[.int .i64 c.popRes.1, .int .i64 c.popRes.2]) ∧ Turns w w' a F c.back := by
  have h0 := h
  obtain ⟨rv, rows, mv, tops, h, h2, h3, rfl⟩ := h
  rcases List.eq_nil_or_concat tops with rfl | ⟨ts, t, rfl⟩
  · have hn : c.marks = [] := by rw [← h3]; rfl
    obtain ⟨A, cap, hmv⟩ := own_slice h.mown
    have hmk := h.marks
    rw [hmv] at hmk
    unfold CM.popRes CM.back
    rw [hn]
    refine (back_none h.made hmk h.blk.lt).mono ?_
    rintro e w' ⟨rfl, hk⟩
    refine ⟨rfl, _, h0.keptNil hk, hk.nil_mono, fun b hb => .inl hb⟩
  · simp only [List.concat_eq_append] at h h3 h0 ⊢
    have hn : c.marks = snapsOf ts ++ [t.snap] := by rw [← h3]; simp [snapsOf]
    have hl : c.marks.getLast? = some t.snap := by rw [hn]; simp
    have hd : c.marks.dropLast = snapsOf ts := by rw [hn]; simp
    unfold CM.popRes CM.back
    rw [hl]
    obtain ⟨mv', hmv', hb⟩ := back_one h
    refine hb.mono ?_
    rintro e w' ⟨rfl, rows', hbs, hnow, hB, hk⟩
    have hch := (chain_snoc _ _ _).1 h.chain
    have hcount := isDiff_count hch.2 (h.shape t (by simp)) (h.top t (by simp)).nodup
    rw [h2] at hcount
    refine ⟨by rw [hcount], _, ⟨rv, rows', mv', ts, ⟨hB, by rw [hnow]; exact hch.1⟩, hnow, hd.symm, rfl⟩, hk.mono ?_, fun b hb => .inl (foot_less hmv' hbs b hb)⟩
    intro b hb _
    rcases List.mem_cons.1 hb with rfl | hb
    · exact mem_foot.2 (.inl rfl)
    · obtain ⟨r, hr, rfl⟩ := List.mem_map.1 hb
      exact mem_foot.2 (.inr (.inr (.inr (.inl ⟨r, hr, rfl⟩))))
end Go.Proofs.Ytlfaoibgmbbacaa
