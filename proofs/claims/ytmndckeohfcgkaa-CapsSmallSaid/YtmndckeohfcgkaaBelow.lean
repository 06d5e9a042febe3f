/- The walks of Below and Revoke of package caps. -/
import Derived.Test.YtmndckeohfcgkaaWalk
import Derived.Test.YtmndckeohfcgkaaAll
import Derived.Test.YtmndckeohfcgkaaRoot
import Derived.Sort.OwnSortedInts
import Derived.Laws.EntriesVeiled
namespace Go.Proofs.Ytmndckeohfcgkaa
open Go.RowKit
open Go.ChangeMaps (setBlock)
theorem sort49 {w : World} {base n cap : Nat} {A : Option Addr} {ss : List Int} (h : w.ownsRow base 3 1 (.slice A n cap) n (ss.map intV)) (hn : n ≤ 1024) :
    Calls Try.prog 49 #[.slice A n cap] w fun e w' => e = .returned (.tuple #[]) ∧ w'.ownsRow base 3 1 (.slice A n cap) n ((ss.mergeSort (fun x y => decide (x ≤ y))).map intV) ∧ Kept (Value.slice A n cap).ownBlock.toList w w' := by
  have hl : ss.length = n := by have := h.1; simpa using this
  subst hl
  rcases h.2 with ⟨hv, hx⟩ | ⟨g, cap', cur, hv, hb, hg, h1, h2, h3, h4⟩
  · simp only [Value.slice.injEq] at hv
    obtain ⟨rfl, hz, rfl⟩ := hv
    have h0 : ss = [] := List.eq_nil_of_length_eq_zero hz
    subst h0
    refine (AnyM.slices_Sort_int_none sortA none 0 w).mono ?_
    rintro e w' ⟨rfl, rfl⟩
    exact ⟨rfl, by simpa using h, Kept.refl _ _⟩
  · simp only [Value.slice.injEq, true_and] at hv
    obtain ⟨rfl, rfl⟩ := hv
    have ht : cur.toList.take ss.length = ss.map (Value.int .i64) := by rw [← show ss.length * 1 = ss.length by omega, h4]; rfl
    refine (AnyM.slices_Sort_int sortA g 0 cap ss w (holds_of_blockI hg ht) (lt_of_heap hg) (by omega)).mono ?_
    rintro e w' ⟨rfl, n, os, rfl⟩
    refine ⟨rfl, ?_, ?_⟩
    · exact ownsRow_sortedI (List.length_mergeSort ss) hb hg h1 h2 h3
    · exact Kept.grown (grownBy_sortedI _) (by simp [Value.ownBlock])
theorem below_sorted {l : List Hd} (t : Tree l) {s : Int} {L : List Int} (h : L.Perm (below l s)) : L.mergeSort (fun x y => decide (x ≤ y)) = below l s := by
  have hp := (List.mergeSort_perm L (fun x y => decide (x ≤ y))).trans h
  have h1 : (L.mergeSort (fun x y => decide (x ≤ y))).Pairwise (fun a b => a ≤ b) := by
    have := List.pairwise_mergeSort (le := fun x y : Int => decide (x ≤ y)) (fun a b c h1 h2 => by simp only [decide_eq_true_eq] at *; omega) (fun a b => by simp only [Bool.or_eq_true, decide_eq_true_eq]; omega) L
    exact this.imp fun h => by simpa using h
  have h2 : (below l s).Pairwise (fun a b => a ≤ b) := by
    have : (l.map (·.serial)).Pairwise (fun a b => a ≤ b) := by
      rw [List.pairwise_map]
      exact t.asc.imp fun h => by omega
    exact this.sublist (below_sub l s)
  exact hp.eq_of_pairwise (fun a b _ _ h1 h2 => Int.le_antisymm h1 h2) h1 h2
def CT.belowRes (c : CT) (s : Int) : List Int × Int := match c.get s with | some _ => (below c.live s, 0) | none => ([], 6)
section
variable {w w' : World} {a r : Nat} {c : CT} {pv : List Value} {m : List (Int × Hd)} {F : List Nat}
theorem CT.ok.below_le (ok : c.ok) (s : Int) : (below c.live s).length ≤ 256 := by
  have := (below_sub c.live s).length_le
  have := ok.few
  simp only [List.length_map] at *
  omega
set_option maxRecDepth 100000 in
theorem below_none {s : Int} (hg : ∀ w1, Kept [] w w1 → Calls Try.prog 26 #[.pointer (some ⟨a, 0, none⟩), .int .i64 s] w1 fun e w' => e = .returned (.tuple #[noHd.val, .int .i64 6]) ∧ Kept [] w1 w') :
    Calls Try.prog 27 #[.pointer (some ⟨a, 0, none⟩), .int .i64 s] w fun e w' => e = .returned (.tuple #[.slice none 0 0, .int .i64 6]) ∧ Kept [] w w' := by
  have HG := Lib.hid (hg (w.alloc (.cells #[.pointer (some ⟨a, 0, none⟩)] 24)) (Kept.alloc _ _ _))
  clear hg
  go_enter Try.func27, Try.ntmps27
  go_wp2_with (go_at_call 26; refine HG.out.mono ?_; rintro e w1 ⟨rfl, hk⟩; simp only [Hd.val, noHd]; have K := Lib.hid hk; clear hk)
  go_ret2
  exact ⟨rfl, ((Kept.alloc _ _ _).trans' K.out).trans' (Kept.alloc _ _ _)⟩
theorem gath_start {w1 : World} {xs : Array Value} (T : TabB w a r c pv m) (hk : Kept [] (w.alloc (.cells xs 24)) w1) (hb : Blk w1 w.heap.size 24 #[.pointer (some ⟨a, 0, none⟩)]) (o : Obj) :
    Gath (((w1.alloc o).alloc (.cells #[.slice none 0 0] 30)).alloc (.cells #[.func (.func 48) #[] #[.pointer (some ⟨w1.heap.size + 1, 0, none⟩), .pointer (some ⟨w.heap.size, 0, none⟩), .pointer (some ⟨w1.heap.size + 1 + 1, 0, none⟩)]] 84))
      (w1.heap.size + 1) w.heap.size (w1.heap.size + 1 + 1) a r (w1.heap.size + 3) m (.slice none 0 0) [] ∧ Kept [] w (((w1.alloc o).alloc (.cells #[.slice none 0 0] 30)).alloc (.cells #[.func (.func 48) #[] #[.pointer (some ⟨w1.heap.size + 1, 0, none⟩), .pointer (some ⟨w.heap.size, 0, none⟩), .pointer (some ⟨w1.heap.size + 1 + 1, 0, none⟩)]] 84)) := by
  have hb0 := hb.lt
  have hal := T.blk.lt
  have hrl := T.map.lt
  have k0 : Kept [] w w1 := (Kept.alloc _ _ _).trans' hk
  have k1 : Kept [] w1 (((w1.alloc o).alloc (.cells #[.slice none 0 0] 30)).alloc (.cells #[.func (.func 48) #[] #[.pointer (some ⟨w1.heap.size + 1, 0, none⟩), .pointer (some ⟨w.heap.size, 0, none⟩), .pointer (some ⟨w1.heap.size + 1 + 1, 0, none⟩)]] 84)) :=
    ((Kept.alloc _ _ _).trans' (Kept.alloc _ _ _)).trans' (Kept.alloc _ _ _)
  have k2 := k0.trans' k1
  refine ⟨⟨?_, k1.blk hb (by simp), ?_, k2.cell T.handles (by simp), k2.map T.map (by simp), World.ownsRow_nil _ _ _ _, ?_, by omega⟩, k2⟩
  · have := (Kept.alloc [] ((w1.alloc o).alloc (.cells #[.slice none 0 0] 30)) (.cells #[.func (.func 48) #[] #[.pointer (some ⟨w1.heap.size + 1, 0, none⟩), .pointer (some ⟨w.heap.size, 0, none⟩), .pointer (some ⟨w1.heap.size + 1 + 1, 0, none⟩)]] 84)).blk (Blk.new (w1.alloc o) 30 #[.slice none 0 0]) (by simp)
    rwa [World.size_alloc] at this
  · have := Blk.new ((w1.alloc o).alloc (.cells #[.slice none 0 0] 30)) 84 #[.func (.func 48) #[] #[.pointer (some ⟨w1.heap.size + 1, 0, none⟩), .pointer (some ⟨w.heap.size, 0, none⟩), .pointer (some ⟨w1.heap.size + 1 + 1, 0, none⟩)]]
    rwa [World.size_alloc, World.size_alloc] at this
  · simp only [World.size_alloc]
    omega
set_option maxRecDepth 100000 in
set_option maxHeartbeats 1000000 in
theorem below_in {s : Int} {h : Hd} (T : TabB w a r c pv m) (hg : ∀ w1, Kept [] w w1 → Calls Try.prog 26 #[.pointer (some ⟨a, 0, none⟩), .int .i64 s] w1 fun e w' => e = .returned (.tuple #[h.val, .int .i64 0]) ∧ Kept [] w1 w') (hs : c.get s = some h) :
    Calls Try.prog 27 #[.pointer (some ⟨a, 0, none⟩), .int .i64 s] w fun e w' => ∃ A cap, e = .returned (.tuple #[.slice A (below c.live s).length cap, .int .i64 0]) ∧
      w'.ownsRow w.heap.size 3 1 (.slice A (below c.live s).length cap) (below c.live s).length ((below c.live s).map intV) ∧ Kept [] w w' := by
  have HG := Lib.hid (hg (w.alloc (.cells #[.pointer (some ⟨a, 0, none⟩)] 24)) (Kept.alloc _ _ _))
  have HT := Lib.hid T
  have HS := Lib.hid hs
  have hal := T.blk.lt
  clear hg T hs
  go_enter Try.func27, Try.ntmps27
  go_wp2_with (first
    | (go_at_call 26; refine HG.out.mono ?_; rintro e w1 ⟨rfl, hk⟩; simp only [Hd.val]; have b0 := hk.blk (Blk.new w 24 #[.pointer (some ⟨a, 0, none⟩)]) (by simp); have c0 := b0.cell 0; have l0 := b0.lt; have B0 := Lib.hid b0; have K := Lib.hid hk; clear hk b0)
    | (go_at_call 48
       have hst := gath_start HT.out K.out B0.out (.cells #[.int .i64 h.serial, .int .i64 h.parent, .int .i64 h.port, .int .i64 h.holder, .int .u8 (h.rights : Int)] 34)
       have hcall := walk_calls HT.out.ok.tree HT.out.perm (c.next) (fun h hh => (HT.out.ok.low h hh).2) (fun h hh => by have := (HT.out.ok.low h hh).1; omega) _ s _ _ [] (Nat.le_refl _) ⟨h, get_some HS.out⟩ (by have := HT.out.ok.below_le s; simp; omega) hst.1
       refine hcall.mono ?_
       rintro e w4 ⟨rfl, v, L, z1, z2, z3, z4⟩
       rw [List.nil_append] at z2
       obtain ⟨A, cp, rfl⟩ := own_slice z2.own
       have hL : L.length = (below c.live s).length := z1.length_eq
       rw [hL] at z2
       have cO := z2.o.cell 0
       have zo := z2.own
       rw [hL] at zo
       have hs49 := sort49 zo (by have := HT.out.ok.below_le s; omega)
       rw [below_sorted HT.out.ok.tree z1] at hs49
       have HS49 := Lib.hid hs49
       have Z2 := Lib.hid z2
       have Z3 := Lib.hid (hst.2.nil_mono.trans' z3)
       clear hst hcall z1 z2 z3 z4 hs49 zo)
    | (go_at_call 49
       refine HS49.out.mono ?_
       rintro e w5 ⟨rfl, z5, z6⟩
       have cO2 := (z6.blk Z2.out.o (fun hm => by have := Z2.out.own.lt _ (by simpa using hm); have := Z2.out.lt; omega)).cell 0
       have Z5 := Lib.hid z5
       have Z6 := Lib.hid z6
       clear z5 z6))
  go_ret2
  have hks := K.out.size
  rw [World.size_alloc] at hks
  refine ⟨A, cp, rfl, own_base Z5.out (by omega), (Z3.out.nil_new ?_).trans Z6.out fun b hb => .inr ?_⟩
  · intro b hb
    simp only [gfoot, Value.ownBlock, Option.toList_none, List.mem_singleton] at hb
    omega
  · have := (Z5.out.lt b (by simpa using hb)).1
    omega
theorem TBelow_calls (H : IsTab w a c F) (s : Int) :
    Calls Try.prog 27 #[.pointer (some ⟨a, 0, none⟩), .int .i64 s] w fun e w' => ∃ A cap, e = .returned (.tuple #[.slice A (c.belowRes s).1.length cap, .int .i64 (c.belowRes s).2]) ∧
      w'.ownsRow w.heap.size 3 1 (.slice A (c.belowRes s).1.length cap) (c.belowRes s).1.length ((c.belowRes s).1.map intV) ∧ Kept [] w w' := by
  have hg : ∀ w1, Kept [] w w1 → Calls Try.prog 26 #[.pointer (some ⟨a, 0, none⟩), .int .i64 s] w1 fun e w' => e = .returned (.tuple #[(c.getRes s).1.val, .int .i64 (c.getRes s).2]) ∧ Kept [] w1 w' := fun w1 hk => Get_calls (H.keptNil hk) s
  unfold CT.belowRes
  obtain ⟨r, pv, m, T, rfl⟩ := H
  cases e0 : c.get s with
  | none =>
    have e1 : c.getRes s = (noHd, 6) := by unfold CT.getRes; rw [e0]
    rw [e1] at hg
    refine (below_none hg).mono ?_
    rintro e w' ⟨rfl, hk⟩
    exact ⟨none, 0, rfl, World.ownsRow_nil _ _ _ _, hk⟩
  | some h =>
    have e1 : c.getRes s = (h, 0) := by unfold CT.getRes; rw [e0]
    rw [e1] at hg
    exact below_in T hg e0

/-! ### handles are taken away -/
def CT.minus (c : CT) (ss : List Int) : CT := { c with live := c.live.filter fun h => !ss.contains h.serial }
theorem mem_minus {ss : List Int} {h : Hd} : h ∈ (c.minus ss).live ↔ h ∈ c.live ∧ h.serial ∉ ss := by
  simp [CT.minus]
theorem mem_ents {c : CT} {k : Int} {h : Hd} : (k, h) ∈ c.ents ↔ h ∈ c.live ∧ h.serial = k := by
  simp only [CT.ents, List.mem_map, Prod.mk.injEq]
  constructor
  · rintro ⟨x, hx, rfl, rfl⟩; exact ⟨hx, rfl⟩
  · rintro ⟨hx, rfl⟩; exact ⟨h, hx, rfl, rfl⟩
theorem CT.ok.minus (ok : c.ok) {ss : List Int} (hs : ∀ h ∈ c.live, h.parent ∈ ss → h.serial ∈ ss) : (c.minus ss).ok := by
  have hsub : ∀ h ∈ (c.minus ss).live, h ∈ c.live := fun h hh => (mem_minus.1 hh).1
  refine ⟨ok.n1, ok.n2, ok.asc.sublist List.filter_sublist, fun h hh => ok.low h (hsub h hh), fun h hh => ?_, fun h hh => ok.hol h (hsub h hh), fun h hh => ok.prt h (hsub h hh), fun h hh => ok.rts h (hsub h hh),
    Nat.le_trans (List.length_filter_le _ _) ok.few, ok.p17, ok.pfew, ok.pasc, ok.plow, fun h hh => ok.pin h (hsub h hh), fun h hh => ok.pwho h (hsub h hh)⟩
  rcases ok.par h (hsub h hh) with h0 | ⟨p, hp, h1, h2⟩
  · exact .inl h0
  · refine .inr ⟨p, mem_minus.2 ⟨hp, fun hm => ?_⟩, h1, h2⟩
    rw [h1] at hm
    exact (mem_minus.1 hh).2 (hs h (hsub h hh) hm)
theorem mem_mdel {K V : Type} [DecidableEq K] {m : List (K × V)} (hn : (m.map (·.1)).Nodup) {k k' : K} {v : V} : (k', v) ∈ mdel k m ↔ (k', v) ∈ m ∧ k' ≠ k := by
  induction m with
  | nil => simp [mdel]
  | cons p m ih =>
    simp only [List.map_cons, List.nodup_cons] at hn
    unfold mdel
    split
    · rename_i e
      constructor
      · intro hm
        refine ⟨List.mem_cons_of_mem _ hm, fun e' => hn.1 ?_⟩
        rw [e, ← e']
        exact List.mem_map.2 ⟨_, hm, rfl⟩
      · rintro ⟨hm, hne⟩
        rcases List.mem_cons.1 hm with rfl | hm
        · exact absurd e hne
        · exact hm
    · rename_i e
      rw [List.mem_cons, ih hn.2, List.mem_cons]
      constructor
      · rintro (rfl | ⟨h1, h2⟩)
        · exact ⟨.inl rfl, e⟩
        · exact ⟨.inr h1, h2⟩
      · rintro ⟨rfl | h1, h2⟩
        · exact .inl rfl
        · exact .inr ⟨h1, h2⟩
theorem nodup_ents {c : CT} (h : (c.live.map (·.serial)).Nodup) : c.ents.Nodup := by
  unfold CT.ents List.Nodup at *
  rw [List.pairwise_map] at *
  exact h.imp fun hne e => hne (by simpa using congrArg Prod.fst e)
/-- One more has been taken away. -/
theorem mdel_minus (ok : c.ok) {ss : List Int} {s : Int} (hp : m.Perm (c.minus ss).ents) : (mdel s m).Perm (c.minus (ss ++ [s])).ents := by
  have hnd : ∀ l, ((c.minus l).live.map (·.serial)).Nodup := fun l => ok.nodup.sublist (List.filter_sublist.map _)
  have hmk : (m.map (·.1)).Nodup := by
    have := (hp.map (·.1)).nodup_iff.2 (by rw [ents_keys]; exact hnd ss)
    exact this
  have hm : m.Nodup := hp.nodup_iff.2 (nodup_ents (hnd ss))
  refine (List.perm_ext_iff_of_nodup (hm.sublist (mdel_sublist s m)) (nodup_ents (hnd _))).2 fun ⟨k, h⟩ => ?_
  rw [mem_mdel hmk, hp.mem_iff, mem_ents, mem_ents, mem_minus, mem_minus, List.mem_append, List.mem_singleton]
  constructor
  · rintro ⟨⟨⟨h1, h2⟩, rfl⟩, h3⟩
    exact ⟨⟨h1, by simp [h2, h3]⟩, rfl⟩
  · rintro ⟨⟨h1, h2⟩, rfl⟩
    simp only [not_or] at h2
    exact ⟨⟨⟨h1, h2.1⟩, rfl⟩, h2.2⟩
theorem TabB.minus (T : TabB w a r c pv m) {ss : List Int} {m' : List (Int × Hd)} (hk : Kept [r] w w') (hm : MapIs intV Hd.val w' r m') (hp : m'.Perm (c.minus ss).ents) (ok : (c.minus ss).ok) : TabB w' a r (c.minus ss) pv m' where
  blk := hk.blk T.blk (by simpa using T.ra.symm)
  map := hm
  perm := hp
  plen := T.plen
  own := fun k v l hv hl => hk.own (T.own k v l hv hl) fun b hb => by simpa using (T.pa (List.mem_of_getElem? hv) hb).2
  pnd := T.pnd
  ok := ok
theorem minus_nil (c : CT) : c.minus [] = c := by
  have e : c.live.filter (fun h => !([] : List Int).contains h.serial) = c.live := List.filter_eq_self.2 (by simp)
  unfold CT.minus
  rw [e]
theorem below_closed (ok : c.ok) {s : Int} {x : Hd} (hx : c.get s = some x) : ∀ h ∈ c.live, h.parent ∈ below c.live s → h.serial ∈ below c.live s := by
  intro h hh hm
  have t := ok.tree
  rw [mem_below t] at hm ⊢
  exact ⟨⟨h, hh, rfl⟩, .step hh hm.2.1, hm.2.2⟩

/-! ### Revoke -/
def CT.revoke (c : CT) (s : Int) : CT := c.minus (c.belowRes s).1
set_option maxRecDepth 100000 in
theorem Revoke_calls (H : IsTab w a c F) (s : Int) :
    Calls Try.prog 17 #[.pointer (some ⟨a, 0, none⟩), .int .i64 s] w fun e w' => ∃ A cap, e = .returned (.tuple #[.slice A (c.belowRes s).1.length cap, .int .i64 (c.belowRes s).2]) ∧
      w'.ownsRow w.heap.size 3 1 (.slice A (c.belowRes s).1.length cap) (c.belowRes s).1.length ((c.belowRes s).1.map intV) ∧ IsTab w' a (c.revoke s) F ∧ Kept F w w' := by
  have HB := Lib.hid (TBelow_calls H s)
  have hcl : ∀ h ∈ c.live, h.parent ∈ (c.belowRes s).1 → h.serial ∈ (c.belowRes s).1 := by
    unfold CT.belowRes
    cases e0 : c.get s with
    | none => intro h _ hm; simp at hm
    | some x => exact below_closed H.ok e0
  have hle : (c.belowRes s).1.length ≤ 256 := by
    unfold CT.belowRes
    cases e0 : c.get s with
    | none => simp
    | some x => exact H.ok.below_le s
  obtain ⟨r, pv, m, T, rfl⟩ := H
  unfold CT.revoke
  generalize (c.belowRes s).1 = ls at *
  generalize (c.belowRes s).2 = er at *
  have HT := Lib.hid T
  have HC := Lib.hid hcl
  have HL := Lib.hid hle
  clear T hcl hle
  go_enter Try.func17, Try.ntmps17
  go_wp2_with (go_at_call 27; refine HB.out.mono ?_; rintro e w1 ⟨A, cp, rfl, z1, z2⟩; have Z1 := Lib.hid z1; have Z2 := Lib.hid z2; clear z1 z2)
  go_loopw [9, 18] (fun _ i wr => ∃ (k : Nat) (m' : List (Int × Hd)), k ≤ ls.length ∧ i = .int .i64 k ∧ MapIs intV Hd.val wr r m' ∧ m'.Perm (c.minus (ls.take k)).ents ∧ Kept [r] w1 wr) (fun _ i _ => ls.length - (intOf i).toNat)
  case atStart =>
    refine ⟨0, m, Nat.zero_le _, rfl, Z2.out.map HT.out.map (by simp), ?_, Kept.refl _ _⟩
    rw [List.take_zero, minus_nil]
    exact HT.out.perm
  case round =>
    obtain ⟨k, m', hk, rfl, hM, hP, hK⟩ := hrel
    have hrb : ∀ b, (Value.slice A ls.length cp).ownBlock = some b → b ≠ r := fun b hb => by
      have := (Z1.out.lt b hb).1
      have := HT.out.map.lt
      omega
    by_cases hlt : k < ls.length
    · obtain ⟨x, hx⟩ : ∃ x, ls[k]? = some x := ⟨_, List.getElem?_eq_getElem hlt⟩
      obtain ⟨g1, q1, hv1, hc1, _⟩ := own_cell (hK.own Z1.out (fun b hb => by simpa using hrb b hb)) (k := k) (u := intV x) (by simp [hx])
      simp only [Value.slice.injEq, true_and] at hv1
      obtain ⟨rfl, rfl⟩ := hv1
      simp only [intV] at hc1
      have h2 := hK.cell (Z2.out.cell HT.out.handles (by simp)) (by simpa using HT.out.ra.symm)
      obtain ⟨o1, hup, hM2⟩ := run_delete int_keys Try.underlying66 hM x 0
      simp only [intV] at hup
      have hP2 := mdel_minus (s := x) HT.out.ok hP
      rw [show ls.take k ++ [x] = ls.take (k + 1) by rw [List.take_add_one, hx]; rfl] at hP2
      have X1 := Lib.hid hM2
      have X2 := Lib.hid hP2
      have X3 := Lib.hid hK
      clear hM hM2 hP hP2 hK hx hrb
      have hl2 := HL.out
      go_wp2
      go_roundw
      case rel => exact ⟨k + 1, _, by omega, by go_num, X1.out, X2.out, X3.out.trans' (Kept.setBlock (by simp) _ _)⟩
      case measure => simp [intOf]; omega
    · obtain rfl : k = ls.length := by omega
      rw [List.take_length] at hP
      have hT2 := (HT.out.kept Z2.out (by simp)).minus hK hM hP (HT.out.ok.minus HC.out)
      have hO2 := hK.own Z1.out (fun b hb => by simpa using hrb b hb)
      have X1 := Lib.hid hT2
      have X2 := Lib.hid hO2
      have X3 := Lib.hid hK
      clear hM hP hK hT2 hO2 hrb
      go_wp2
      go_ret2
      refine ⟨A, cp, rfl, X2.out, ⟨r, pv, m', X1.out, rfl⟩, Z2.out.nil_mono.trans' (X3.out.mono ?_)⟩
      intro b hb _
      simp only [List.mem_singleton] at hb
      subst hb
      simp [mem_tfoot]
end
end Go.Proofs.Ytmndckeohfcgkaa
