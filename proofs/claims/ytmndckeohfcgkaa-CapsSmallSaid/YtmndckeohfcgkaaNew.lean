/- The walks of New and Copy of package caps. -/
import Derived.Test.YtmndckeohfcgkaaRoot
import Derived.Test.YtmndckeohfcgkaaClone
import Derived.Deep.MidRow
import Derived.Deep.WholeRow
namespace Go.Proofs.Ytmndckeohfcgkaa
open Go.RowKit
open Go.ChangeMaps (setBlock)
def newCT (n : Int) : CT := ⟨n, [], List.replicate 17 []⟩
theorem newCT_ok {n : Int} (h1 : 1 ≤ n) (h2 : n ≤ 281474976710656) : (newCT n).ok := by
  have hp : ∀ l ∈ (newCT n).places, l = [] := fun l hl => List.eq_of_mem_replicate hl
  refine ⟨h1, by simp only [newCT]; omega, List.Pairwise.nil, ?_, ?_, ?_, ?_, ?_, by simp [newCT], by simp [newCT], ?_, ?_, ?_, ?_, ?_⟩
  all_goals first | (intro h hh; simp [newCT] at hh; done) | skip
  · intro l hl; rw [hp l hl]; simp
  · intro l hl; rw [hp l hl]; exact List.Pairwise.nil
  · intro l hl s hs; rw [hp l hl] at hs; simp at hs
section
variable {w w' : World} {a r : Nat} {c : CT} {pv : List Value} {m : List (Int × Hd)} {F : List Nat}
set_option maxRecDepth 100000 in
theorem new_bad {n : Int} (hn : n < 1 ∨ 281474976710656 < n) : Calls Try.prog 31 #[.int .i64 n] w fun e w' => e = .returned (.tuple #[.pointer none, .int .i64 2]) ∧ w = w' := by
  by_cases hx : n < 1
  · clear hn
    go_enter Try.func31, Try.ntmps31
    go_wp2
    go_ret2
    exact ⟨rfl, rfl⟩
  · have hx := hn.resolve_left hx
    clear hn
    go_enter Try.func31, Try.ntmps31
    go_wp2
    go_ret2
    exact ⟨rfl, rfl⟩
set_option maxRecDepth 100000 in
theorem new_good {n : Int} (h1 : 1 ≤ n) (h2 : n ≤ 281474976710656) : Calls Try.prog 31 #[.int .i64 n] w fun e w' => ∃ a F, e = .returned (.tuple #[.pointer (some ⟨a, 0, none⟩), .int .i64 0]) ∧ IsTab w' a (newCT n) F ∧ Kept [] w w' ∧ ∀ b ∈ F, w.heap.size ≤ b := by
  have hmm := @run_makeMap Try.prog
  go_enter Try.func31, Try.ntmps31
  go_wp2
  go_ret2
  have hm : MapIs intV Hd.val ((w.alloc (.map #[] 0)).alloc (.cells (.bool true :: .int .i64 n :: .map (some w.heap.size) :: List.replicate 17 (.slice none 0 0)).toArray 69)) w.heap.size [] := (Kept.alloc [] _ _).map (MapIs.new intV Hd.val w) (by simp)
  have hb : Blk ((w.alloc (.map #[] 0)).alloc (.cells (.bool true :: .int .i64 n :: .map (some w.heap.size) :: List.replicate 17 (.slice none 0 0)).toArray 69)) (w.heap.size + 1) 69 (.bool true :: .int .i64 n :: .map (some w.heap.size) :: List.replicate 17 (.slice none 0 0)).toArray := by
    have := Blk.new (w.alloc (.map #[] 0)) 69 (.bool true :: .int .i64 n :: .map (some w.heap.size) :: List.replicate 17 (.slice none 0 0)).toArray
    rwa [World.size_alloc] at this
  refine ⟨w.heap.size + 1, _, rfl, ⟨w.heap.size, List.replicate 17 (.slice none 0 0), [], ⟨hb, hm, List.Perm.refl _, by simp, ?_, ?_, newCT_ok h1 h2⟩, rfl⟩, (Kept.alloc _ _ _).trans' (Kept.alloc _ _ _), ?_⟩
  · intro k v l hv hl
    have hv' := List.eq_of_mem_replicate (List.mem_of_getElem? hv)
    have hl' := List.eq_of_mem_replicate (List.mem_of_getElem? hl)
    subst hv' hl'
    exact World.ownsRow_nil _ _ _ _
  · intro i j u v b hi hj hb _
    have hv' := List.eq_of_mem_replicate (List.mem_of_getElem? hi)
    subst hv'
    simp [Value.ownBlock] at hb
  · intro b hb
    rcases mem_tfoot.1 hb with rfl | rfl | ⟨v, hv, hvb⟩
    · omega
    · omega
    · have hv' := List.eq_of_mem_replicate hv
      subst hv'
      simp [Value.ownBlock] at hvb
/-! ### Copy -/
theorem info69 : (Try.prog.info? 69).map (·.size) = some 20 := by kernel_rfl
theorem info67 : (Try.prog.info? 67).map (·.size) = some 17 := by kernel_rfl
theorem blk_range {w : World} {g : Nat} {t : TypeId} {cs : List Value} (h : Blk w g t cs.toArray) : w.rangeAt g 0 cs := by
  intro j v hv
  rw [Nat.zero_add, h.cell]
  simpa using hv
theorem blk_there {w : World} {g : Nat} {t : TypeId} {cs : Array Value} (h : Blk w g t cs) : w.there g 0 cs.size := by
  intro j hj
  rw [Nat.zero_add, h.cell]
  exact ⟨by simp [hj], h.frozen j⟩
def tlist (next : Int) (r : Nat) (pv : List Value) : List Value := .bool true :: .int .i64 next :: .map (some r) :: pv
theorem index67 {k : Nat} {v : Value} (hk : k < 17) (hv : pv[k]? = some v) (w : World) : (Instr.index 67 (.agg pv.toArray) (.int .i64 (k : Int))).run Try.prog w = .ok v w := by
  have h1 : (0 : Int) ≤ k ∧ (k : Int) < (17 : Nat) := by omega
  simp only [Instr.index, Sem.run_bind, asIntOf, Sem.run_pure, Result.andThen_ok, run_underlying Try.underlying67]
  rw [if_pos h1]
  simp [part, go_sem, isAgg, hv]
theorem own_one {w : World} {base n size : Nat} {e : TypeId} {v : Value} {xs : List Value} (h : w.ownsRow base e size v n xs) : v.oneCell' = true := by
  obtain ⟨A, cap, rfl⟩ := own_slice h
  rfl
set_option maxRecDepth 100000 in
set_option maxHeartbeats 1000000 in
theorem Copy_calls (H : IsTab w a c F) : Calls Try.prog 13 #[.pointer (some ⟨a, 0, none⟩)] w fun e w' => ∃ b F', e = .returned (.pointer (some ⟨b, 0, none⟩)) ∧ IsTab w' b c F' ∧ Kept [] w w' ∧ ∀ x ∈ F', w.heap.size ≤ x := by
  obtain ⟨r, pv, m, T, rfl⟩ := H
  have c0 := T.made
  have c2 := T.handles
  have hal := T.blk.lt
  have HT := Lib.hid T
  have R0 : Hid (w.rangeAt a 0 (tlist c.next r pv)) := Lib.hid (blk_range T.blk)
  have L0 : Hid ((tlist c.next r pv).length = 20) := Lib.hid (by simp [tlist, T.plen])
  have hst : (storeCells ⟨w.heap.size, 0, none⟩ (tlist c.next r pv)).run Try.prog (w.alloc (.cells #[.bool false, .int .i64 0, .map none, .slice none 0 0, .slice none 0 0, .slice none 0 0, .slice none 0 0, .slice none 0 0, .slice none 0 0, .slice none 0 0, .slice none 0 0, .slice none 0 0, .slice none 0 0, .slice none 0 0, .slice none 0 0, .slice none 0 0, .slice none 0 0, .slice none 0 0, .slice none 0 0, .slice none 0 0] 69)) =
      .ok () (w.alloc (.cells (tlist c.next r pv).toArray 69)) := by
    have := run_storeCells_new (P := Try.prog) w 69 #[.bool false, .int .i64 0, .map none, .slice none 0 0, .slice none 0 0, .slice none 0 0, .slice none 0 0, .slice none 0 0, .slice none 0 0, .slice none 0 0, .slice none 0 0, .slice none 0 0, .slice none 0 0, .slice none 0 0, .slice none 0 0, .slice none 0 0, .slice none 0 0, .slice none 0 0, .slice none 0 0, .slice none 0 0] (tlist c.next r pv).toArray
      (by rw [List.size_toArray, L0.out]; exact info69) (by rw [List.size_toArray, List.size_toArray, L0.out]; rfl) (all_oneCell_toArray fun v hv => by
        simp only [tlist, List.mem_cons] at hv
        rcases hv with rfl | rfl | rfl | hv
        · rfl
        · rfl
        · rfl
        · obtain ⟨k, hk⟩ := List.mem_iff_getElem?.1 hv
          obtain ⟨l, _, h2⟩ := T.place hk
          exact own_one h2)
    simpa using this
  have k1 := Kept.alloc [] w (.cells (tlist c.next r pv).toArray 69)
  have c2' := k1.cell c2 (by simp)
  have M0 := Lib.hid (mapClone (k1.map T.map (by simp)))
  have K1 := Lib.hid k1
  have B1 := Lib.hid (Blk.new w 69 (tlist c.next r pv).toArray)
  clear T k1
  go_enter Try.func13, Try.ntmps13
  go_wp2_with (first
    | (go_at_call 37; refine (is_yes _ _ c0).mono ?_; rintro e w' ⟨rfl, rfl⟩)
    | (refine wpList_load_mid rfl 69 (.tmp 10) rfl a 0 rfl (tlist c.next r pv) _ R0.out Try.underlying69 rfl (by rw [L0.out]; exact info69) ?_)
    | (go_at_call 38
       refine M0.out.mono ?_
       rintro e w1 ⟨rfl, z1, z2⟩
       have b1 := z2.blk B1.out (by simp)
       have hl1 := b1.lt
       have d1 := b1.cell 2
       have d2 := b1.frozen 2
       have B2 := Lib.hid (b1.set_ 2 (.map (some (w.alloc (.cells (tlist c.next r pv).toArray 69)).heap.size)))
       have Z1 := Lib.hid z1
       have Z2 := Lib.hid z2
       have R3 : Hid ((w1.setCell ⟨w.heap.size, 2, none⟩ (.map (some (w.heap.size + 1)))).rangeAt a 3 pv) := Lib.hid fun j v hj => by
         rw [World.cell?_setCell_far _ _ _ _ (by simp; omega)]
         exact (K1.out.trans' z2).cell (HT.out.cellP hj) (by simp)
       clear b1 z1 z2)
    | (refine wpList_load_mid rfl 67 (.tmp 20) rfl a 3 rfl pv _ R3.out Try.underlying67 rfl (by rw [HT.out.plen]; exact info67) ?_))
  have hz : (w.alloc (.cells (tlist c.next r pv).toArray 69)).heap.size = w.heap.size + 1 := by simp
  have kC : Kept [] w (w1.setCell ⟨w.heap.size, 2, none⟩ (.map (some (w.heap.size + 1)))) := ((K1.out.trans' Z2.out).nil_mono.trans' (Kept.setCell (F := [w.heap.size]) (by simp) _ _)).nil_new (by simp)
  have mC : MapIs intV Hd.val (w1.setCell ⟨w.heap.size, 2, none⟩ (.map (some (w.heap.size + 1)))) (w.heap.size + 1) m := by
    have := Z1.out
    rw [hz] at this
    exact (Kept.setCell (F := [w.heap.size]) (p := ⟨w.heap.size, 2, none⟩) (by simp) w1 _).map this (by simp)
  have bC := B2.out
  rw [hz] at bC
  have eC : (tlist c.next r pv).toArray.setIfInBounds 2 (.map (some (w.heap.size + 1))) = (tlist c.next (w.heap.size + 1) pv).toArray := by simp [tlist]
  rw [eC] at bC
  have KC := Lib.hid kC
  have MC := Lib.hid mC
  have BC := Lib.hid bC
  clear kC mC bC eC hz B2 Z1 Z2 R3 hst
  generalize w1.setCell ⟨w.heap.size, 2, none⟩ (.map (some (w.heap.size + 1))) = W0 at *
  go_loopw [4, 5, 22] (fun _ _ i wr => ∃ (k : Nat) (us : List Value), k ≤ 17 ∧ us.length = k ∧ i = .int .i64 k ∧ Blk wr w.heap.size 69 (tlist c.next (w.heap.size + 1) (us ++ pv.drop k)).toArray ∧ (∀ (j : Nat) (u : Value) (l : List Int), us[j]? = some u → c.places[j]? = some l → wr.ownsRow (w.heap.size + 1) 3 1 u l.length (l.map intV)) ∧
      (∀ (i j : Nat) (u v : Value) (b : Nat), us[i]? = some u → us[j]? = some v → u.ownBlock = some b → v.ownBlock = some b → i = j) ∧ Kept [] w wr ∧ MapIs intV Hd.val wr (w.heap.size + 1) m) (fun _ _ i _ => 17 - (intOf i).toNat)
  case atStart => exact ⟨0, [], by omega, rfl, rfl, by simpa using BC.out, by simp, by simp, KC.out, MC.out⟩
  case round =>
    obtain ⟨k, us, hk, hus, rfl, hB, hO, hN, hK, hM⟩ := hrel
    by_cases hlt : k < 17
    · obtain ⟨v, l, hv, hl, hown⟩ := HT.out.at hlt
      have hlt' : (k : Int) < 17 := by omega
      have hix := index67 hlt hv wr
      have hcl := clone39 (hK.own hown (by simp)) (by have := HT.out.ok.pfew l (List.mem_of_getElem? hl); omega)
      have hCl := hB.lt
      have hdr : pv.drop k = v :: pv.drop (k + 1) := by
        rw [List.drop_eq_getElem_cons (by rw [HT.out.plen]; exact hlt)]
        have := (List.getElem?_eq_some_iff.1 hv).2
        rw [this]
      have hget : (tlist c.next (w.heap.size + 1) (us ++ pv.drop k))[3 + k]? = some v := by
        rw [show 3 + k = k + 1 + 1 + 1 by omega]
        show (us ++ pv.drop k)[k]? = some v
        rw [List.getElem?_append_right (by omega), hus, Nat.sub_self, hdr]
        rfl
      have hset : ∀ u, (tlist c.next (w.heap.size + 1) (us ++ pv.drop k)).toArray.setIfInBounds (3 + k) u = (tlist c.next (w.heap.size + 1) ((us ++ [u]) ++ pv.drop (k + 1))).toArray := by
        intro u
        rw [show 3 + k = k + 1 + 1 + 1 by omega, hdr]
        simp [tlist, ← hus]
      have X1 := Lib.hid hB
      have X2 := Lib.hid hO
      have X3 := Lib.hid hN
      have X4 := Lib.hid hK
      have X5 := Lib.hid hM
      have X6 := Lib.hid hcl
      have X7 := Lib.hid hset
      have X8 := Lib.hid hget
      have X9 := Lib.hid hl
      have X10 := Lib.hid hus
      clear hB hO hN hK hM hcl hset hget hdr hown hl hv hus
      go_wp2_with (go_at_call 39
                   refine X6.out.mono ?_
                   rintro e w2 ⟨A2, cp2, rfl, z1, z2⟩
                   have b1 := z2.blk X1.out (by simp)
                   have d1 := b1.cell (3 + k)
                   have d2 := b1.frozen (3 + k)
                   rw [List.getElem?_toArray, X8.out] at d1
                   have B2 := Lib.hid (b1.set_ (3 + k) (.slice A2 l.length cp2))
                   have Z1 := Lib.hid z1
                   have Z2 := Lib.hid z2
                   clear b1 z1 z2)
      go_roundw
      case rel =>
        have ks : Kept [w.heap.size] w2 (w2.setCell ⟨w.heap.size, 3 + k, none⟩ (.slice A2 l.length cp2)) := Kept.setCell (by simp) _ _
        have hnew : ∀ b, (Value.slice A2 l.length cp2).ownBlock = some b → wr.heap.size ≤ b := fun b hb => (Z1.out.lt b hb).1
        have hold : ∀ (j : Nat) (u : Value) (b : Nat), us[j]? = some u → u.ownBlock = some b → w.heap.size + 1 ≤ b ∧ b < wr.heap.size := by
          intro j u b hu hb
          have hj := (List.getElem?_eq_some_iff.1 hu).1
          have hj2 := X10.out
          have hlj : c.places[j]? = some (c.places[j]'(by rw [HT.out.ok.p17]; omega)) := List.getElem?_eq_getElem _
          exact (X2.out j u _ hu hlj).lt b hb
        have hsp : ∀ (j : Nat) (u : Value), (us ++ [.slice A2 l.length cp2])[j]? = some u → (j < k ∧ us[j]? = some u) ∨ (j = k ∧ u = .slice A2 l.length cp2) := by
          intro j u hu
          have hj2 := X10.out
          rcases Nat.lt_or_ge j k with h | h
          · rw [List.getElem?_append_left (by omega)] at hu
            exact .inl ⟨h, hu⟩
          · rw [List.getElem?_append_right (by omega)] at hu
            have : j - us.length = 0 := by
              rcases Nat.eq_zero_or_pos (j - us.length) with h | h
              · exact h
              · rw [List.getElem?_eq_none (by simp only [List.length_singleton]; omega)] at hu; simp at hu
            rw [this] at hu
            simp only [List.getElem?_cons_zero, Option.some.injEq] at hu
            exact .inr ⟨by omega, hu.symm⟩
        refine ⟨k + 1, us ++ [.slice A2 l.length cp2], by omega, by simp [X10.out], by go_num, ?_, ?_, ?_, ?_, ?_⟩
        · have := B2.out
          rw [X7.out] at this
          exact this
        · intro j u l' hu hl'
          rcases hsp j u hu with ⟨_, h1⟩ | ⟨rfl, rfl⟩
          · refine ks.own (Z2.out.own (X2.out j u l' h1 hl') (by simp)) fun b hb => ?_
            have := hold j u b h1 hb
            simp only [List.mem_singleton]
            omega
          · rw [X9.out] at hl'
            simp only [Option.some.injEq] at hl'
            subst hl'
            refine own_base (ks.own Z1.out fun b hb => ?_) (by omega)
            have := hnew b hb
            simp only [List.mem_singleton]
            omega
        · intro i j u v' b hi hj hb hb'
          rcases hsp i u hi with ⟨h1, h2⟩ | ⟨h1, rfl⟩
          · rcases hsp j v' hj with ⟨h3, h4⟩ | ⟨h3, rfl⟩
            · exact X3.out i j u v' b h2 h4 hb hb'
            · have := hold i u b h2 hb
              have := hnew b hb'
              omega
          · rcases hsp j v' hj with ⟨h3, h4⟩ | ⟨h3, rfl⟩
            · have := hold j v' b h4 hb'
              have := hnew b hb
              omega
            · omega
        · exact ((X4.out.trans' Z2.out).nil_mono.trans' ks).nil_new (by simp)
        · exact ks.map (Z2.out.map X5.out (by simp)) (by simp)
      case measure => simp [intOf]; omega
    · obtain rfl : k = 17 := by omega
      have hd : pv.drop 17 = [] := List.drop_eq_nil_of_le (by rw [HT.out.plen]; omega)
      rw [hd, List.append_nil] at hB
      have X1 := Lib.hid hB
      have X2 := Lib.hid hO
      have X3 := Lib.hid hN
      have X4 := Lib.hid hK
      have X5 := Lib.hid hM
      have X10 := Lib.hid hus
      clear hB hO hN hK hM hus hd
      go_wp2
      go_ret
      refine ⟨w.heap.size, _, rfl, ⟨w.heap.size + 1, us, m, ⟨X1.out, X5.out, HT.out.perm, X10.out, fun k v l hv hl => own_base (X2.out k v l hv hl) (Nat.zero_le _), X3.out, HT.out.ok⟩, rfl⟩, X4.out, ?_⟩
      intro x hx
      rcases mem_tfoot.1 hx with rfl | rfl | ⟨v, hv, hvb⟩
      · omega
      · omega
      · obtain ⟨j, hj⟩ := List.mem_iff_getElem?.1 hv
        have hj1 := (List.getElem?_eq_some_iff.1 hj).1
        have hj2 := X10.out
        have hlj : c.places[j]? = some (c.places[j]'(by rw [HT.out.ok.p17]; omega)) := List.getElem?_eq_getElem _
        have := ((X2.out j v _ hj hlj).lt x hvb).1
        omega
end
end Go.Proofs.Ytmndckeohfcgkaa
