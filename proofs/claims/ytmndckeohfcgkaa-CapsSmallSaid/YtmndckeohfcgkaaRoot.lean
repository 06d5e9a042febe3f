/- add of package caps as a law on tables; the walks of Root and Derive. -/
import Derived.Test.YtmndckeohfcgkaaAdd
namespace Go.Proofs.Ytmndckeohfcgkaa
open Go.RowKit
open Go.ChangeMaps (setBlock)

/-- What a call does to a table: it holds c', in blocks of its own or new ones; nothing else is written. -/
def Turns (w w' : World) (a : Nat) (F : List Nat) (c' : CT) : Prop :=
  ∃ F', IsTab w' a c' F' ∧ Kept F w w' ∧ ∀ b ∈ F', b ∈ F ∨ w.heap.size ≤ b
section
variable {w w' : World} {a r : Nat} {c : CT} {pv : List Value} {m : List (Int × Hd)} {F : List Nat}
theorem Turns.same (h : IsTab w a c F) (hk : Kept [] w w') : Turns w w' a F c := ⟨F, h.keptNil hk, hk.nil_mono, fun b hb => .inl hb⟩
theorem modify_get (ps : List (List Int)) (n k : Nat) (f : List Int → List Int) : (ps.modify n f)[k]? = if n = k then ps[k]?.map f else ps[k]? := by
  rw [List.getElem?_modify]
  by_cases e : n = k
  · simp [e]
  · simp [e]
/-- What may be added to a table. -/
def CT.fit (c : CT) (h : Hd) : Prop :=
  (h.parent = 0 ∨ ∃ p ∈ c.live, p.serial = h.parent ∧ p.port = h.port ∧ grants p.rights = true ∧ belowB h.rights p.rights = true) ∧ (0 ≤ h.holder ∧ h.holder ≤ 16) ∧ (0 ≤ h.port ∧ h.port ≤ 4294967295) ∧ h.rights ≤ 15
theorem CT.add_ok (ok : c.ok) {h : Hd} (hf : c.fit h) (h1 : c.live.length < 256) (h2 : c.next ≤ 281474976710656) (h3 : (c.places[h.holder.toNat]?.getD []).length < 256) : (c.add h).ok := by
  have hmod : ∀ (k : Nat) (l : List Int), (c.places.modify h.holder.toNat fun l => l ++ [c.next])[k]? = some l → (k = h.holder.toNat ∧ ∃ l0, c.places[k]? = some l0 ∧ l = l0 ++ [c.next]) ∨ (k ≠ h.holder.toNat ∧ c.places[k]? = some l) := by
    intro k l hl
    rw [modify_get] at hl
    by_cases e : h.holder.toNat = k
    · rw [if_pos e] at hl
      obtain ⟨l0, h1, h2⟩ := Option.map_eq_some_iff.1 hl
      exact .inl ⟨e.symm, l0, h1, h2.symm⟩
    · rw [if_neg e] at hl
      exact .inr ⟨fun e' => e e'.symm, hl⟩
  have hmem : ∀ l ∈ (c.places.modify h.holder.toNat fun l => l ++ [c.next]), l ∈ c.places ∨ ∃ l0, c.places[h.holder.toNat]? = some l0 ∧ l = l0 ++ [c.next] := by
    intro l hl
    obtain ⟨k, hk⟩ := List.mem_iff_getElem?.1 hl
    rcases hmod k l hk with ⟨rfl, l0, h1, h2⟩ | ⟨_, h1⟩
    · exact .inr ⟨l0, h1, h2⟩
    · exact .inl (List.mem_of_getElem? h1)
  obtain ⟨f1, f2, f3, f4⟩ := hf
  refine ⟨?_, ?_, ?_, ?_, ?_, ?_, ?_, ?_, ?_, ?_, ?_, ?_, ?_, ?_, ?_⟩
  · have := ok.n1; simp only [CT.add]; omega
  · simp only [CT.add]; omega
  · simp only [CT.add]
    refine List.pairwise_append.2 ⟨ok.asc, by simp, fun x hx y hy => ?_⟩
    simp only [List.mem_singleton] at hy
    subst hy
    exact (ok.low x hx).2
  · intro x hx
    simp only [CT.add, List.mem_append, List.mem_singleton] at hx ⊢
    rcases hx with hx | rfl
    · have := ok.low x hx; omega
    · have := ok.n1
      simp only
      omega
  · intro x hx
    simp only [CT.add, List.mem_append, List.mem_singleton] at hx ⊢
    rcases hx with hx | rfl
    · rcases ok.par x hx with h0 | ⟨p, hp, h0⟩
      · exact .inl h0
      · exact .inr ⟨p, .inl hp, h0⟩
    · rcases f1 with h0 | ⟨p, hp, h0, h1, h2, h3⟩
      · exact .inl h0
      · exact .inr ⟨p, .inl hp, h0, (ok.low p hp).2, h1, h2, h3⟩
  · intro x hx
    simp only [CT.add, List.mem_append, List.mem_singleton] at hx
    rcases hx with hx | rfl
    · exact ok.hol x hx
    · exact f2
  · intro x hx
    simp only [CT.add, List.mem_append, List.mem_singleton] at hx
    rcases hx with hx | rfl
    · exact ok.prt x hx
    · exact f3
  · intro x hx
    simp only [CT.add, List.mem_append, List.mem_singleton] at hx
    rcases hx with hx | rfl
    · exact ok.rts x hx
    · exact f4
  · simp only [CT.add, List.length_append, List.length_singleton]; omega
  · simp only [CT.add, List.length_modify]; exact ok.p17
  · intro l hl
    rcases hmem l hl with hl | ⟨l0, e0, rfl⟩
    · exact ok.pfew l hl
    · rw [e0] at h3
      simp only [Option.getD_some] at h3
      simp only [List.length_append, List.length_singleton]; omega
  · intro l hl
    rcases hmem l hl with hl | ⟨l0, e0, rfl⟩
    · exact ok.pasc l hl
    · have hl0 := List.mem_of_getElem? e0
      refine List.pairwise_append.2 ⟨ok.pasc l0 hl0, by simp, fun x hx y hy => ?_⟩
      simp only [List.mem_singleton] at hy
      subst hy
      exact (ok.plow l0 hl0 x hx).2
  · intro l hl s hs
    simp only [CT.add]
    have := ok.n1
    rcases hmem l hl with hl | ⟨l0, e0, rfl⟩
    · have := ok.plow l hl s hs; omega
    · rcases List.mem_append.1 hs with hs | hs
      · have := ok.plow l0 (List.mem_of_getElem? e0) s hs; omega
      · simp only [List.mem_singleton] at hs
        omega
  · intro x hx
    simp only [CT.add, List.mem_append, List.mem_singleton] at hx ⊢
    rcases hx with hx | rfl
    · obtain ⟨l, hl, hs⟩ := ok.pin x hx
      by_cases e : h.holder.toNat = x.holder.toNat
      · exact ⟨l ++ [c.next], by rw [modify_get, if_pos e, hl]; rfl, List.mem_append_left _ hs⟩
      · exact ⟨l, by rw [modify_get, if_neg e, hl], hs⟩
    · have hlt : h.holder.toNat < c.places.length := by rw [ok.p17]; omega
      exact ⟨c.places[h.holder.toNat] ++ [c.next], by simp [List.getElem?_modify, List.getElem?_eq_getElem hlt], by simp⟩
  · intro x hx k l hl hs
    simp only [CT.add, List.mem_append, List.mem_singleton] at hx hl
    rcases hmod k l hl with ⟨rfl, l0, e0, rfl⟩ | ⟨hne, e0⟩
    · rcases List.mem_append.1 hs with hs | hs
      · rcases hx with hx | rfl
        · exact ok.pwho x hx _ l0 e0 hs
        · have := ok.plow l0 (List.mem_of_getElem? e0) _ hs
          simp only at this
          omega
      · simp only [List.mem_singleton] at hs
        rcases hx with hx | rfl
        · have := ok.low x hx; omega
        · simp only; omega
    · rcases hx with hx | rfl
      · exact ok.pwho x hx _ l e0 hs
      · have := ok.plow l (List.mem_of_getElem? e0) _ hs
        simp only at this
        omega

def CT.added (c : CT) (h : Hd) : CT := if (c.addRes h.holder).2 = 0 then c.add h else c
theorem add_calls (H : IsTab w a c F) {h : Hd} (hf : c.fit h) :
    Calls Try.prog 47 #[.pointer (some ⟨a, 0, none⟩), h.val] w fun e w' => e = .returned (.tuple #[.int .i64 (c.addRes h.holder).1, .int .i64 (c.addRes h.holder).2]) ∧ Turns w w' a F (c.added h) := by
  have H0 := H
  obtain ⟨r, pv, m, T, rfl⟩ := H
  obtain ⟨s0, p, o, q, t⟩ := h
  obtain ⟨j, rfl⟩ : ∃ j : Nat, q = (j : Int) := ⟨q.toNat, by have := hf.2.1; simp only at this; omega⟩
  have hj : j < 17 := by have := hf.2.1; simp only at this; omega
  obtain ⟨v, l, hv, hl, hown⟩ := T.at hj
  obtain ⟨A, cp, rfl⟩ := own_slice hown
  have hsz := T.size
  have ejt : ((j : Int)).toNat = j := by omega
  by_cases h1 : 256 ≤ c.live.length
  · have e : c.addRes (j : Int) = (0, 5) := by unfold CT.addRes; rw [if_pos h1]
    unfold CT.added
    simp only [e]
    refine (add_many T.handles T.map hsz h1).mono ?_
    rintro e w' ⟨rfl, hk⟩
    exact ⟨rfl, by rw [if_neg (by decide)]; exact Turns.same H0 hk⟩
  · by_cases h2 : 281474976710656 < c.next ∨ 256 ≤ l.length
    · have e : c.addRes (j : Int) = (0, 4) := by unfold CT.addRes; rw [if_neg h1, ejt, hl, if_pos (by simpa using h2)]
      unfold CT.added
      simp only [e]
      refine (add_full (q := 0) T.next T.handles (T.cellP hv) hj T.map hsz (by omega) h2).mono ?_
      rintro e w' ⟨rfl, hk⟩
      exact ⟨rfl, by rw [if_neg (by decide)]; exact Turns.same H0 hk⟩
    · have h2a : c.next ≤ 281474976710656 := by omega
      have h2b : l.length < 256 := by omega
      have e : c.addRes (j : Int) = (c.next, 0) := by unfold CT.addRes; rw [if_neg h1, ejt, hl, if_neg (by simpa using h2)]
      have hok := CT.add_ok T.ok hf (by omega) h2a (by simp only; rw [ejt, hl]; exact h2b)
      unfold CT.added
      simp only [e, if_true]
      refine (add_new T.blk hv hj T.map (by omega) h2a T.ok.n1 h2b hown).mono ?_
      rintro e w' ⟨rfl, v', W, w2, kW, bW, mW, hg, hown', hloc, rfl⟩
      generalize hrow : (Value.slice A l.length cp).ownBlock = row at *
      have hvm := List.mem_of_getElem? hv
      have hpl : j < pv.length := by rw [T.plen]; exact hj
      have hra := T.ra
      have hrow1 : ∀ b, row = some b → b ≠ a ∧ b ≠ r ∧ b < w.heap.size := fun b hb => by
        have := T.pa hvm (hrow.trans hb)
        exact ⟨this.1, this.2, own_lt hown (hrow.trans hb)⟩
      have hal := T.blk.lt
      have hrl := T.map.lt
      have kg : Kept row.toList W w2 := Kept.grown hg (by simp)
      have ks : Kept [a] w2 (w2.setCell ⟨a, 3 + j, none⟩ v') := Kept.setCell (by simp) _ _
      have hsub : ∀ b ∈ row.toList, b ∈ tfoot a r pv := fun b hb => mem_tfoot.2 (.inr (.inr ⟨_, hvm, by rw [hrow]; simpa using hb⟩))
      have kall : Kept (tfoot a r pv) w (w2.setCell ⟨a, 3 + j, none⟩ v') := by
        refine ((kW.mono ?_).trans' (kg.mono fun b hb _ => hsub b hb)).trans' (ks.mono ?_)
        · intro b hb _
          simp only [List.mem_cons, List.not_mem_nil, or_false] at hb
          rcases hb with rfl | rfl <;> simp [mem_tfoot]
        · intro b hb _
          simp only [List.mem_singleton] at hb
          subst hb
          simp [mem_tfoot]
      have hv1 : ∀ b, v'.ownBlock = some b → b ≠ a ∧ b ≠ r ∧ (row = some b ∨ w.heap.size ≤ b) := fun b hb => by
        rcases hloc with e | e
        · rw [hb] at e
          have := hrow1 b e.symm
          exact ⟨this.1, this.2.1, .inl e.symm⟩
        · rw [hb] at e
          simp only [Option.some.injEq] at e
          have := kW.size
          exact ⟨by omega, by omega, .inr (by omega)⟩
      have hset : ∀ (k : Nat) (u : Value), (pv.set j v')[k]? = some u → (k = j ∧ u = v') ∨ (k ≠ j ∧ pv[k]? = some u) := by
        intro k u hu
        by_cases ek : k = j
        · subst ek
          rw [List.getElem?_set_self hpl] at hu
          simp only [Option.some.injEq] at hu
          exact .inl ⟨rfl, hu.symm⟩
        · rw [List.getElem?_set_ne (fun e => ek e.symm)] at hu
          exact .inr ⟨ek, hu⟩
      have hold : ∀ (k : Nat) (u : Value) (b : Nat), k ≠ j → pv[k]? = some u → u.ownBlock = some b → row ≠ some b ∧ b < w.heap.size ∧ b ≠ a ∧ b ≠ r := by
        intro k u b ek hu hb
        obtain ⟨l', _, ho⟩ := T.place hu
        have h3 := T.pa (List.mem_of_getElem? hu) hb
        exact ⟨fun e => ek (T.pnd k j _ _ b hu hv hb (hrow.trans e)), own_lt ho hb, h3.1, h3.2⟩
      refine ⟨rfl, tfoot a r (pv.set j v'), ⟨r, pv.set j v', mput c.next ⟨c.next, p, o, (j : Int), t⟩ m, ⟨?_, ?_, ?_, ?_, ?_, ?_, hok⟩, rfl⟩, kall, ?_⟩
      · have b1 := (grown_blk hg bW (fun e => (hrow1 a e).1 rfl)).set_ (3 + j) v'
        have e2 : (tarr (c.next + 1) r pv).setIfInBounds (3 + j) v' = (.bool true :: .int .i64 (c.add ⟨s0, p, o, (j : Int), t⟩).next :: .map (some r) :: pv.set j v').toArray := by
          unfold tarr CT.add
          rw [show 3 + j = j + 1 + 1 + 1 by omega]
          simp
        rw [e2] at b1
        exact b1
      · refine ks.map (kg.map mW ?_) (by simp [hra])
        intro hm
        have : row = some r := by simpa using hm
        exact (hrow1 r this).2.1 rfl
      · have hnk : c.next ∉ m.map (·.1) := by
          intro hm
          have h5 := (T.perm.map (·.1)).mem_iff.1 hm
          rw [ents_keys] at h5
          obtain ⟨x, hx, ex⟩ := List.mem_map.1 h5
          have := T.ok.low x hx
          omega
        rw [mput_new hnk]
        simp only [CT.ents, CT.add, List.map_append, List.map_cons, List.map_nil]
        exact T.perm.append (List.Perm.refl _)
      · rw [List.length_set]; exact T.plen
      · intro k u l' hu hl'
        simp only [CT.add, ejt] at hl'
        rw [modify_get] at hl'
        rcases hset k u hu with ⟨rfl, rfl⟩ | ⟨ek, hu⟩
        · rw [if_pos rfl, hl] at hl'
          simp only [Option.map_some, Option.some.injEq] at hl'
          subst hl'
          refine ks.own ?_ fun b hb => ?_
          · rw [List.length_append, List.map_append]
            exact hown'
          · simp only [List.mem_singleton]
            exact (hv1 b hb).1
        · rw [if_neg (fun e => ek e.symm)] at hl'
          refine ks.own (kg.own (kW.own (T.own k u l' hu hl') fun b hb => ?_) fun b hb => ?_) fun b hb => ?_
          · have := hold k u b ek hu hb
            simp only [List.mem_cons, List.not_mem_nil, or_false, not_or]
            exact ⟨this.2.2.1, this.2.2.2⟩
          · have := hold k u b ek hu hb
            simpa using this.1
          · have := hold k u b ek hu hb
            simpa using this.2.2.1
      · intro i k u u' b hi hk hb hb'
        rcases hset i u hi with ⟨rfl, rfl⟩ | ⟨ei, hi2⟩
        · rcases hset k u' hk with ⟨rfl, rfl⟩ | ⟨ek, hk2⟩
          · rfl
          · exfalso
            have h3 := hold k u' b ek hk2 hb'
            rcases (hv1 b hb).2.2 with h4 | h4
            · exact h3.1 h4
            · omega
        · rcases hset k u' hk with ⟨rfl, rfl⟩ | ⟨ek, hk2⟩
          · exfalso
            have h3 := hold i u b ei hi2 hb
            rcases (hv1 b hb').2.2 with h4 | h4
            · exact h3.1 h4
            · omega
          · exact T.pnd i k u u' b hi2 hk2 hb hb'
      · intro b hb
        rcases mem_tfoot.1 hb with rfl | rfl | ⟨u, hu, hub⟩
        · exact .inl (by simp [mem_tfoot])
        · exact .inl (by simp [mem_tfoot])
        · obtain ⟨k, hk⟩ := List.mem_iff_getElem?.1 hu
          rcases hset k u hk with ⟨rfl, rfl⟩ | ⟨ek, hk⟩
          · rcases (hv1 b hub).2.2 with h4 | h4
            · exact .inl (hsub b (by simpa using h4))
            · exact .inr h4
          · exact .inl (mem_tfoot.2 (.inr (.inr ⟨u, List.mem_of_getElem? hk, hub⟩)))

/-! ### Root, Derive -/
def CT.rootRes (c : CT) (port holder : Int) (t : Nat) : Int × Int :=
  if ¬ (0 ≤ port ∧ port ≤ 4294967295) ∨ holds holder = false then (0, 2)
  else if 15 < t then (0, 220)
  else c.addRes holder
def CT.root (c : CT) (port holder : Int) (t : Nat) : CT := if (c.rootRes port holder t).2 = 0 then c.add ⟨0, 0, port, holder, t⟩ else c
set_option maxRecDepth 100000 in
theorem root_port {port holder : Int} {t : Nat} (h0 : w.cell? ⟨a, 0, none⟩ = some (.bool true)) (hp : port < 0 ∨ 4294967295 < port) :
    Calls Try.prog 28 #[.pointer (some ⟨a, 0, none⟩), .int .i64 port, .int .i64 holder, .int .u8 (t : Int)] w fun e w' => e = .returned (.tuple #[.int .i64 0, .int .i64 2]) ∧ w = w' := by
  by_cases hx : port < 0
  · clear hp
    go_enter Try.func28, Try.ntmps28
    go_wp2_with (first | (go_at_call 37; refine (is_yes _ _ h0).mono ?_; rintro e w' ⟨rfl, rfl⟩) | (go_at_call 45; refine (holder_calls _ _).mono ?_; rintro e w' ⟨rfl, rfl⟩))
    go_ret2
    exact ⟨rfl, rfl⟩
  · have hx := hp.resolve_left hx
    clear hp
    go_enter Try.func28, Try.ntmps28
    go_wp2_with (first | (go_at_call 37; refine (is_yes _ _ h0).mono ?_; rintro e w' ⟨rfl, rfl⟩) | (go_at_call 45; refine (holder_calls _ _).mono ?_; rintro e w' ⟨rfl, rfl⟩))
    go_ret2
    exact ⟨rfl, rfl⟩
set_option maxRecDepth 100000 in
theorem root_holder {port holder : Int} {t : Nat} (h0 : w.cell? ⟨a, 0, none⟩ = some (.bool true)) (hp0 : 0 ≤ port) (hp1 : port ≤ 4294967295) (hh : holds holder = false) :
    Calls Try.prog 28 #[.pointer (some ⟨a, 0, none⟩), .int .i64 port, .int .i64 holder, .int .u8 (t : Int)] w fun e w' => e = .returned (.tuple #[.int .i64 0, .int .i64 2]) ∧ w = w' := by
  have hc := holder_calls w holder
  rw [hh] at hc
  have HC := Lib.hid hc
  clear hc hh
  go_enter Try.func28, Try.ntmps28
  go_wp2_with (first | (go_at_call 37; refine (is_yes _ _ h0).mono ?_; rintro e w' ⟨rfl, rfl⟩) | (go_at_call 45; refine HC.out.mono ?_; rintro e w' ⟨rfl, rfl⟩))
  go_ret2
  exact ⟨rfl, rfl⟩
set_option maxRecDepth 100000 in
theorem root_mask {port holder : Int} {t : Nat} (h0 : w.cell? ⟨a, 0, none⟩ = some (.bool true)) (hp0 : 0 ≤ port) (hp1 : port ≤ 4294967295) (hh : holds holder = true) (ht : 15 < t) :
    Calls Try.prog 28 #[.pointer (some ⟨a, 0, none⟩), .int .i64 port, .int .i64 holder, .int .u8 (t : Int)] w fun e w' => e = .returned (.tuple #[.int .i64 0, .int .i64 220]) ∧ Kept [] w w' := by
  have hc := holder_calls w holder
  rw [hh] at hc
  have HC := Lib.hid hc
  have hr := Right_calls w t
  rw [show decide (t ≤ 15) = false by simp; omega] at hr
  have HR := Lib.hid hr
  clear hc hh hr ht
  go_enter Try.func28, Try.ntmps28
  go_wp2_with (first | (go_at_call 37; refine (is_yes _ _ h0).mono ?_; rintro e w' ⟨rfl, rfl⟩) | (go_at_call 45; refine HC.out.mono ?_; rintro e w' ⟨rfl, rfl⟩) | (go_at_call 21; refine HR.out.mono ?_; rintro e w' ⟨rfl, hk⟩; have K := Lib.hid hk; clear hk))
  go_ret2
  exact ⟨rfl, K.out⟩
set_option maxRecDepth 100000 in
theorem root_in {port holder : Int} {t : Nat} {Q : Ending → World → Prop} (h0 : w.cell? ⟨a, 0, none⟩ = some (.bool true)) (hp0 : 0 ≤ port) (hp1 : port ≤ 4294967295) (hh : holds holder = true) (ht : t ≤ 15)
    {x y : Int} {T : World → Prop} (hadd : ∀ w1, Kept [] w w1 → Calls Try.prog 47 #[.pointer (some ⟨a, 0, none⟩), (Hd.mk 0 0 port holder t).val] w1 fun e w' => e = .returned (.tuple #[.int .i64 x, .int .i64 y]) ∧ T w') :
    Calls Try.prog 28 #[.pointer (some ⟨a, 0, none⟩), .int .i64 port, .int .i64 holder, .int .u8 (t : Int)] w fun e w' => e = .returned (.tuple #[.int .i64 x, .int .i64 y]) ∧ T w' := by
  have hc := holder_calls w holder
  rw [hh] at hc
  have HC := Lib.hid hc
  have hr := Right_calls w t
  rw [show decide (t ≤ 15) = true by simp; omega] at hr
  have HR := Lib.hid hr
  have HA := Lib.hid hadd
  clear hc hh hr ht hadd
  go_enter Try.func28, Try.ntmps28
  go_wp2_with (first | (go_at_call 37; refine (is_yes _ _ h0).mono ?_; rintro e w' ⟨rfl, rfl⟩) | (go_at_call 45; refine HC.out.mono ?_; rintro e w' ⟨rfl, rfl⟩) | (go_at_call 21; refine HR.out.mono ?_; rintro e w' ⟨rfl, hk⟩; have K := Lib.hid hk; clear hk) | (go_at_call 47; refine (HA.out _ K.out).mono ?_; rintro e w' ⟨rfl, hk⟩; have K2 := Lib.hid hk; clear hk))
  go_ret2
  exact ⟨rfl, K2.out⟩
theorem Turns.from {w1 : World} (hk : Kept [] w w1) (h : Turns w1 w' a F c) : Turns w w' a F c := by
  obtain ⟨F', h1, h2, h3⟩ := h
  exact ⟨F', h1, hk.nil_mono.trans' h2, fun b hb => (h3 b hb).imp id fun h => Nat.le_trans hk.size h⟩
theorem Root_calls (H : IsTab w a c F) (port holder : Int) (t : Nat) :
    Calls Try.prog 28 #[.pointer (some ⟨a, 0, none⟩), .int .i64 port, .int .i64 holder, .int .u8 (t : Int)] w fun e w' => e = .returned (.tuple #[.int .i64 (c.rootRes port holder t).1, .int .i64 (c.rootRes port holder t).2]) ∧ Turns w w' a F (c.root port holder t) := by
  have H0 := H
  obtain ⟨r, pv, m, T, rfl⟩ := H
  unfold CT.root
  by_cases hp : 0 ≤ port ∧ port ≤ 4294967295
  · cases hh : holds holder with
    | false =>
      have e : c.rootRes port holder t = (0, 2) := by unfold CT.rootRes; rw [if_pos (.inr hh)]
      simp only [e]
      refine (root_holder T.made hp.1 hp.2 hh).mono ?_
      rintro e w' ⟨rfl, rfl⟩
      exact ⟨rfl, Turns.same H0 (Kept.refl _ _)⟩
    | true =>
      have hno : ¬ (¬ (0 ≤ port ∧ port ≤ 4294967295) ∨ holds holder = false) := by simp [hp, hh]
      by_cases ht : 15 < t
      · have e : c.rootRes port holder t = (0, 220) := by unfold CT.rootRes; rw [if_neg hno, if_pos ht]
        simp only [e]
        refine (root_mask T.made hp.1 hp.2 hh ht).mono ?_
        rintro e w' ⟨rfl, hk⟩
        exact ⟨rfl, Turns.same H0 hk⟩
      · have e : c.rootRes port holder t = c.addRes holder := by unfold CT.rootRes; rw [if_neg hno, if_neg ht]
        simp only [e]
        have hh' : 0 ≤ holder ∧ holder ≤ 16 := by simpa [holds] using hh
        refine (root_in (Q := fun _ _ => True) T.made hp.1 hp.2 hh (by omega) (T := fun w' => Turns w w' a (tfoot a r pv) (c.added ⟨0, 0, port, holder, t⟩)) fun w1 hk => ?_)
        refine (add_calls (H0.keptNil hk) (h := ⟨0, 0, port, holder, t⟩) ⟨.inl rfl, hh', hp, by simp only; omega⟩).mono ?_
        rintro e w' ⟨rfl, ht⟩
        exact ⟨rfl, ht.from hk⟩
  · have e : c.rootRes port holder t = (0, 2) := by unfold CT.rootRes; rw [if_pos (.inl hp)]
    simp only [e]
    refine (root_port T.made (by omega)).mono ?_
    rintro e w' ⟨rfl, rfl⟩
    exact ⟨rfl, Turns.same H0 (Kept.refl _ _)⟩
end
end Go.Proofs.Ytmndckeohfcgkaa
