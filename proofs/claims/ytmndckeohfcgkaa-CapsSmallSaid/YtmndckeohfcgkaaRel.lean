/- The plain law: the reference of layer 23 and the table of package caps. -/
import Derived.Test.YtmndckeohfcgkaaOver
namespace Go.Proofs.Ytmndckeohfcgkaa
structure Rel (nx : Int) (l : List RH) (c : CT) : Prop where
  next : c.next = nx
  live : c.live = liveH l
  places : ∀ k : Nat, k < 17 → c.places[k]? = some ((placesR l (k : Int)).map (·.serial))
  rts : ∀ h ∈ l, 0 ≤ h.rights ∧ h.rights ≤ 15
  hol : ∀ h ∈ l, 0 ≤ h.holder ∧ h.holder ≤ 16
  asc : l.Pairwise (fun a b => a.serial < b.serial)
  low : ∀ h ∈ l, h.serial < nx
section
variable {nx : Int} {l : List RH} {c : CT}
theorem rh_uniq (h : l.Pairwise (fun a b => a.serial < b.serial)) {a b : RH} (ha : a ∈ l) (hb : b ∈ l) (e : a.serial = b.serial) : a = b := by
  obtain ⟨i, hi, rfl⟩ := List.getElem_of_mem ha
  obtain ⟨j, hj, rfl⟩ := List.getElem_of_mem hb
  have hn := List.pairwise_iff_getElem.1 h
  rcases Nat.lt_trichotomy i j with hij | rfl | hij
  · have := hn i j hi hj hij; omega
  · rfl
  · have := hn j i hj hi hij; omega
theorem mem_liveR {x : RH} : x ∈ liveR l ↔ x ∈ l ∧ x.gone = false := by simp [liveR]
theorem mem_placesR {x : RH} {who : Int} : x ∈ placesR l who ↔ x ∈ l ∧ x.holder = who := by simp [placesR]
theorem find_liveH (l : List RH) (s : Int) : (liveH l).find? (fun h => h.serial == s) = ((liveR l).find? (fun h => h.serial == s)).map toH := by
  unfold liveH
  rw [List.find?_map]
  rfl
theorem Rel.cget (r : Rel nx l c) (s : Int) : c.get s = ((liveR l).find? (fun h => h.serial == s)).map toH := by
  unfold CT.get
  rw [r.live, find_liveH]
theorem Rel.get (r : Rel nx l c) (s : Int) : c.getRes s = (toH (getR l s).1, (getR l s).2) := by
  unfold CT.getRes getR
  rw [r.cget]
  cases (liveR l).find? (fun h => h.serial == s) <;> rfl
theorem Rel.below (r : Rel nx l c) (s : Int) : c.belowRes s = belowR l s := by
  unfold CT.belowRes belowR
  rw [r.cget, r.live]
  cases (liveR l).find? (fun h => h.serial == s) <;> rfl
theorem Rel.getRts (r : Rel nx l c) (s : Int) : 0 ≤ (getR l s).1.rights ∧ (getR l s).1.rights ≤ 15 := by
  unfold getR
  cases e : (liveR l).find? (fun h => h.serial == s) with
  | none => exact ⟨Int.le_refl _, by decide⟩
  | some h => exact r.rts h (mem_liveR.1 (List.mem_of_find?_eq_some e)).1
theorem find_mem (ha : l.Pairwise (fun a b => a.serial < b.serial)) {x : RH} (hx : x ∈ l) : (liveR l).find? (fun h => h.serial == x.serial) = if x.gone = true then none else some x := by
  cases e : (liveR l).find? (fun h => h.serial == x.serial) with
  | none =>
    split
    · rfl
    · rename_i hg
      have := List.find?_eq_none.1 e x (mem_liveR.2 ⟨hx, by simpa using hg⟩)
      simp at this
  | some y =>
    have h1 := mem_liveR.1 (List.mem_of_find?_eq_some e)
    have h2 : y.serial = x.serial := by simpa using List.find?_some e
    have := rh_uniq ha h1.1 hx h2
    subst this
    rw [h1.2]
    rfl
theorem Rel.place (r : Rel nx l c) (who i : Int) : c.placeRes who i = (toH (placeR l who i).1, (placeR l who i).2) := by
  unfold CT.placeRes placeR
  cases hh : holds who with
  | false => rfl
  | true =>
    obtain ⟨k, rfl⟩ : ∃ k : Nat, who = (k : Int) := ⟨who.toNat, by simp [holds] at hh; omega⟩
    have hk : k < 17 := by simp [holds] at hh; omega
    rw [show ((k : Int)).toNat = k by omega, r.places k hk]
    simp only [Option.getD_some, Bool.true_eq_false, if_false]
    by_cases hi : 0 ≤ i
    · rw [if_pos hi, if_pos hi, List.getElem?_map]
      cases hx : (placesR l (k : Int))[i.toNat]? with
      | none => rfl
      | some x =>
        have hm := (mem_placesR.1 (List.mem_of_getElem? hx)).1
        have hf := r.cget x.serial
        rw [find_mem r.asc hm] at hf
        simp only [Option.map_some]
        rw [hf]
        by_cases hg : x.gone = true
        · rw [if_pos hg, if_pos hg]; rfl
        · rw [if_neg hg, if_neg hg]; rfl
    · rw [if_neg hi, if_neg hi]; rfl
theorem Rel.placeRts (r : Rel nx l c) (who i : Int) : 0 ≤ (placeR l who i).1.rights ∧ (placeR l who i).1.rights ≤ 15 := by
  have h0 : 0 ≤ noRH.rights ∧ noRH.rights ≤ 15 := ⟨Int.le_refl _, by decide⟩
  unfold placeR
  split
  · exact h0
  · split
    · exact h0
    · rename_i h e
      split
      · exact h0
      · split at e
        · exact r.rts h (mem_placesR.1 (List.mem_of_getElem? e)).1
        · cases e
theorem Rel.at (r : Rel nx l c) (who : Int) : c.at who = (placesR l who).map (·.serial) := by
  unfold CT.at
  cases hh : holds who with
  | true =>
    obtain ⟨k, rfl⟩ : ∃ k : Nat, who = (k : Int) := ⟨who.toNat, by simp [holds] at hh; omega⟩
    have hk : k < 17 := by simp [holds] at hh; omega
    rw [show ((k : Int)).toNat = k by omega, r.places k hk]
    rfl
  | false =>
    have : placesR l who = [] := by
      unfold placesR
      rw [List.filter_eq_nil_iff]
      intro h hm e
      have := r.hol h hm
      simp only [beq_iff_eq] at e
      simp [holds] at hh
      omega
    rw [this]
    rfl
theorem Rel.len (r : Rel nx l c) : c.live.length = (liveR l).length := by rw [r.live]; simp [liveH]
theorem Rel.live_get (r : Rel nx l c) {i : Nat} {x : RH} (hx : (liveR l)[i]? = some x) : c.live[i]? = some (toH x) := by
  rw [r.live]; unfold liveH; rw [List.getElem?_map, hx]; rfl
theorem Rel.port (r : Rel nx l c) (p : Int) : ofPort c.live p = portL (liveR l) p := by
  unfold ofPort portL
  rw [r.live]
  unfold liveH
  rw [List.filter_map, List.map_map]
  rfl
theorem Rel.new (n : Int) : Rel n [] (newCT n) where
  next := rfl
  live := rfl
  places := fun k hk => by
    unfold newCT
    simp only
    rw [List.getElem?_replicate, if_pos hk]
    rfl
  rts := by simp
  hol := by simp
  asc := List.Pairwise.nil
  low := by simp
theorem Rel.add (r : Rel nx l c) (x : RH) (hx0 : 0 ≤ x.holder) (hx1 : x.holder ≤ 16) (hr0 : 0 ≤ x.rights) (hr1 : x.rights ≤ 15) (hg : x.gone = false) : Rel (nx + 1) (l ++ [{ x with serial := nx }]) (c.add (toH x)) where
  next := by simp only [CT.add]; rw [r.next]
  live := by
    simp only [CT.add]
    rw [r.live, r.next]
    unfold liveH liveR
    rw [List.filter_append, List.map_append]
    simp [toH, hg]
  places := fun k hk => by
    simp only [CT.add]
    rw [modify_get, r.places k hk, r.next]
    have e : placesR (l ++ [{ x with serial := nx }]) (k : Int) = placesR l (k : Int) ++ if x.holder = (k : Int) then [{ x with serial := nx }] else [] := by
      unfold placesR
      rw [List.filter_append]
      by_cases h : x.holder = (k : Int)
      · simp [h]
      · simp [h]
    rw [e]
    by_cases h : x.holder = (k : Int)
    · have : (toH x).holder.toNat = k := by simp only [toH]; omega
      rw [if_pos this, if_pos h]
      simp
    · have : ¬ (toH x).holder.toNat = k := by simp only [toH]; omega
      rw [if_neg this, if_neg h]
      simp
  rts := fun h hh => by
    rcases List.mem_append.1 hh with hh | hh
    · exact r.rts h hh
    · obtain rfl := List.mem_singleton.1 hh
      exact ⟨hr0, hr1⟩
  hol := fun h hh => by
    rcases List.mem_append.1 hh with hh | hh
    · exact r.hol h hh
    · obtain rfl := List.mem_singleton.1 hh
      exact ⟨hx0, hx1⟩
  asc := by
    rw [List.pairwise_append]
    refine ⟨r.asc, List.pairwise_singleton _ _, fun a ha b hb => ?_⟩
    obtain rfl := List.mem_singleton.1 hb
    exact r.low a ha
  low := fun h hh => by
    rcases List.mem_append.1 hh with hh | hh
    · have := r.low h hh; omega
    · obtain rfl := List.mem_singleton.1 hh
      simp only
      omega
theorem goneR_serial (ss : List Int) (h : RH) : (goneR ss h).serial = h.serial := by unfold goneR; split <;> rfl
theorem goneR_holder (ss : List Int) (h : RH) : (goneR ss h).holder = h.holder := by unfold goneR; split <;> rfl
theorem goneR_rights (ss : List Int) (h : RH) : (goneR ss h).rights = h.rights := by unfold goneR; split <;> rfl
theorem live_takeR (l : List RH) (ss : List Int) : liveR (takeR l ss) = (liveR l).filter fun h => !ss.contains h.serial := by
  induction l with
  | nil => rfl
  | cons x l ih =>
    have h1 : takeR (x :: l) ss = goneR ss x :: takeR l ss := rfl
    rw [h1]
    unfold liveR at ih ⊢
    rw [List.filter_cons, List.filter_cons, ih]
    by_cases hc : ss.contains x.serial = true
    · have e1 : (goneR ss x).gone = true := by unfold goneR; rw [if_pos hc]
      rw [e1]
      cases hg : x.gone with
      | true => simp
      | false =>
        simp only [Bool.not_true, Bool.false_eq_true, if_false, Bool.not_false, if_true]
        rw [List.filter_cons, hc]
        simp
    · have e1 : goneR ss x = x := by unfold goneR; rw [if_neg hc]
      rw [e1]
      cases hg : x.gone with
      | true => simp
      | false =>
        simp only [Bool.not_false, if_true]
        rw [List.filter_cons]
        simp only [Bool.not_eq_true] at hc
        rw [hc]
        simp
theorem places_takeR (l : List RH) (ss : List Int) (who : Int) : (placesR (takeR l ss) who).map (·.serial) = (placesR l who).map (·.serial) := by
  unfold placesR takeR
  rw [List.filter_map, List.map_map]
  have e1 : ((fun h : RH => h.holder == who) ∘ goneR ss) = fun h => h.holder == who := by
    funext h; simp only [Function.comp_apply, goneR_holder]
  have e2 : ((fun h : RH => h.serial) ∘ goneR ss) = fun h => h.serial := by
    funext h; simp only [Function.comp_apply, goneR_serial]
  rw [e1, e2]
theorem takeR_len (l : List RH) (ss : List Int) : (takeR l ss).length = l.length := by simp [takeR]
theorem mem_takeR {ss : List Int} {h : RH} (hh : h ∈ takeR l ss) : ∃ x ∈ l, h.serial = x.serial ∧ h.holder = x.holder ∧ h.rights = x.rights := by
  obtain ⟨x, hx, rfl⟩ := List.mem_map.1 hh
  exact ⟨x, hx, goneR_serial _ _, goneR_holder _ _, goneR_rights _ _⟩
theorem Rel.minus (r : Rel nx l c) (ss : List Int) : Rel nx (takeR l ss) (c.minus ss) where
  next := r.next
  live := by
    simp only [CT.minus]
    rw [r.live]
    unfold liveH
    rw [live_takeR, List.filter_map]
    rfl
  places := fun k hk => by
    rw [places_takeR]
    exact r.places k hk
  rts := fun h hh => by obtain ⟨x, hx, e1, e2, e3⟩ := mem_takeR hh; rw [e3]; exact r.rts x hx
  hol := fun h hh => by obtain ⟨x, hx, e1, e2, e3⟩ := mem_takeR hh; rw [e2]; exact r.hol x hx
  asc := by
    unfold takeR
    rw [List.pairwise_map]
    exact r.asc.imp fun h => by rw [goneR_serial, goneR_serial]; exact h
  low := fun h hh => by obtain ⟨x, hx, e1, e2, e3⟩ := mem_takeR hh; rw [e1]; exact r.low x hx
theorem Rel.revoke (r : Rel nx l c) (s : Int) : Rel nx (takeR l (belowR l s).1) (c.revoke s) := by
  unfold CT.revoke
  rw [r.below]
  exact r.minus _
theorem Rel.close (r : Rel nx l c) (p : Int) : Rel nx (takeR l (portL (liveR l) p)) (c.close p) := by
  unfold CT.close
  rw [r.port]
  exact r.minus _
/-! ### Root and Derive -/
def rootE (nx : Int) (port holder : Int) (t : Nat) : Int :=
  if ¬ (0 ≤ port ∧ port ≤ 4294967295) ∨ holds holder = false then 2 else if 15 < t then 220 else if 281474976710656 < nx then 4 else 0
def deriveE (nx : Int) (l : List RH) (s dst : Int) (t : Nat) : Int :=
  if (getR l s).2 ≠ 0 then (getR l s).2 else if holds dst = false then 2 else if handN (getR l s).1.rights.toNat t ≠ 0 then handN (getR l s).1.rights.toNat t else if 281474976710656 < nx then 4 else 0
def nextA (nx e : Int) : Int := if e = 0 then nx + 1 else nx
def listA (nx : Int) (l : List RH) (e : Int) (x : RH) : List RH := if e = 0 then l ++ [{ x with serial := nx }] else l
def serA (nx e : Int) : Int := if e = 0 then nx else 0
theorem Rel.addRes (r : Rel nx l c) (hn : l.length ≤ 200) {k : Int} (hk : holds k = true) : c.addRes k = (serA nx (if 281474976710656 < nx then 4 else 0), if 281474976710656 < nx then 4 else 0) := by
  have h1 := r.len
  have h2 := liveR_le l
  obtain ⟨j, rfl⟩ : ∃ j : Nat, k = (j : Int) := ⟨k.toNat, by simp [holds] at hk; omega⟩
  have hj : j < 17 := by simp [holds] at hk; omega
  have h3 := placesR_le l (j : Int)
  unfold CT.addRes serA
  rw [show ((j : Int)).toNat = j by omega, r.places j hj, r.next, if_neg (by omega)]
  simp only [Option.getD_some, List.length_map]
  by_cases hx : 281474976710656 < nx
  · simp [hx]
  · have : ¬ (281474976710656 < nx ∨ 256 ≤ (placesR l (j : Int)).length) := by omega
    rw [if_neg this, if_neg hx]
    simp
theorem Rel.root (r : Rel nx l c) (hn : l.length ≤ 200) (port holder : Int) (t : Nat) :
    c.rootRes port holder t = (serA nx (rootE nx port holder t), rootE nx port holder t) ∧ Rel (nextA nx (rootE nx port holder t)) (listA nx l (rootE nx port holder t) ⟨0, 0, port, holder, t, false⟩) (c.root port holder t) := by
  have h1 : c.rootRes port holder t = (serA nx (rootE nx port holder t), rootE nx port holder t) := by
    unfold CT.rootRes rootE
    by_cases h : ¬ (0 ≤ port ∧ port ≤ 4294967295) ∨ holds holder = false
    · rw [if_pos h, if_pos h]; rfl
    · rw [if_neg h, if_neg h]
      by_cases ht : 15 < t
      · rw [if_pos ht, if_pos ht]; rfl
      · rw [if_neg ht, if_neg ht]
        exact r.addRes hn (by simp only [not_or, Bool.not_eq_false] at h; exact h.2)
  refine ⟨h1, ?_⟩
  unfold CT.root nextA listA
  rw [h1]
  simp only
  by_cases e : rootE nx port holder t = 0
  · rw [if_pos e, if_pos e, if_pos e]
    have hh : holds holder = true ∧ t ≤ 15 := by
      unfold rootE at e
      split at e
      · cases e
      · rename_i h
        simp only [not_or, Bool.not_eq_false] at h
        split at e
        · cases e
        · exact ⟨h.2, by omega⟩
    have hh1 := hh.1
    simp [holds] at hh1
    have := r.add ⟨0, 0, port, holder, t, false⟩ hh1.1 hh1.2 (by simp only; omega) (by simp only; omega) rfl
    simpa [toH] using this
  · rw [if_neg e, if_neg e, if_neg e]
    exact r
theorem Rel.derive (r : Rel nx l c) (hn : l.length ≤ 200) (s dst : Int) (t : Nat) :
    c.deriveRes s dst t = (serA nx (deriveE nx l s dst t), deriveE nx l s dst t) ∧ Rel (nextA nx (deriveE nx l s dst t)) (listA nx l (deriveE nx l s dst t) ⟨0, s, (getR l s).1.port, dst, t, false⟩) (c.derive s dst t) := by
  have hg := r.cget s
  have h1 : c.deriveRes s dst t = (serA nx (deriveE nx l s dst t), deriveE nx l s dst t) ∧ (deriveE nx l s dst t = 0 → holds dst = true ∧ t ≤ 15 ∧ ((c.get s).getD noHd).port = (getR l s).1.port) := by
    unfold CT.deriveRes deriveE getR
    rw [hg]
    cases e0 : (liveR l).find? (fun h => h.serial == s) with
    | none => exact ⟨rfl, fun h => by simp at h⟩
    | some x =>
      simp only [Option.map_some, ne_eq, not_true, if_false]
      by_cases h : holds dst = false
      · rw [if_pos h, if_pos h]
        exact ⟨rfl, fun h => by cases h⟩
      · rw [if_neg h, if_neg h]
        by_cases h2 : handN x.rights.toNat t = 0
        · have h2' : ¬ ¬ handN (toH x).rights t = 0 := fun h => h h2
          rw [if_neg h2', if_neg (fun h => h h2)]
          refine ⟨r.addRes hn (by simpa using h), fun _ => ⟨by simpa using h, ?_, rfl⟩⟩
          unfold handN at h2
          split at h2
          · cases h2
          · omega
        · have h2' : ¬ handN (toH x).rights t = 0 := h2
          rw [if_pos h2', if_pos h2]
          refine ⟨?_, fun h => absurd h h2⟩
          unfold serA
          rw [if_neg h2]
          rfl
  refine ⟨h1.1, ?_⟩
  unfold CT.derive nextA listA
  rw [h1.1]
  simp only
  by_cases e : deriveE nx l s dst t = 0
  · obtain ⟨h2, h3, h4⟩ := h1.2 e
    rw [if_pos e, if_pos e, if_pos e, h4]
    simp [holds] at h2
    have := r.add ⟨0, s, (getR l s).1.port, dst, t, false⟩ h2.1 h2.2 (by simp only; omega) (by simp only; omega) rfl
    simpa [toH] using this
  · rw [if_neg e, if_neg e, if_neg e]
    exact r
theorem listA_len (nx : Int) (l : List RH) (e : Int) (x : RH) : (listA nx l e x).length ≤ l.length + 1 := by
  unfold listA; split <;> simp
theorem next_bound {e : Int} (h : nx ≤ 281474976710657) (he : e = 0 → nx ≤ 281474976710656) : nextA nx e ≤ 281474976710657 := by
  unfold nextA; split
  · rename_i h0; have := he h0; omega
  · exact h
end
end Go.Proofs.Ytmndckeohfcgkaa
