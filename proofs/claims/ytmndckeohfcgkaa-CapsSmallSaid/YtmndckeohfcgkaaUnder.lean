/- What is below a handle: plain laws, with no program in sight. -/
import Derived.Test.YtmndckeohfcgkaaTab
namespace Go.Proofs.Ytmndckeohfcgkaa

inductive Under (l : List Hd) (s : Int) : Int → Prop
  | self : Under l s s
  | step {h : Hd} : h ∈ l → Under l s h.parent → Under l s h.serial
/-- The serials of what is below a handle, in increasing order. -/
def below (l : List Hd) (s : Int) : List Int := l.foldl (fun acc h => if h.serial = s ∨ h.parent ∈ acc then acc ++ [h.serial] else acc) []
/-- Handles in the order of their serials, each behind its parent. -/
structure Tree (l : List Hd) : Prop where
  asc : l.Pairwise (fun a b => a.serial < b.serial)
  up : ∀ h ∈ l, h.parent < h.serial

section
variable {l : List Hd} {s x y : Int}
theorem CT.ok.tree {c : CT} (ok : c.ok) : Tree c.live := ⟨ok.asc, fun h hh => by
  have := ok.low h hh
  rcases ok.par h hh with h0 | ⟨p, _, h1, h2, _⟩ <;> omega⟩
theorem Tree.uniq (t : Tree l) {a b : Hd} (ha : a ∈ l) (hb : b ∈ l) (e : a.serial = b.serial) : a = b := by
  obtain ⟨i, hi, rfl⟩ := List.getElem_of_mem ha
  obtain ⟨j, hj, rfl⟩ := List.getElem_of_mem hb
  have hn := List.pairwise_iff_getElem.1 t.asc
  rcases Nat.lt_trichotomy i j with hij | rfl | hij
  · have := hn i j hi hj hij; omega
  · rfl
  · have := hn j i hj hi hij; omega
theorem Tree.nodup (t : Tree l) : (l.map (·.serial)).Nodup := by
  unfold List.Nodup
  rw [List.pairwise_map]
  exact t.asc.imp fun h => by omega
theorem Under.le (t : Tree l) (h : Under l s x) : s ≤ x := by
  induction h with
  | self => exact Int.le_refl _
  | step hh _ ih => have := t.up _ hh; omega
theorem Under.inv (h : Under l s x) : x = s ∨ ∃ a ∈ l, a.serial = x ∧ Under l s a.parent := by
  cases h with
  | self => exact .inl rfl
  | step hh h => exact .inr ⟨_, hh, rfl, h⟩
theorem Under.trans {z : Int} (h : Under l s x) (k : Under l x z) : Under l s z := by
  induction k with
  | self => exact h
  | step hh _ ih => exact .step hh ih
theorem under_first (x : Int) : Under l s x ↔ x = s ∨ ∃ h ∈ l, h.parent = s ∧ Under l h.serial x := by
  constructor
  · intro h
    induction h with
    | self => exact .inl rfl
    | @step a ha h ih =>
      rcases ih with e | ⟨b, hb, h1, h2⟩
      · exact .inr ⟨a, ha, e, .self⟩
      · exact .inr ⟨b, hb, h1, .step ha h2⟩
  · rintro (rfl | ⟨h, hh, rfl, hu⟩)
    · exact .self
    · exact (Under.step hh .self).trans hu
theorem under_meet (t : Tree l) {a b : Int} (ha : Under l a x) (hb : Under l b x) : Under l a b ∨ Under l b a := by
  induction ha with
  | self => exact .inr hb
  | @step h hh ha ih =>
    rcases hb.inv with rfl | ⟨k, hk, e, hb'⟩
    · exact .inl (.step hh ha)
    · have := t.uniq hk hh e
      subst this
      exact ih hb'
theorem below_snoc (l : List Hd) (h : Hd) (s : Int) : below (l ++ [h]) s = if h.serial = s ∨ h.parent ∈ below l s then below l s ++ [h.serial] else below l s := by
  unfold below
  rw [List.foldl_append]
  rfl
theorem below_sub (l : List Hd) (s : Int) : (below l s).Sublist (l.map (·.serial)) := by
  have : ∀ n, ∀ l : List Hd, l.length = n → (below l s).Sublist (l.map (·.serial)) := by
    intro n
    induction n with
    | zero => intro l hl; rw [List.eq_nil_of_length_eq_zero hl]; exact List.Sublist.slnil
    | succ n ih =>
      intro l hl
      rcases List.eq_nil_or_concat l with rfl | ⟨l', h, rfl⟩
      · simp at hl
      · rw [List.concat_eq_append] at hl ⊢
        have := ih l' (by simpa using hl)
        rw [below_snoc, List.map_append]
        split
        · exact this.append (List.Sublist.refl _)
        · exact this.trans (List.sublist_append_left _ _)
  exact this _ l rfl
theorem under_pre {y' : Hd} (t : Tree (l ++ [y'])) (hx : x < y'.serial) : Under (l ++ [y']) s x → Under l s x := by
  intro h
  induction h with
  | self => exact .self
  | @step a ha h ih =>
    rcases List.mem_append.1 ha with h1 | h1
    · exact .step h1 (ih (by have := t.up a ha; omega))
    · simp only [List.mem_singleton] at h1
      subst h1
      omega
theorem under_more {l' : List Hd} (hs : ∀ h ∈ l, h ∈ l') (h : Under l s x) : Under l' s x := by
  induction h with
  | self => exact .self
  | step ha _ ih => exact .step (hs _ ha) ih
theorem Tree.pre {l' : List Hd} (t : Tree (l ++ l')) : Tree l := ⟨(List.pairwise_append.1 t.asc).1, fun h hh => t.up h (List.mem_append_left _ hh)⟩
theorem mem_below (t : Tree l) : x ∈ below l s ↔ (∃ h ∈ l, h.serial = x) ∧ (Under l s x) ∧ ∃ h ∈ l, h.serial = s := by
  have : ∀ n, ∀ l : List Hd, l.length = n → Tree l → ∀ x, (x ∈ below l s ↔ (∃ h ∈ l, h.serial = x) ∧ (Under l s x) ∧ ∃ h ∈ l, h.serial = s) := by
    intro n
    induction n with
    | zero => intro l hl _ x; rw [List.eq_nil_of_length_eq_zero hl]; simp [below]
    | succ n ih =>
      intro l hl t x
      rcases List.eq_nil_or_concat l with rfl | ⟨l', h, rfl⟩
      · simp at hl
      · rw [List.concat_eq_append] at hl t ⊢
        have ih := ih l' (by simpa using hl) t.pre
        have hlast : ∀ a ∈ l', a.serial < h.serial := fun a ha => (List.pairwise_append.1 t.asc).2.2 a ha h (by simp)
        have hup := t.up h (by simp)
        rw [below_snoc]
        have hold : x ∈ below l' s ↔ x ≠ h.serial ∧ (∃ a ∈ l' ++ [h], a.serial = x) ∧ Under (l' ++ [h]) s x ∧ ∃ a ∈ l' ++ [h], a.serial = s := by
          rw [ih x]
          constructor
          · rintro ⟨⟨a, ha, rfl⟩, hu, b, hb, hs⟩
            have := hlast a ha
            exact ⟨by omega, ⟨a, by simp [ha], rfl⟩, under_more (by intro h hh; simp [hh]) hu, b, by simp [hb], hs⟩
          · rintro ⟨hne, ⟨a, ha, rfl⟩, hu, b, hb, hs⟩
            have ha' : a ∈ l' := by
              rcases List.mem_append.1 ha with h1 | h1
              · exact h1
              · simp only [List.mem_singleton] at h1; subst h1; exact absurd rfl hne
            have hal := hlast a ha'
            have hle := hu.le t
            refine ⟨⟨a, ha', rfl⟩, under_pre t hal hu, b, ?_, hs⟩
            rcases List.mem_append.1 hb with h1 | h1
            · exact h1
            · simp only [List.mem_singleton] at h1; subst h1; omega
        have hnew : (h.serial = s ∨ h.parent ∈ below l' s) ↔ Under (l' ++ [h]) s h.serial ∧ ∃ a ∈ l' ++ [h], a.serial = s := by
          constructor
          · rintro (e | hp)
            · exact ⟨e ▸ .self, h, by simp, e⟩
            · obtain ⟨_, hu, b, hb, hs⟩ := (ih _).1 hp
              exact ⟨.step (by simp) (under_more (by intro h hh; simp [hh]) hu), b, by simp [hb], hs⟩
          · rintro ⟨hu, b, hb, hs⟩
            rcases hu.inv with e | ⟨a, ha, e, hu'⟩
            · exact .inl e
            · have := t.uniq ha (by simp) e
              subst this
              refine .inr ((ih _).2 ⟨?_, under_pre t hup hu', b, ?_, hs⟩)
              · rcases hu'.inv with e' | ⟨k, hk, e', _⟩
                · refine ⟨b, ?_, hs.trans e'.symm⟩
                  rcases List.mem_append.1 hb with h1 | h1
                  · exact h1
                  · simp only [List.mem_singleton] at h1; subst h1; omega
                · refine ⟨k, ?_, e'⟩
                  rcases List.mem_append.1 hk with h1 | h1
                  · exact h1
                  · simp only [List.mem_singleton] at h1; subst h1; omega
              · rcases List.mem_append.1 hb with h1 | h1
                · exact h1
                · simp only [List.mem_singleton] at h1
                  subst h1
                  have := hu'.le t
                  omega
        have hself : (∃ a ∈ l' ++ [h], a.serial = h.serial) := ⟨h, by simp, rfl⟩
        split
        · rename_i hc
          obtain ⟨h1, h2⟩ := hnew.1 hc
          rw [List.mem_append, hold, List.mem_singleton]
          by_cases e : x = h.serial
          · subst e
            exact ⟨fun _ => ⟨hself, h1, h2⟩, fun _ => .inr rfl⟩
          · simp [e]
        · rename_i hc
          rw [hold]
          by_cases e : x = h.serial
          · subst e
            constructor
            · rintro ⟨h1, _⟩; exact absurd rfl h1
            · rintro ⟨_, h1, h2⟩; exact absurd (hnew.2 ⟨h1, h2⟩) hc
          · simp [e]
  exact this _ l rfl t x
theorem below_nodup (t : Tree l) (s : Int) : (below l s).Nodup := t.nodup.sublist (below_sub l s)
def kids (l : List Hd) (s : Int) : List Hd := l.filter fun h => h.parent == s
theorem below_kids (t : Tree l) {l' : List Hd} (hl : l'.Perm l) (hs : ∃ h ∈ l, h.serial = s) : (s :: (kids l' s).flatMap fun h => below l h.serial).Perm (below l s) := by
  have hmem : ∀ h ∈ kids l' s, h ∈ l ∧ h.parent = s := fun h hh => by
    have := List.mem_filter.1 hh
    exact ⟨hl.mem_iff.1 this.1, by simpa using this.2⟩
  refine (List.perm_ext_iff_of_nodup ?_ (below_nodup t s)).2 fun x => ?_
  · refine List.nodup_cons.2 ⟨?_, ?_⟩
    · intro h
      obtain ⟨k, hk, hx⟩ := List.mem_flatMap.1 h
      obtain ⟨h1, h2⟩ := hmem k hk
      have := ((mem_below t).1 hx).2.1.le t
      have := t.up k h1
      omega
    · unfold List.Nodup
      rw [List.pairwise_flatMap]
      refine ⟨fun a _ => below_nodup t a.serial, ?_⟩
      have hnd : (kids l' s).Pairwise (fun a b => a ≠ b) := by
        have : l'.Nodup := hl.nodup_iff.2 (by
          unfold List.Nodup
          exact t.asc.imp fun h e => by subst e; omega)
        exact this.sublist List.filter_sublist
      refine hnd.imp_of_mem fun {a b} ha hb hne x hx y hy e => hne ?_
      subst e
      obtain ⟨a1, a2⟩ := hmem a ha
      obtain ⟨b1, b2⟩ := hmem b hb
      have ua := ((mem_below t).1 hx).2.1
      have ub := ((mem_below t).1 hy).2.1
      rcases under_meet t ua ub with h | h
      · rcases h.inv with e | ⟨k, hk, e, h'⟩
        · exact (t.uniq b1 a1 e).symm
        · have := t.uniq hk b1 e
          subst this
          have := h'.le t
          have := t.up a a1
          omega
      · rcases h.inv with e | ⟨k, hk, e, h'⟩
        · exact t.uniq a1 b1 e
        · have := t.uniq hk a1 e
          subst this
          have := h'.le t
          have := t.up b b1
          omega
  · rw [List.mem_cons, mem_below t, List.mem_flatMap, under_first]
    constructor
    · rintro (rfl | ⟨k, hk, hx⟩)
      · exact ⟨hs, .inl rfl, hs⟩
      · obtain ⟨h1, h2⟩ := hmem k hk
        obtain ⟨g1, g2, _⟩ := (mem_below t).1 hx
        exact ⟨g1, .inr ⟨k, h1, h2, g2⟩, hs⟩
    · rintro ⟨h1, h2 | ⟨k, hk, h3, h4⟩, h5⟩
      · exact .inl h2
      · exact .inr ⟨k, List.mem_filter.2 ⟨hl.mem_iff.2 hk, by simpa using h3⟩, (mem_below t).2 ⟨h1, h4, k, hk, rfl⟩⟩
end
end Go.Proofs.Ytmndckeohfcgkaa
