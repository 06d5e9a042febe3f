/- What the walks of the laws on cells share beyond the stage's theorem: a block of one's own, all nine values, what is told in its order. -/
import Derived.Test.YtlfaoibgmbbacaaBackLaw
namespace Go.Proofs.Ytlfaoibgmbbacaa
open Go.RowKit

def Res.blk (g : Nat) (t : TypeId) (cs : Array Value) : Res where
  on w F := Blk w g t cs ∧ F = [g]
  framed h hk hd := ⟨hk.blk h.1 (hd g (by rw [h.2]; simp)), h.2⟩
  lt h b hb := by
    rw [h.2] at hb
    simp only [List.mem_singleton] at hb
    subst hb
    exact h.1.lt
section
variable {w0 w : World} {rs : List Res} {g : Nat} {t : TypeId} {cs : Array Value}
theorem St.blk (h : St w0 w (.blk g t cs :: rs)) : Blk w g t cs := by
  obtain ⟨F1, h1, _⟩ := h.at
  exact h1
theorem St.set_ (h : St w0 w (.blk g t cs :: rs)) (i : Nat) (u : Value) : St w0 (w.setCell ⟨g, i, none⟩ u) (.blk g t (cs.setIfInBounds i u) :: rs) := by
  obtain ⟨F, h1, h2⟩ := h.head
  obtain ⟨hb, rfl⟩ := h1
  exact h2 (R' := .blk g t _) ⟨hb.set_ i u, rfl⟩ (Kept.setCell (by simp) _ _) fun b hb => .inl hb
theorem St.blkNew (h : St w0 w rs) (t : TypeId) (cs : Array Value) : St w0 (w.alloc (.cells cs t)) (.blk w.heap.size t cs :: rs) :=
  h.new (R := .blk _ t cs) (Kept.alloc _ _ _) ⟨Blk.new w t cs, rfl⟩ (by simp)
theorem St.rowSet {g n cap : Nat} {e : TypeId} {xs : List Value} (h : St w0 w (.row (.slice (some ⟨g, 0, none⟩) n cap) e 1 n xs :: rs)) (k : Nat) (u : Value) :
    St w0 (w.setCell ⟨g, k, none⟩ u) (.row (.slice (some ⟨g, 0, none⟩) n cap) e 1 n (xs.set k u) :: rs) := by
  obtain ⟨F, h1, h2⟩ := h.head
  obtain ⟨ho, rfl⟩ := h1
  exact h2 (R' := .row _ _ _ _ _) ⟨own_set ho rfl u, rfl⟩ (Kept.setCell (by simp [Value.ownBlock]) _ _) fun b hb => .inl hb
theorem St.third {R1 R2 R3 : Res} (h : St w0 w (R1 :: R2 :: R3 :: rs)) : St w0 w (R3 :: R1 :: R2 :: rs) := by
  obtain ⟨hk, F, ⟨F1, F2, h1, ⟨F3, F4, h3, ⟨F5, F6, h5, h6, d1, rfl⟩, d2, rfl⟩, d3, rfl⟩, hF⟩ := h
  simp only [List.mem_append, not_or] at d2 d3
  refine ⟨hk, F5 ++ (F1 ++ (F3 ++ F6)), ⟨F5, _, h5, ⟨F1, _, h1, ⟨F3, F6, h3, h6, fun b hb => (d2 b hb).2, rfl⟩, fun b hb => ?_, rfl⟩, fun b hb => ?_, rfl⟩, fun b hb => hF b ?_⟩
  · simp only [List.mem_append, not_or]
    exact ⟨(d3 b hb).1, (d3 b hb).2.2⟩
  · simp only [List.mem_append, not_or]
    exact ⟨fun h => (d3 b h).2.1 hb, fun h => (d2 b h).1 hb, d1 b hb⟩
  · simp only [List.mem_append] at hb ⊢
    rcases hb with hb | hb | hb | hb
    · exact .inr (.inr (.inl hb))
    · exact .inl hb
    · exact .inr (.inl hb)
    · exact .inr (.inr (.inr hb))
theorem St.alloc (h : St w0 w rs) (o : Obj) : St w0 (w.alloc o) rs := h.kept (Kept.alloc _ _ o)
end

def Four (n : List (List Int)) : Prop := lens n = [2, 3, 0, 4]
theorem Four.flat9 {n : List (List Int)} (h : Four n) : n.flatten.length = 9 := by
  rw [List.length_flatten]
  have : List.map List.length n = [2, 3, 0, 4] := h
  rw [this]
  rfl
theorem all9 {w0 w : World} {rs : List Res} {a : Nat} {c : CM} (h : St w0 w (.mem a c :: rs)) (hf : Four c.now) :
    Calls Try.prog 13 #[.pointer (some ⟨a, 0, none⟩)] w fun e w' => ∃ A cap, e = .returned (.slice A 9 cap) ∧ St w0 w' (.mem a c :: .row (.slice A 9 cap) 2 1 9 (c.now.flatten.map numV) :: rs) := by
  refine (all_law h).mono ?_
  rintro e w' ⟨A, cap, rfl, hs⟩
  have e9 : c.flat.length = 9 := hf.flat9
  rw [e9] at hs ⊢
  exact ⟨A, cap, rfl, hs⟩
theorem plan4 {w0 w : World} {rs : List Res} {a : Nat} {c : CM} (h : St w0 w (.mem a c :: rs)) (hf : Four c.now) :
    Calls Try.prog 22 #[.pointer (some ⟨a, 0, none⟩)] w fun e w' => ∃ A cap, e = .returned (.slice A 4 cap) ∧ St w0 w' (.mem a c :: .row (.slice A 4 cap) 3 1 4 (([2, 3, 0, 4] : List Int).map numV) :: rs) := by
  have hl : c.now.length = 4 := by have := congrArg List.length hf; simpa [lens] using this
  refine h.plan.mono ?_
  rintro e w' ⟨A, cap, rfl, hs, _⟩
  rw [show lens c.now = [2, 3, 0, 4] from hf, hl] at hs
  rw [hl]
  exact ⟨A, cap, rfl, hs⟩

theorem doAll_only (f : Int) (l : List Sm) : ∀ {n : List (List Int)} {ms : List (List (List Int))}, Four n → (∀ s ∈ ms, Four s) → ∃ n', doAll false f ⟨n, ms⟩ l = ⟨n', ms⟩ ∧ Four n' := by
  intro n ms h1 h2
  have hok : (doAll false f ⟨n, ms⟩ l).ok := doAll_ok (show CM.ok ⟨n, ms⟩ from ⟨h1, h2⟩) _ _ _
  refine ⟨(doAll false f ⟨n, ms⟩ l).now, ?_, hok.1⟩
  have : ∀ (l : List Sm) (c : CM), (doAll false f c l).marks = c.marks := by
    intro l
    induction l with
    | nil => intro c; rfl
    | cons x l ih =>
      intro c
      have e : doAll false f c (x :: l) = doAll false f (doStep false f c x) l := rfl
      rw [e, ih]
      unfold doStep
      rw [if_pos (.inr rfl)]
      unfold CM.store
      split <;> rfl
  have h3 := this l ⟨n, ms⟩
  generalize doAll false f ⟨n, ms⟩ l = d at *
  cases d
  simp only at h3
  rw [h3]

/-! ### what Changes tells is in its order, and loads -/
def Before (p q : Nat × Nat) : Prop := p.1 < q.1 ∨ p.1 = q.1 ∧ p.2 < q.2
theorem spots_order (ls : List Nat) : (spots ls).Pairwise Before := by
  unfold spots
  rw [List.pairwise_flatMap]
  refine ⟨fun i _ => ?_, ?_⟩
  · rw [List.pairwise_map]
    exact List.pairwise_lt_range.imp fun h => .inr ⟨rfl, h⟩
  · refine List.pairwise_lt_range.imp fun {i j} hij x hx y hy => ?_
    obtain ⟨_, _, rfl⟩ := List.mem_map.1 hx
    obtain ⟨_, _, rfl⟩ := List.mem_map.1 hy
    exact .inl hij
theorem changes_order (c : CM) : c.changes.Pairwise fun x y => Before x.1 y.1 := by
  unfold CM.changes
  rw [cellsOf_spots, List.filterMap_map]
  refine List.Pairwise.filterMap _ ?_ (spots_order _)
  intro p q h x hx y hy
  have key : ∀ {p : Nat × Nat} {x : Ch}, (chg c.base ∘ fun p => (p, look c.now p)) p = some x → x.1 = p := by
    intro p x h
    simp only [Function.comp, chg] at h
    split at h
    · cases h
    · cases h; rfl
  rw [key hx, key hy]
  exact h
theorem changes_next {c : CM} {k : Nat} {x y : Ch} (hx : c.changes[k]? = some x) (hy : c.changes[k + 1]? = some y) : Before x.1 y.1 := by
  have h := List.pairwise_iff_getElem.1 (changes_order c)
  obtain ⟨h1, rfl⟩ := List.getElem?_eq_some_iff.1 hx
  obtain ⟨h2, rfl⟩ := List.getElem?_eq_some_iff.1 hy
  exact h k (k + 1) h1 h2 (by omega)
theorem changes_load {c : CM} {x : Ch} (h : x ∈ c.changes) : c.load ((x.1.1 : Int) + 1) (x.1.2 : Int) = (x.2.2, 0) ∧ x.2.1 ≠ x.2.2 := by
  unfold CM.changes at h
  rw [cellsOf_spots, List.filterMap_map] at h
  obtain ⟨p, hp, hx⟩ := List.mem_filterMap.1 h
  obtain ⟨n, h1, h2⟩ := mem_spots.1 hp
  simp only [Function.comp, chg] at hx
  split at hx
  · cases hx
  · rename_i hne
    cases hx
    refine ⟨?_, hne⟩
    have e1 : (((p.1 : Int) + 1) - 1).toNat = p.1 := by omega
    have e2 : ((p.2 : Int)).toNat = p.2 := by omega
    simp only [lens, List.getElem?_map] at h1
    obtain ⟨xs, h3, rfl⟩ := Option.map_eq_some_iff.1 h1
    have h4 := (List.getElem?_eq_some_iff.1 h3).1
    show c.load ((p.1 : Int) + 1) (p.2 : Int) = (look c.now p, 0)
    unfold CM.load
    rw [if_neg (by omega)]
    simp only [e1, h3, Option.getD_some, e2]
    rw [if_neg (by omega)]

/-! ### a cell among all values -/
theorem flat_at : ∀ {n : List (List Int)} {q i : Nat} {xs : List Int}, n[q]? = some xs → i < xs.length → n.flatten[((lens n).take q).sum + i]? = xs[i]?
  | [], _, _, _, h, _ => by simp at h
  | x :: n, 0, i, xs, h, hi => by
    simp only [List.getElem?_cons_zero, Option.some.injEq] at h
    subst h
    simp only [lens, List.take_zero, List.sum_nil, Nat.zero_add, List.flatten_cons]
    rw [List.getElem?_append_left hi]
  | x :: n, q + 1, i, xs, h, hi => by
    simp only [List.getElem?_cons_succ] at h
    have ih := flat_at h hi
    simp only [lens, List.map_cons, List.take_succ_cons, List.sum_cons, List.flatten_cons]
    rw [List.getElem?_append_right (by omega), ← ih]
    congr 1
    simp only [lens]
    omega
theorem flat_put : ∀ {n : List (List Int)} {q i : Nat} {xs : List Int} (v : Int), n[q]? = some xs → i < xs.length → (put n (q, i) v).flatten = n.flatten.set (((lens n).take q).sum + i) v
  | [], _, _, _, v, h, _ => by simp at h
  | x :: n, 0, i, xs, v, h, hi => by
    simp only [List.getElem?_cons_zero, Option.some.injEq] at h
    subst h
    simp only [put, lens, List.take_zero, List.sum_nil, Nat.zero_add, List.flatten_cons, List.modify_zero_cons]
    rw [List.set_append_left _ _ hi]
  | x :: n, q + 1, i, xs, v, h, hi => by
    simp only [List.getElem?_cons_succ] at h
    have ih := flat_put v h hi
    simp only [put, lens] at ih
    simp only [put, lens, List.map_cons, List.take_succ_cons, List.sum_cons, List.flatten_cons, List.modify_succ_cons]
    rw [List.set_append_right _ _ (by omega), ih]
    congr 2
    omega
end Go.Proofs.Ytlfaoibgmbbacaa
