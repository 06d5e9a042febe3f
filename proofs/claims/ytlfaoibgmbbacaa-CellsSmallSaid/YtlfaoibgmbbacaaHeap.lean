/- Plain laws on the heap, with no program in sight: what a call keeps (Kept), a block known whole (Blk), a map known as a list of entries (MapIs), a range over a map (IterIs). -/
import Derived.WalkKit
import Derived.WalkSpells
import Derived.WalkLawsBesides
import Derived.Maps.RangeRun
import Derived.Maps.AppendAt
namespace Go.Proofs.Ytlfaoibgmbbacaa
open Go.RowKit
open Go.ChangeMaps (setBlock)

/-- From w to w' only the blocks of F have been written; new ones may have come. -/
structure Kept (F : List Nat) (w w' : World) : Prop where
  os : w'.os = w.os
  tape : w'.tape = w.tape
  output : w'.output = w.output
  size : w.heap.size ≤ w'.heap.size
  block : ∀ b, b < w.heap.size → b ∉ F → w'.heap[b]? = w.heap[b]?

section kept
variable {F F' : List Nat} {w w1 w2 : World}
theorem Kept.refl (F : List Nat) (w : World) : Kept F w w := ⟨rfl, rfl, rfl, Nat.le_refl _, fun _ _ _ => rfl⟩
theorem Kept.trans (h : Kept F w w1) (k : Kept F' w1 w2) (hF : ∀ b ∈ F', b ∈ F ∨ w.heap.size ≤ b) : Kept F w w2 :=
  ⟨k.os.trans h.os, k.tape.trans h.tape, k.output.trans h.output, Nat.le_trans h.size k.size, fun b hb hn =>
    (k.block b (Nat.lt_of_lt_of_le hb h.size) (fun hm => (hF b hm).elim hn (fun h => by omega))).trans (h.block b hb hn)⟩
theorem Kept.trans' (h : Kept F w w1) (k : Kept F w1 w2) : Kept F w w2 := h.trans k fun _ hb => .inl hb
theorem Kept.mono (h : Kept F w w1) (hF : ∀ b ∈ F, b < w.heap.size → b ∈ F') : Kept F' w w1 :=
  ⟨h.os, h.tape, h.output, h.size, fun b hb hn => h.block b hb (fun hm => hn (hF b hm hb))⟩
theorem Kept.nil_mono (h : Kept [] w w1) : Kept F w w1 := h.mono fun _ hb => by simp at hb
theorem Kept.alloc (F : List Nat) (w : World) (o : Obj) : Kept F w (w.alloc o) :=
  ⟨rfl, rfl, rfl, by simp, fun b hb _ => Below.heap_alloc w o b hb⟩
theorem Kept.drew (F : List Nat) (w : World) : Kept F w w.drew := ⟨rfl, rfl, rfl, Nat.le_refl _, fun _ _ _ => rfl⟩
theorem Kept.drewN (F : List Nat) (w : World) (n : Nat) : Kept F w (w.drewN n) := ⟨rfl, rfl, rfl, Nat.le_refl _, fun _ _ _ => rfl⟩
theorem Kept.setCell {p : Addr} (h : p.block ∈ F) (w : World) (v : Value) : Kept F w (w.setCell p v) :=
  ⟨rfl, rfl, rfl, by simp [World.setCell], fun b _ hn => by
    have : p.block ≠ b := fun e => hn (e ▸ h)
    simp [World.setCell, Array.getElem?_modify, this]⟩
theorem Kept.setBlock {r : Nat} (h : r ∈ F) (w : World) (o : Obj) : Kept F w (setBlock w r o) :=
  ⟨rfl, rfl, rfl, by simp [Go.ChangeMaps.setBlock], fun b _ hn => by
    have : r ≠ b := fun e => hn (e ▸ h)
    simp [Go.ChangeMaps.setBlock, Array.getElem?_setIfInBounds, this]⟩
theorem Kept.grown {row : Option Nat} (h : w.grownBy w1 row) (hr : ∀ k, row = some k → k ∈ F) : Kept F w w1 :=
  ⟨h.os, h.tape, h.output, h.size, fun b hb hn => h.block b hb (fun e => hn (hr b e.symm))⟩
theorem Kept.cell (h : Kept F w w1) {p : Addr} {v : Value} (hc : w.cell? p = some v) (hn : p.block ∉ F) : w1.cell? p = some v :=
  (World.cell?_of_block (h.block p.block (World.block_lt_of_cell? w p hc) hn)).trans hc
theorem Kept.below (h : Kept F w w1) {B : Nat} (hF : ∀ b ∈ F, B ≤ b) (hB : B ≤ w.heap.size) : Below B w w1 :=
  ⟨h.os, h.tape, h.output, h.size, fun b hb => h.block b (by omega) (fun hm => by have := hF b hm; omega)⟩
theorem Kept.own (h : Kept F w w1) {base : Nat} {e : TypeId} {size n : Nat} {v : Value} {xs : List Value} (ho : w.ownsRow base e size v n xs) (hn : ∀ k, v.ownBlock = some k → k ∉ F) : w1.ownsRow base e size v n xs := by
  refine ⟨ho.1, ?_⟩
  rcases ho.2 with h0 | ⟨g, cap, cur, rfl, hb, hg, rest⟩
  · exact .inl h0
  · exact .inr ⟨g, cap, cur, rfl, hb, (h.block g (Array.getElem?_eq_some_iff.1 hg).1 (hn g rfl)).trans hg, rest⟩
end kept

/-! ### a block known whole -/
def Blk (w : World) (g : Nat) (t : TypeId) (cs : Array Value) : Prop := w.heap[g]? = some (.cells cs t (0, 0))

section blk
variable {F : List Nat} {w w' : World} {g : Nat} {t : TypeId} {cs : Array Value}
theorem lt_of_heap {o : Obj} (h : w.heap[g]? = some o) : g < w.heap.size := (Array.getElem?_eq_some_iff.1 h).1
theorem Blk.lt (h : Blk w g t cs) : g < w.heap.size := lt_of_heap h
theorem Blk.cell (h : Blk w g t cs) (i : Nat) : w.cell? ⟨g, i, none⟩ = cs[i]? := cell_of_row w g i cs t (0, 0) h
theorem Blk.frozen (h : Blk w g t cs) (i : Nat) : w.frozen? ⟨g, i, none⟩ = false := by
  unfold Blk at h
  simp [World.frozen?, h]
theorem Blk.new (w : World) (t : TypeId) (cs : Array Value) : Blk (w.alloc (.cells cs t)) w.heap.size t cs := heap_alloc_new w _
theorem Blk.set_ (h : Blk w g t cs) (i : Nat) (u : Value) : Blk (w.setCell ⟨g, i, none⟩ u) g t (cs.setIfInBounds i u) := by
  unfold Blk at h ⊢
  simp [World.setCell, Array.getElem?_modify, h]
theorem Kept.blk (h : Kept F w w') (hb : Blk w g t cs) (hn : g ∉ F) : Blk w' g t cs := (h.block g hb.lt hn).trans hb
theorem Blk.ne_ {g' : Nat} {t' : TypeId} {cs' : Array Value} (h : Blk w g t cs) (h' : Blk w g' t' cs') (hne : t ≠ t') : g ≠ g' := by
  rintro rfl
  unfold Blk at h h'
  rw [h] at h'
  injection h' with h'
  injection h' with _ ht
  exact hne ht
end blk

/-! ### a map known as a list of entries -/
section maps
variable {K V : Type} [DecidableEq K]

def mput (k : K) (v : V) : List (K × V) → List (K × V)
  | [] => [(k, v)]
  | p :: m => if p.1 = k then (k, v) :: m else p :: mput k v m
def mget (k : K) : List (K × V) → Option V
  | [] => none
  | p :: m => if p.1 = k then some p.2 else mget k m
def mdel (k : K) : List (K × V) → List (K × V)
  | [] => []
  | p :: m => if p.1 = k then m else p :: mdel k m
def mix (k : K) : List (K × V) → Nat → Option (Nat × V)
  | [], _ => none
  | p :: m, i => if p.1 = k then some (i, p.2) else mix k m (i + 1)

def MapIs (encK : K → Value) (encV : V → Value) (w : World) (r : Nat) (m : List (K × V)) : Prop :=
  ∃ (es : Array MapEntry) (clk : Nat), w.heap[r]? = some (.map es clk) ∧ es.toList.map (fun e => (e.key, e.val)) = m.map (fun p => (encK p.1, encV p.2)) ∧
    (m.map (·.1)).Nodup ∧ (es.toList.map (·.born)).Nodup ∧ ∀ e ∈ es.toList, e.born < clk

/-- What the model's key machinery does at this key type. -/
structure Keys (P : Program) (kt : TypeId) (encK : K → Value) : Prop where
  check : ∀ (b : Bool) (k : K) (w : World), (Instr.checkKey b 10000 kt (encK k)).run P w = .ok () w
  same : ∀ (k : K), Instr.sameBits 10000 (encK k) (encK k) = true
  find : ∀ {V : Type} (encV : V → Value) (k : K) (m : List (K × V)) (es : List MapEntry) (w : World), es.map (fun e => (e.key, e.val)) = m.map (fun p => (encK p.1, encV p.2)) →
    (Instr.findKey kt (encK k) es).run P w = .ok ((mix k m 0).map fun p => (p.1, encV p.2)) w

theorem mix_snd (k : K) (m : List (K × V)) : ∀ i, (mix k m i).map (·.2) = mget k m := by
  induction m with
  | nil => intro i; rfl
  | cons p m ih => intro i; unfold mix mget; split <;> simp [ih]
theorem mix_none {k : K} {m : List (K × V)} : ∀ i, mix k m i = none → k ∉ m.map (·.1) := by
  induction m with
  | nil => intro i _; simp
  | cons p m ih =>
    intro i h
    unfold mix at h
    split at h
    · cases h
    · rename_i hne
      simp only [List.map_cons, List.mem_cons, not_or]
      exact ⟨fun e => hne e.symm, ih _ h⟩
theorem mix_some {k : K} {m : List (K × V)} : ∀ {i j : Nat} {v : V}, mix k m i = some (j, v) → ∃ n, j = i + n ∧ m[n]? = some (k, v) := by
  induction m with
  | nil => intro i j v h; cases h
  | cons p m ih =>
    intro i j v h
    unfold mix at h
    split at h
    · rename_i he
      simp only [Option.some.injEq, Prod.mk.injEq] at h
      refine ⟨0, by omega, ?_⟩
      rw [← he, ← h.2]
      rfl
    · obtain ⟨n, h1, h2⟩ := ih h
      exact ⟨n + 1, by omega, by simpa using h2⟩
theorem mget_none {k : K} {m : List (K × V)} : mget k m = none ↔ k ∉ m.map (·.1) := by
  induction m with
  | nil => simp [mget]
  | cons p m ih =>
    unfold mget
    split
    · rename_i h; simp [h]
    · rename_i h
      rw [ih]
      simp only [List.map_cons, List.mem_cons, not_or]
      exact ⟨fun h' => ⟨fun e => h e.symm, h'⟩, fun h' => h'.2⟩
theorem mput_keys {k : K} {v : V} {m : List (K × V)} (h : k ∈ m.map (·.1)) : (mput k v m).map (·.1) = m.map (·.1) := by
  induction m with
  | nil => simp at h
  | cons p m ih =>
    unfold mput
    split
    · rename_i he; simp [he]
    · rename_i he
      simp only [List.map_cons, List.mem_cons] at h
      simp only [List.map_cons]
      rw [ih (h.resolve_left fun e => he e.symm)]
theorem mput_new {k : K} {v : V} {m : List (K × V)} (h : k ∉ m.map (·.1)) : mput k v m = m ++ [(k, v)] := by
  induction m with
  | nil => rfl
  | cons p m ih =>
    simp only [List.map_cons, List.mem_cons, not_or] at h
    unfold mput
    rw [if_neg (fun e => h.1 e.symm), ih h.2]
    rfl
theorem mdel_none {k : K} {m : List (K × V)} (h : k ∉ m.map (·.1)) : mdel k m = m := by
  induction m with
  | nil => rfl
  | cons p m ih =>
    simp only [List.map_cons, List.mem_cons, not_or] at h
    unfold mdel
    rw [if_neg (fun e => h.1 e.symm), ih h.2]
theorem mdel_sublist (k : K) (m : List (K × V)) : (mdel k m).Sublist m := by
  induction m with
  | nil => exact List.Sublist.slnil
  | cons p m ih =>
    unfold mdel
    split
    · exact List.sublist_cons_self p m
    · exact ih.cons_cons p
theorem mget_mput (k k' : K) (v : V) (m : List (K × V)) : mget k' (mput k v m) = if k = k' then some v else mget k' m := by
  induction m with
  | nil => simp [mput, mget]
  | cons p m ih =>
    unfold mput
    split
    · rename_i h
      simp only [mget, h]
      split <;> rfl
    · rename_i h
      simp only [mget, ih]
      by_cases h1 : p.1 = k'
      · have h2 : ¬ k = k' := fun e => h (h1.trans e.symm)
        simp [h1, h2]
      · simp [h1]
theorem mget_mdel (k k' : K) (m : List (K × V)) (hn : (m.map (·.1)).Nodup) : mget k' (mdel k m) = if k = k' then none else mget k' m := by
  induction m with
  | nil => simp [mdel, mget]
  | cons p m ih =>
    simp only [List.map_cons, List.nodup_cons] at hn
    unfold mdel
    split
    · rename_i h
      simp only [mget, h]
      by_cases h1 : k = k'
      · subst h1
        rw [if_pos rfl, mget_none.2 (h ▸ hn.1)]
      · simp [h1]
    · rename_i h
      simp only [mget, ih hn.2]
      by_cases h1 : p.1 = k'
      · have h2 : ¬ k = k' := fun e => h (h1.trans e.symm)
        simp [h1, h2]
      · simp [h1]

section runs
omit [DecidableEq K]
variable {P : Program} {kt T et : TypeId} {encK : K → Value} {encV : V → Value} {w : World} {r : Nat} {m : List (K × V)}

theorem MapIs.lt (h : MapIs encK encV w r m) : r < w.heap.size := by
  obtain ⟨es, clk, h1, _⟩ := h
  exact lt_of_heap h1
theorem Kept.map {F : List Nat} {w' : World} (h : Kept F w w') (hm : MapIs encK encV w r m) (hn : r ∉ F) : MapIs encK encV w' r m := by
  obtain ⟨es, clk, h1, rest⟩ := hm
  exact ⟨es, clk, (h.block r (lt_of_heap h1) hn).trans h1, rest⟩
theorem MapIs.nodup (h : MapIs encK encV w r m) : (m.map (·.1)).Nodup := by
  obtain ⟨es, clk, _, _, h3, _⟩ := h
  exact h3
theorem MapIs.new (encK : K → Value) (encV : V → Value) (w : World) : MapIs encK encV (w.alloc (.map #[] 0)) w.heap.size [] :=
  ⟨#[], 0, heap_alloc_new w _, rfl, by simp, by simp, by simp⟩
theorem MapIs.not_blk (h : MapIs encK encV w r m) {g : Nat} {t : TypeId} {cs : Array Value} (hb : Blk w g t cs) : r ≠ g := by
  rintro rfl
  obtain ⟨es, clk, h1, _⟩ := h
  unfold Blk at hb
  rw [h1] at hb
  cases hb

theorem getObj_map {es : Array MapEntry} {clk : Nat} (h : w.heap[r]? = some (.map es clk)) : (getObj r).run P w = .ok (.map es clk) w := by
  simp [getObj, Sem.run, h]
theorem setObj_map {es : Array MapEntry} {clk : Nat} (h : w.heap[r]? = some (.map es clk)) (o : Obj) : (setObj r o).run P w = .ok () (setBlock w r o) := by
  simp [setObj, Sem.run, h, Go.ChangeMaps.setBlock]
variable [DecidableEq K]
theorem run_lookup_ok (hk : Keys P kt encK) (hT : P.underlying T = some (.map kt et)) (h : MapIs encK encV w r m) (k : K) (z : Value) (hz : ∀ w, (zeroValue et).run P w = .ok z w) :
    (Instr.lookup T (.map (some r)) (encK k) true).run P w = .ok (.tuple #[((mget k m).map encV).getD z, .bool (mget k m).isSome]) w := by
  obtain ⟨es, clk, h1, h2, _⟩ := h
  have hf := hk.find encV k m es.toList w h2
  have hs := mix_snd k m 0
  simp only [Instr.lookup, Sem.run_bind, run_underlying hT, Result.andThen_ok, getObj_map h1, Sem.run_pure, hk.check]
  rw [hf]
  cases hx : mix k m 0 with
  | none =>
    rw [hx] at hs
    simp [Result.andThen_ok, hz, ← hs]
  | some p =>
    rw [hx] at hs
    simp [Result.andThen_ok, ← hs]

theorem run_lookup_plain (hk : Keys P kt encK) (hT : P.underlying T = some (.map kt et)) (h : MapIs encK encV w r m) (k : K) (z : Value) (hz : ∀ w, (zeroValue et).run P w = .ok z w) :
    (Instr.lookup T (.map (some r)) (encK k) false).run P w = .ok (((mget k m).map encV).getD z) w := by
  obtain ⟨es, clk, h1, h2, _⟩ := h
  have hf := hk.find encV k m es.toList w h2
  have hs := mix_snd k m 0
  simp only [Instr.lookup, Sem.run_bind, run_underlying hT, Result.andThen_ok, getObj_map h1, Sem.run_pure, hk.check]
  rw [hf]
  cases hx : mix k m 0 with
  | none =>
    rw [hx] at hs
    simp [Result.andThen_ok, hz, ← hs]
  | some p =>
    rw [hx] at hs
    simp [Result.andThen_ok, ← hs]

theorem heap_setBlock {o o' : Obj} (h : w.heap[r]? = some o') : (setBlock w r o).heap[r]? = some o := by
  have := lt_of_heap h
  simp [Go.ChangeMaps.setBlock, this]

theorem run_update (hk : Keys P kt encK) (hT : P.underlying T = some (.map kt et)) (h : MapIs encK encV w r m) (k : K) (v : V) :
    ∃ o, (Instr.mapUpdate T (.map (some r)) (encK k) (encV v)).run P w = .ok () (setBlock w r o) ∧ MapIs encK encV (setBlock w r o) r (mput k v m) := by
  obtain ⟨es, clk, h1, h2, h3, h4, h5⟩ := h
  have hf := hk.find encV k m es.toList w h2
  cases hx : mix k m 0 with
  | none =>
    have hn := mix_none 0 hx
    rw [hx] at hf
    refine ⟨.map (es.push { key := encK k, val := encV v, born := clk }) (clk + 1), ?_, _, _, heap_setBlock h1, ?_, ?_, ?_, ?_⟩
    · simp only [Instr.mapUpdate, Sem.run_bind, run_underlying hT, Result.andThen_ok, getObj_map h1, hk.check]
      rw [hf]
      simp only [Option.map_none, Result.andThen_ok]
      exact setObj_map h1 _
    · rw [mput_new hn]
      simp [h2]
    · rw [mput_new hn]
      simp only [List.map_append, List.map_cons, List.map_nil]
      exact List.nodup_append.2 ⟨h3, by simp, fun a ha b hb => by
        simp only [List.mem_singleton] at hb
        rintro rfl
        exact hn (hb ▸ ha)⟩
    · simp only [Array.toList_push, List.map_append, List.map_cons, List.map_nil]
      refine List.nodup_append.2 ⟨h4, by simp, fun a ha b hb => ?_⟩
      simp only [List.mem_singleton] at hb
      obtain ⟨e, he, rfl⟩ := List.mem_map.1 ha
      have := h5 e he
      omega
    · intro e he
      simp only [Array.toList_push, List.mem_append, List.mem_singleton] at he
      rcases he with he | rfl
      · have := h5 e he; omega
      · simp
  | some p =>
    obtain ⟨j, v0⟩ := p
    obtain ⟨n, hj, hm⟩ := mix_some hx
    simp only [Nat.zero_add] at hj
    subst hj
    rw [hx] at hf
    have hlen : es.toList.length = m.length := by have := congrArg List.length h2; simpa using this
    have hjm : j < m.length := (List.getElem?_eq_some_iff.1 hm).1
    have hje : j < es.size := by have : es.toList.length = es.size := by simp
                                 omega
    have hkey : es[j].key = encK k := by
      have := congrArg (fun l => l[j]?) h2
      simp [hm, hje] at this
      exact this.1
    refine ⟨.map (es.modify j fun e => { e with key := encK k, val := encV v }) clk, ?_, _, _, heap_setBlock h1, ?_, ?_, ?_, ?_⟩
    · simp only [Instr.mapUpdate, Sem.run_bind, run_underlying hT, Result.andThen_ok, getObj_map h1, hk.check]
      rw [hf]
      simp only [Option.map_some, Result.andThen_ok, Array.getElem?_eq_getElem hje, Option.getD_some, hkey, Instr.keyThatStays, hk.same, if_true, Sem.run_bind, Sem.run_pure]
      exact setObj_map h1 _
    · apply List.ext_getElem?
      intro i
      have hi := congrArg (fun l => l[i]?) h2
      simp only [List.getElem?_map, Array.getElem?_toList] at hi ⊢
      rw [Array.getElem?_modify]
      have hput : ∀ (m : List (K × V)) (j : Nat), (m.map (·.1)).Nodup → m[j]? = some (k, v0) → ∀ i, (mput k v m)[i]? = if j = i then some (k, v) else m[i]? := by
        intro m
        induction m with
        | nil => intro j _ hj; simp at hj
        | cons p m ih =>
          intro j hnd hj i
          simp only [List.map_cons, List.nodup_cons] at hnd
          unfold mput
          cases j with
          | zero =>
            simp only [List.getElem?_cons_zero, Option.some.injEq] at hj
            rw [if_pos (by rw [hj])]
            cases i <;> simp
          | succ j =>
            simp only [List.getElem?_cons_succ] at hj
            have hne : ¬ p.1 = k := fun e => hnd.1 (e ▸ (List.mem_map.2 ⟨_, List.mem_of_getElem? hj, rfl⟩))
            rw [if_neg hne]
            cases i with
            | zero => simp
            | succ i => simp [ih j hnd.2 hj i]
      rw [hput m j h3 hm i]
      by_cases hji : j = i
      · subst hji
        simp [hje]
      · rw [if_neg hji, if_neg hji, hi]
    · rw [mput_keys (List.mem_map.2 ⟨_, List.mem_of_getElem? hm, rfl⟩)]
      exact h3
    · have hb : (es.modify j fun e => { e with key := encK k, val := encV v }).toList.map (·.born) = es.toList.map (·.born) := by
        apply List.ext_getElem?
        intro i
        simp only [List.getElem?_map, Array.getElem?_toList, Array.getElem?_modify]
        split
        · cases es[i]? <;> rfl
        · rfl
      rw [hb]
      exact h4
    · intro e he
      obtain ⟨i, hi⟩ := List.mem_iff_getElem?.1 he
      rw [Array.getElem?_toList, Array.getElem?_modify] at hi
      split at hi
      · cases hx2 : es[i]? with
        | none => rw [hx2] at hi; cases hi
        | some e0 =>
          rw [hx2] at hi
          simp only [Option.map_some, Option.some.injEq] at hi
          rw [← hi]
          exact h5 e0 (List.mem_of_getElem? (by rw [Array.getElem?_toList]; exact hx2))
      · exact h5 e (List.mem_of_getElem? (by rw [Array.getElem?_toList]; exact hi))

omit [DecidableEq K] in
theorem map_eraseIdx' {α β : Type} (f : α → β) (l : List α) : ∀ j, (l.map f).eraseIdx j = (l.eraseIdx j).map f := by
  induction l with
  | nil => intro j; rfl
  | cons x l ih => intro j; cases j with
    | zero => rfl
    | succ j => simp [ih j]
theorem run_delete (hk : Keys P kt encK) (hT : P.underlying T = some (.map kt et)) (h : MapIs encK encV w r m) (k : K) (ty : TypeId) :
    ∃ o, (Builtin.delete_ #[T, kt] ty #[.map (some r), encK k]).run P w = .ok (.tuple #[]) (setBlock w r o) ∧ MapIs encK encV (setBlock w r o) r (mdel k m) := by
  obtain ⟨es, clk, h1, h2, h3, h4, h5⟩ := h
  have hf := hk.find encV k m es.toList w h2
  cases hx : mix k m 0 with
  | none =>
    have hn := mix_none 0 hx
    rw [hx] at hf
    refine ⟨.map es clk, ?_, es, clk, heap_setBlock h1, ?_, ?_, h4, h5⟩
    · simp only [Builtin.delete_, Sem.run_bind, List.getElem?_toArray, List.getElem?_cons_zero, List.getElem?_cons_succ, run_underlying hT, Result.andThen_ok, getObj_map h1, hk.check]
      rw [hf]
      simp only [Option.map_none, Result.andThen_ok]
      rw [Sem.run_bind, setObj_map h1]
      rfl
    · rw [mdel_none hn]; exact h2
    · rw [mdel_none hn]; exact h3
  | some p =>
    obtain ⟨j, v0⟩ := p
    obtain ⟨n, hj, hm⟩ := mix_some hx
    simp only [Nat.zero_add] at hj
    subst hj
    rw [hx] at hf
    have hlen : es.toList.length = m.length := by have := congrArg List.length h2; simpa using this
    have hjm : j < m.length := (List.getElem?_eq_some_iff.1 hm).1
    have hje : j < es.size := by have : es.toList.length = es.size := by simp
                                 omega
    have hera : (es.eraseIdxIfInBounds j).toList = es.toList.eraseIdx j := by
      simp [Array.eraseIdxIfInBounds, hje]
    have hdel : ∀ (m : List (K × V)) (j : Nat), (m.map (·.1)).Nodup → m[j]? = some (k, v0) → mdel k m = m.eraseIdx j := by
      intro m
      induction m with
      | nil => intro j _ hj; simp at hj
      | cons p m ih =>
        intro j hnd hj
        simp only [List.map_cons, List.nodup_cons] at hnd
        unfold mdel
        cases j with
        | zero =>
          simp only [List.getElem?_cons_zero, Option.some.injEq] at hj
          rw [if_pos (by rw [hj])]
          rfl
        | succ j =>
          simp only [List.getElem?_cons_succ] at hj
          have hne : ¬ p.1 = k := fun e => hnd.1 (e ▸ (List.mem_map.2 ⟨_, List.mem_of_getElem? hj, rfl⟩))
          rw [if_neg hne, ih j hnd.2 hj]
          rfl
    refine ⟨.map (es.eraseIdxIfInBounds j) clk, ?_, _, _, heap_setBlock h1, ?_, ?_, ?_, ?_⟩
    · simp only [Builtin.delete_, Sem.run_bind, List.getElem?_toArray, List.getElem?_cons_zero, List.getElem?_cons_succ, run_underlying hT, Result.andThen_ok, getObj_map h1, hk.check]
      rw [hf]
      simp only [Option.map_some, Result.andThen_ok]
      rw [Sem.run_bind, setObj_map h1]
      rfl
    · rw [hera, hdel m j h3 hm, ← map_eraseIdx', ← map_eraseIdx', h2]
    · rw [hdel m j h3 hm, ← map_eraseIdx']
      exact h3.sublist (List.eraseIdx_sublist _ _)
    · rw [hera, ← map_eraseIdx']
      exact h4.sublist (List.eraseIdx_sublist _ _)
    · intro e he
      rw [hera] at he
      exact h5 e (List.mem_of_mem_eraseIdx he)

/-! ### a range over a map: what is left -/
omit [DecidableEq K] in
def IterIs (encK : K → Value) (encV : V → Value) (w : World) (it r : Nat) (m left : List (K × V)) : Prop :=
  ∃ (es : Array MapEntry) (clk : Nat) (seen : Array Nat), w.heap[r]? = some (.map es clk) ∧ w.heap[it]? = some (.mapIter (some r) clk seen clk) ∧
    es.toList.map (fun e => (e.key, e.val)) = m.map (fun p => (encK p.1, encV p.2)) ∧ (m.map (·.1)).Nodup ∧ (es.toList.map (·.born)).Nodup ∧ (∀ e ∈ es.toList, e.born < clk) ∧
    (leftOf es seen).toList.map (fun e => (e.key, e.val)) = left.map (fun p => (encK p.1, encV p.2))

omit [DecidableEq K]
theorem run_range_is (hT : P.underlying T = some (.map kt et)) (h : MapIs encK encV w r m) :
    ∃ o, (Instr.range T (.map (some r))).run P w = .ok (.pointer (some ⟨w.heap.size, 0, none⟩)) (w.alloc o) ∧ IterIs encK encV (w.alloc o) w.heap.size r m m := by
  obtain ⟨es, clk, h1, h2, h3, h4, h5⟩ := h
  refine ⟨.mapIter (some r) clk #[] clk, ?_, es, clk, #[], (Below.heap_alloc w _ r (lt_of_heap h1)).trans h1, heap_alloc_new w _, h2, h3, h4, h5, ?_⟩
  · exact run_range_map w T kt et r es clk hT h1
  · simp only [leftOf]
    rw [← h2]
    congr 1
    simp

theorem run_len_is (hT : P.underlying T = some (.map kt et)) (h : MapIs encK encV w r m) (ty : TypeId) :
    (Builtin.len_ #[T] ty #[.map (some r)]).run P w = .ok (.int .i64 m.length) w := by
  obtain ⟨es, clk, h1, h2, _⟩ := h
  have hlen : es.size = m.length := by have := congrArg List.length h2; simpa using this
  simp only [Builtin.len_, Sem.run_bind, List.getElem?_toArray, List.getElem?_cons_zero, run_underlying hT, Result.andThen_ok, getObj_map h1, Sem.run_pure, goInt, hlen]

/-- How many entries are still to come, read off the world. -/
def iterLeft (w : World) (it : Nat) : Nat :=
  match w.heap[it]? with
  | some (.mapIter (some r) _ seen _) =>
    match w.heap[r]? with
    | some (.map es _) => (leftOf es seen).size
    | _ => 0
  | _ => 0
theorem IterIs.left {it : Nat} {left : List (K × V)} (h : IterIs encK encV w it r m left) : iterLeft w it = left.length := by
  obtain ⟨es, clk, seen, h1, h2, h3, h4, h5, h6, h7⟩ := h
  have := congrArg List.length h7
  simp only [List.length_map, Array.length_toList] at this
  simp only [iterLeft, h2, h1, this]
theorem IterIs.map {it : Nat} {left : List (K × V)} (h : IterIs encK encV w it r m left) : MapIs encK encV w r m := by
  obtain ⟨es, clk, seen, h1, h2, h3, h4, h5, h6, _⟩ := h
  exact ⟨es, clk, h1, h3, h4, h5, h6⟩
theorem IterIs.lt {it : Nat} {left : List (K × V)} (h : IterIs encK encV w it r m left) : it < w.heap.size := by
  obtain ⟨es, clk, seen, h1, h2, _⟩ := h
  exact lt_of_heap h2
theorem Kept.iter {F : List Nat} {w' : World} {it : Nat} {left : List (K × V)} (h : Kept F w w') (hi : IterIs encK encV w it r m left) (h1 : it ∉ F) (h2 : r ∉ F) : IterIs encK encV w' it r m left := by
  obtain ⟨es, clk, seen, g1, g2, rest⟩ := hi
  exact ⟨es, clk, seen, (h.block r (lt_of_heap g1) h2).trans g1, (h.block it (lt_of_heap g2) h1).trans g2, rest⟩
theorem IterIs.ne_ {it : Nat} {left : List (K × V)} (h : IterIs encK encV w it r m left) : it ≠ r := by
  obtain ⟨es, clk, seen, g1, g2, rest⟩ := h
  rintro rfl
  rw [g1] at g2
  cases g2
theorem IterIs.not_blk {it : Nat} {left : List (K × V)} (h : IterIs encK encV w it r m left) {g : Nat} {t : TypeId} {cs : Array Value} (hb : Blk w g t cs) : it ≠ g := by
  obtain ⟨es, clk, seen, g1, g2, rest⟩ := h
  rintro rfl
  unfold Blk at hb
  rw [g2] at hb
  cases hb
theorem IterIs.not_map {it r' : Nat} {left m' : List (K × V)} (h : IterIs encK encV w it r m left) (hm : MapIs encK encV w r' m') : it ≠ r' := by
  obtain ⟨es, clk, seen, g1, g2, rest⟩ := h
  obtain ⟨es', clk', g3, _⟩ := hm
  rintro rfl
  rw [g2] at g3
  cases g3

theorem run_next_is {it : Nat} {left : List (K × V)} (h : IterIs encK encV w it r m left) (ty : TypeId) :
    (left = [] ∧ (Instr.next (.pointer (some ⟨it, 0, none⟩)) false ty).run P w = .ok (.tuple #[.bool false]) w) ∨
    ∃ (k : K) (v : V) (l1 l2 : List (K × V)) (o : Obj) (w1 : World), left = l1 ++ (k, v) :: l2 ∧ (w1 = w ∨ w1 = w.drew) ∧
      (Instr.next (.pointer (some ⟨it, 0, none⟩)) false ty).run P w = .ok (.tuple #[.bool true, encK k, encV v]) (setBlock w1 it o) ∧
      IterIs encK encV (setBlock w1 it o) it r m (l1 ++ l2) ∧
      ∀ W : World, W.heap[r]? = w.heap[r]? → W.heap[it]? = some o → (Instr.entry (.pointer (some ⟨it, 0, none⟩))).run P W = .ok (.tuple #[encK k, encV v]) W := by
  have hne := h.ne_
  obtain ⟨es, clk, seen, h1, h2, h3, h4, h5, h6, h7⟩ := h
  rcases run_next_at (P := P) w ty it r clk clk seen es clk h2 h1 h6 (Nat.le_refl _) with ⟨h0, hr⟩ | ⟨e, he, w1, hw1, hr⟩
  · left
    refine ⟨?_, hr⟩
    have : (leftOf es seen).toList = [] := by
      have : (leftOf es seen) = #[] := Array.eq_empty_of_size_eq_zero h0
      rw [this]
    rw [this] at h7
    simpa using h7.symm
  · right
    have hmem := mem_left he
    obtain ⟨a, b, hab⟩ := List.append_of_mem he
    rw [hab] at h7
    simp only [List.map_append, List.map_cons] at h7
    obtain ⟨l1, l', rfl, e1, e2⟩ := List.map_eq_append_iff.1 h7.symm
    obtain ⟨⟨k, v⟩, l2, rfl, e3, e4⟩ := List.map_eq_cons_iff.1 e2
    simp only [Prod.mk.injEq] at e3
    rw [← e3.1, ← e3.2] at hr
    have hheap : w1.heap = w.heap := by rcases hw1 with rfl | rfl <;> rfl
    refine ⟨k, v, l1, l2, _, w1, rfl, hw1, hr, ⟨es, clk, seen.push e.born, ?_, ?_, h3, h4, h5, h6, ?_⟩, ?_⟩
    · simp only [Go.ChangeMaps.setBlock, Array.getElem?_setIfInBounds, hne, if_false, hheap]
      exact h1
    · simp only [Go.ChangeMaps.setBlock, Array.getElem?_setIfInBounds, if_true, hheap, lt_of_heap h2]
    · have hfil : (leftOf es (seen.push e.born)).toList = (leftOf es seen).toList.filter (fun x => x.born != e.born) := by
        simp only [leftOf, Array.toList_filter, List.filter_filter]
        apply List.filter_congr
        intro x _
        by_cases hx : x.born = e.born <;> simp [hx]
      have hnd : ((leftOf es seen).toList.map (·.born)).Nodup := by
        simp only [leftOf, Array.toList_filter]
        exact h5.sublist (List.filter_sublist.map _)
      rw [hab] at hnd
      simp only [List.map_append, List.map_cons] at hnd
      have hnd' := List.nodup_append.1 hnd
      have hnd2 := List.nodup_cons.1 hnd'.2.1
      have ha : a.filter (fun x => x.born != e.born) = a := List.filter_eq_self.2 fun x hx => by
        have := hnd'.2.2 x.born (List.mem_map.2 ⟨x, hx, rfl⟩) e.born (by simp)
        simpa using this
      have hb : b.filter (fun x => x.born != e.born) = b := List.filter_eq_self.2 fun x hx => by
        have : e.born ≠ x.born := fun e' => hnd2.1 (e' ▸ List.mem_map.2 ⟨x, hx, rfl⟩)
        simpa using fun e' => this e'.symm
      rw [hfil, hab]
      simp only [List.filter_append, List.filter_cons, bne_self_eq_false, Bool.false_eq_true, if_false, ha, hb, List.map_append, e1, e4]
    · intro W hW1 hW2
      have := run_entry_at (P := P) W it r clk seen es clk e hW2 (hW1.trans h1) hmem.1 h5
      rw [this, e3.1, e3.2]
end runs
end maps

/-! ### append inside a region that draws its order -/
theorem step_append_at {P : Program} {w : World} {ops : Array Oper} {o : Oper} {a : Act} {K : Act → World → Prop} {Q : Exit → Act → World → Prop} {E : Prop} (hgd : o.guard = none) (s x : Operand) (t : TypeId)
    (ho : o.op = .call { callee := .builtin .append, args := #[s, x], argTypes := #[t, t] })
    (base : Nat) (e : TypeId) (i : TypeInfo) (z : Value) (size bytes : Nat) (ht : P.underlying t = some (.slice e)) (hi : P.info? e = some i) (hz : i.zero = some z)
    (hsize : i.size = size) (hby : i.bytes = bytes) (hzs : z.cells.size = size) (hsz : 0 < size)
    (v : Value) (n : Nat) (xs : List Value) (hs : a.eval s = v) (hown : w.ownsRow base e size v n xs)
    (ad : Addr) (m c : Nat) (news : List Value) (hx : a.eval x = .slice (some ad) m c) (hl : news.length = m * size) (hnews : ∀ j u, news[j]? = some u → w.cell? (ad.add j) = some u) (h1 : ∀ u ∈ news, u.oneCell' = true)
    (h63 : n + m ≤ maxLen) (hbytes : (n + m) * bytes ≤ 140737488355328) (hbase : base ≤ w.heap.size)
    (h : ∀ v' w', w'.ownsRow base e size v' (n + m) (xs ++ news) → w.grownBy w' v.ownBlock → (v'.ownBlock = v.ownBlock ∨ v'.ownBlock = some w.heap.size) → K (a.put o.dst v') w') :
    if Region.wanted o (yielded ops a.tmps) = true then Oper.wp P o a w K Q else E := by
  have hw : Region.wanted o (yielded ops a.tmps) = true := by simp [Region.wanted, hgd]
  rw [if_pos hw]
  obtain ⟨v', w', hr, h2, h3, h4, h5⟩ := run_append_own_at (P := P) w base t o.type e i z size bytes ht hi hz hsize hby hzs hsz v n xs hown ad m c news hl hnews h1 h63 hbytes hbase
  unfold Oper.wp execOp
  simp only [ho, resolve, invoke, builtin, Sem.run_bind, Sem.run_pure, Result.andThen_ok, List.map_toArray, List.map_cons, List.map_nil, hs, hx, hr]
  exact h v' w' h2 h3 h5
end Go.Proofs.Ytlfaoibgmbbacaa
