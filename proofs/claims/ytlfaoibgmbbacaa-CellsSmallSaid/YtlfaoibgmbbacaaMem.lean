/- The memory of package cells in the model's heap: IsMem says that a pointer leads to a memory with these values and these marks; a mark is known by all values at it. -/
import Derived.Test.YtlfaoibgmbbacaaHeap
import Derived.Test.YtlfaoibgmbbacaaProg
namespace Go.Proofs.Ytlfaoibgmbbacaa
open Go.RowKit
open Go.ChangeMaps (setBlock)

def placeV (p : Nat × Nat) : Value := .agg #[.int .i64 ((p.1 : Int) + 1), .int .i64 (p.2 : Int)]
def numV (n : Int) : Value := .int .i64 n
theorem place_eq (d : Nat) (p q : Nat × Nat) (w : World) : (Op.equalIn (d + 2) 73 (placeV p) (placeV q)).run Try.prog w = .ok (decide (p = q)) w := by
  unfold placeV
  rw [run_equalIn_struct _ _ _ _ _ (by kernel_rfl) (by kernel_rfl)]
  have : (Program.fieldsOf Try.prog 73).toList = [{ name := "owner", type := 3, offset := 0, embedded := false, tag := "", pkgPath := "fermata/cells", byteOffset := 0 }, { name := "index", type := 3, offset := 1, embedded := false, tag := "", pkgPath := "fermata/cells", byteOffset := 8 }] := by kernel_rfl
  rw [this]
  obtain ⟨a, b⟩ := p
  obtain ⟨c, d⟩ := q
  have h3 : Try.prog.underlying 3 = some (.int .i64) := Try.underlying3
  by_cases h1 : a = c
  · subst h1
    by_cases h2 : b = d
    · subst h2
      simp [Op.eqFields, part, isAgg, go_sem, h3]
    · have h2' : ¬ ((b : Int) = (d : Int)) := by omega
      simp [Op.eqFields, part, isAgg, go_sem, h3, h2, h2']
  · have h1' : ¬ ((a : Int) = (c : Int)) := by omega
    simp [Op.eqFields, part, isAgg, go_sem, h3, h1, h1']
theorem place_check_n (n : Nat) (b : Bool) (p : Nat × Nat) (w : World) : (Instr.checkKey b (n + 2) 73 (placeV p)).run Try.prog w = .ok () w := by
  have h3 : Try.prog.underlying 3 = some (.int .i64) := Try.underlying3
  have h73 := Try.underlying73
  unfold placeV
  simp only [Instr.checkKey, Sem.run_bind, run_underlying h73, Result.andThen_ok]
  simp [part, isAgg, go_sem, h3, run_underlying h3]
theorem place_check (b : Bool) (p : Nat × Nat) (w : World) : (Instr.checkKey b 10000 73 (placeV p)).run Try.prog w = .ok () w := place_check_n 9998 b p w
theorem place_bits (n : Nat) (p : Nat × Nat) : Instr.sameBits (n + 2) (placeV p) (placeV p) = true := by
  unfold placeV
  simp [Instr.sameBits]
theorem place_keys : Keys Try.prog 73 placeV where
  check := place_check
  same := place_bits 9998
  find := fun {V} encV k m es w h => by
    have hn : ∀ (es : List MapEntry) (m : List ((Nat × Nat) × V)) (i : Nat), es.map (fun e => (e.key, e.val)) = m.map (fun p => (placeV p.1, encV p.2)) →
        (Instr.findAsking 73 (placeV k) es i).run Try.prog w = .ok ((mix k m i).map fun p => (p.1, encV p.2)) w := by
      intro es
      induction es with
      | nil =>
        intro m i h
        have : m = [] := by simpa using h.symm
        subst this
        rfl
      | cons e es ih =>
        intro m i h
        cases m with
        | nil => simp at h
        | cons p m =>
          simp only [List.map_cons, List.cons.injEq, Prod.mk.injEq] at h
          have he : (Op.equal 73 (placeV k) e.key).run Try.prog w = .ok (decide (k = p.1)) w := by
            rw [h.1.1]
            exact place_eq 9998 k p.1 w
          simp only [Instr.findAsking, Sem.run_bind, he, Result.andThen_ok, mix]
          by_cases hk : k = p.1
          · subst hk
            simp [h.1.2]
          · have hk' : ¬ p.1 = k := fun e => hk e.symm
            simp only [hk, hk', decide_false, if_false, Bool.false_eq_true]
            exact ih m (i + 1) h.2
    unfold Instr.findKey
    simp only [Sem.run_bind, run_underlying Try.underlying73, Result.andThen_ok]
    cases es with
    | nil =>
      have : m = [] := by simpa using h.symm
      subst this
      rfl
    | cons e es =>
      cases m with
      | nil => simp at h
      | cons p m =>
        have hh := h
        simp only [List.map_cons, List.cons.injEq, Prod.mk.injEq] at hh
        have : Instr.findNow (TypeDesc.struct #[{ name := "owner", type := 3, offset := 0, embedded := false, tag := "", pkgPath := "fermata/cells", byteOffset := 0 }, { name := "index", type := 3, offset := 1, embedded := false, tag := "", pkgPath := "fermata/cells", byteOffset := 8 }]) (placeV k) (e :: es) 0 = Option.none := by
          simp [Instr.findNow, Instr.sameNow]
        rw [this]
        exact hn (e :: es) (p :: m) 0 h

/-! ### the memory -/
structure RowL where
  b : Nat
  cap : Nat
  xs : List Int
structure TopL where
  r : Nat
  m : List ((Nat × Nat) × Int)
  snap : List (List Int)
/-- The values now, and those at each mark, the last mark at the end. -/
structure CM where
  now : List (List Int)
  marks : List (List (List Int))

def look (l : List (List Int)) (p : Nat × Nat) : Int := ((l[p.1]?.getD [])[p.2]?).getD 0
def IsDiff (m : List ((Nat × Nat) × Int)) (old new : List (List Int)) : Prop :=
  ∀ p, mget p m = if look old p = look new p then none else some (look old p)
def lens (l : List (List Int)) : List Nat := l.map List.length

def RowL.val (r : RowL) : Value := .slice (some ⟨r.b, 0, none⟩) r.xs.length r.cap
def TopL.val (t : TopL) : Value := .map (some t.r)
def nowOf (rows : List RowL) : List (List Int) := rows.map RowL.xs
def snapsOf (tops : List TopL) : List (List (List Int)) := tops.map TopL.snap

/-- Each mark's map is the difference of its values from those above it. -/
def Chain (now : List (List Int)) : List TopL → Prop
  | [] => True
  | [t] => IsDiff t.m t.snap now
  | t :: u :: ts => IsDiff t.m t.snap u.snap ∧ Chain now (u :: ts)

/-- The memory in the heap, but for what the marks' maps hold. -/
structure MemB (w : World) (a : Nat) (rv : Value) (rows : List RowL) (mv : Value) (tops : List TopL) : Prop where
  blk : Blk w a 63 #[.bool true, rv, mv]
  rown : w.ownsRow 0 28 1 rv rows.length (rows.map RowL.val)
  row : ∀ r ∈ rows, w.ownsRow 0 2 1 r.val r.xs.length (r.xs.map numV)
  rnd : (rows.map RowL.b).Nodup
  mown : w.ownsRow 0 78 1 mv tops.length (tops.map TopL.val)
  top : ∀ t ∈ tops, MapIs placeV numV w t.r t.m
  tnd : (tops.map TopL.r).Nodup
  shape : ∀ t ∈ tops, lens t.snap = lens (nowOf rows)
  few : rows.length ≤ 16
  short : ∀ r ∈ rows, r.xs.length ≤ 1024
  low : tops.length ≤ 64
structure MemL (w : World) (a : Nat) (rv : Value) (rows : List RowL) (mv : Value) (tops : List TopL) : Prop extends MemB w a rv rows mv tops where
  chain : Chain (nowOf rows) tops

def foot (a : Nat) (rv : Value) (rows : List RowL) (mv : Value) (tops : List TopL) : List Nat :=
  a :: (rv.ownBlock.toList ++ (mv.ownBlock.toList ++ (rows.map RowL.b ++ tops.map TopL.r)))

def IsMem (w : World) (a : Nat) (c : CM) (F : List Nat) : Prop :=
  ∃ rv rows mv tops, MemL w a rv rows mv tops ∧ nowOf rows = c.now ∧ snapsOf tops = c.marks ∧ F = foot a rv rows mv tops

section
variable {w w' : World} {a : Nat} {rv mv : Value} {rows : List RowL} {tops : List TopL} {F : List Nat} {c : CM}
theorem mem_foot {b : Nat} : b ∈ foot a rv rows mv tops ↔ b = a ∨ rv.ownBlock = some b ∨ mv.ownBlock = some b ∨ (∃ r ∈ rows, r.b = b) ∨ ∃ t ∈ tops, t.r = b := by
  simp [foot, Option.mem_toList]
theorem MemB.kept (h : MemB w a rv rows mv tops) (hk : Kept F w w') (hd : ∀ b ∈ foot a rv rows mv tops, b ∉ F) : MemB w' a rv rows mv tops where
  blk := hk.blk h.blk (hd _ (by simp [mem_foot]))
  rown := hk.own h.rown fun k e => hd _ (by simp [mem_foot, e])
  row := fun r hr => hk.own (h.row r hr) fun k e => hd _ (mem_foot.2 (by
    simp only [RowL.val, Value.ownBlock, Option.some.injEq] at e
    exact .inr (.inr (.inr (.inl ⟨r, hr, e⟩)))))
  rnd := h.rnd
  mown := hk.own h.mown fun k e => hd _ (by simp [mem_foot, e])
  top := fun t ht => hk.map (h.top t ht) (hd _ (mem_foot.2 (.inr (.inr (.inr (.inr ⟨t, ht, rfl⟩))))))
  tnd := h.tnd
  shape := h.shape
  few := h.few
  short := h.short
  low := h.low
theorem MemL.kept (h : MemL w a rv rows mv tops) (hk : Kept F w w') (hd : ∀ b ∈ foot a rv rows mv tops, b ∉ F) : MemL w' a rv rows mv tops :=
  ⟨h.toMemB.kept hk hd, h.chain⟩
theorem IsMem.kept (h : IsMem w a c F) {G : List Nat} (hk : Kept G w w') (hd : ∀ b ∈ F, b ∉ G) : IsMem w' a c F := by
  obtain ⟨rv, rows, mv, tops, h1, h2, h3, rfl⟩ := h
  exact ⟨rv, rows, mv, tops, h1.kept hk hd, h2, h3, rfl⟩
theorem IsMem.keptNil (h : IsMem w a c F) (hk : Kept [] w w') : IsMem w' a c F := h.kept hk (by simp)
theorem own_lt {base n size : Nat} {e : TypeId} {v : Value} {xs : List Value} (h : w.ownsRow base e size v n xs) {k : Nat} (hk : v.ownBlock = some k) : k < w.heap.size := (h.lt k hk).2
theorem own_blk {base n size : Nat} {e : TypeId} {v : Value} {xs : List Value} (h : w.ownsRow base e size v n xs) {k : Nat} (hk : v.ownBlock = some k) : ∃ cs, Blk w k e cs := by
  rcases h.2 with ⟨rfl, _⟩ | ⟨g, cap, cur, rfl, hb, hg, rest⟩
  · simp [Value.ownBlock] at hk
  · simp only [Value.ownBlock, Option.some.injEq] at hk
    subst hk
    exact ⟨cur, hg⟩
theorem MemB.lt (h : MemB w a rv rows mv tops) : ∀ b ∈ foot a rv rows mv tops, b < w.heap.size := by
  intro b hb
  rcases mem_foot.1 hb with rfl | e | e | ⟨r, hr, rfl⟩ | ⟨t, ht, rfl⟩
  · exact h.blk.lt
  · exact own_lt h.rown e
  · exact own_lt h.mown e
  · exact own_lt (h.row r hr) rfl
  · exact (h.top t ht).lt
theorem IsMem.lt (h : IsMem w a c F) : ∀ b ∈ F, b < w.heap.size := by
  obtain ⟨rv, rows, mv, tops, h1, h2, h3, rfl⟩ := h
  exact h1.lt
/-- A cell of a row. -/
theorem own_cell {base n : Nat} {e : TypeId} {v : Value} {xs : List Value} (h : w.ownsRow base e 1 v n xs) {k : Nat} {u : Value} (hk : xs[k]? = some u) :
    ∃ g cap, v = .slice (some ⟨g, 0, none⟩) n cap ∧ w.cell? ⟨g, k, none⟩ = some u ∧ w.frozen? ⟨g, k, none⟩ = false ∧ n ≤ cap ∧ cap ≤ maxLen := by
  rcases h.2 with ⟨rfl, rfl⟩ | ⟨g, cap, cur, rfl, hb, hg, hnc, hcm, hcs, ht⟩
  · have : xs = [] := List.eq_nil_of_length_eq_zero (by simpa using h.1)
    subst this
    simp at hk
  · refine ⟨g, cap, rfl, ?_, (show Blk w g e cur from hg).frozen k, hnc, hcm⟩
    rw [(show Blk w g e cur from hg).cell k]
    rw [← ht, List.getElem?_take] at hk
    split at hk
    · simpa using hk
    · cases hk
end
end Go.Proofs.Ytlfaoibgmbbacaa
