/- What a law holds in the heap, more: grids, the reference's memories. -/
import Derived.Test.YtlfaoibgmbbacaaRefOps
namespace Go.Proofs.Ytlfaoibgmbbacaa
open Go.RowKit
theorem OwnGrid.lt {w : World} {rv : Value} {rows : List RowL} (h : OwnGrid w rv rows) : ∀ b ∈ gridFoot rv rows, b < w.heap.size := by
  intro b hb
  unfold gridFoot at hb
  rcases List.mem_append.1 hb with hb | hb
  · exact own_lt h.rown (by simpa using hb)
  · obtain ⟨r, hr, rfl⟩ := List.mem_map.1 hb
    exact own_lt (h.row r hr) (k := r.b) rfl
def Res.grid (rv : Value) (rows : List RowL) : Res where
  on w F := OwnGrid w rv rows ∧ F = gridFoot rv rows
  framed h hk hd := ⟨h.1.kept hk (by rw [← h.2]; exact hd), h.2⟩
  lt h b hb := h.1.lt b (by rw [← h.2]; exact hb)
def Res.refs (L : List (Value × CM)) : Res where
  on w F := (∀ b ∈ F, b < w.heap.size) ∧ ∀ p ∈ L, RefIs w F p.1 p.2
  framed h hk hd := ⟨fun b hb => Nat.lt_of_lt_of_le (h.1 b hb) hk.size, fun p hp => (h.2 p hp).kept hk hd⟩
  lt h b hb := h.1 b hb
section
variable {w0 w w' : World} {rs : List Res} {R R' R'' R1 R2 R3 R4 R5 : Res} {g : Nat} {t : TypeId} {cs : Array Value} {L L' : List (Value × CM)}
theorem St.blk0 (h : St w0 w (.blk g t cs :: rs)) : Blk w g t cs := h.blk
theorem St.blk1 (h : St w0 w (R :: .blk g t cs :: rs)) : Blk w g t cs := h.drop.blk0
theorem St.blk2 (h : St w0 w (R :: R' :: .blk g t cs :: rs)) : Blk w g t cs := h.drop.drop.blk0
theorem St.blk3 (h : St w0 w (R :: R' :: R'' :: .blk g t cs :: rs)) : Blk w g t cs := h.drop.drop.drop.blk0
theorem St.blk4 (h : St w0 w (R1 :: R :: R' :: R'' :: .blk g t cs :: rs)) : Blk w g t cs := h.drop.drop.drop.drop.blk0
theorem St.mk1 (h : St w0 w (R :: rs)) (t : TypeId) (cs : Array Value) : St w0 (w.alloc (.cells cs t)) (R :: .blk w.heap.size t cs :: rs) := (h.blkNew t cs).swap
theorem St.up3 (h : St w0 w (R1 :: R2 :: R3 :: rs)) : St w0 w (R3 :: R1 :: R2 :: rs) := h.perm (List.perm_middle (l₁ := [R1, R2]))
theorem St.up4 (h : St w0 w (R1 :: R2 :: R3 :: R4 :: rs)) : St w0 w (R4 :: R1 :: R2 :: R3 :: rs) := h.perm (List.perm_middle (l₁ := [R1, R2, R3]))
theorem St.up5 (h : St w0 w (R1 :: R2 :: R3 :: R4 :: R5 :: rs)) : St w0 w (R5 :: R1 :: R2 :: R3 :: R4 :: rs) := h.perm (List.perm_middle (l₁ := [R1, R2, R3, R4]))
theorem St.put2 {x0 x1 : Value} (h : St w0 w (.blk g t #[x0, x1] :: rs)) (y0 y1 : Value) :
    St w0 ((w.setCell ⟨g, 0, none⟩ y0).setCell ⟨g, 1, none⟩ y1) (.blk g t #[y0, y1] :: rs) := (h.set_ 0 y0).set_ 1 y1
theorem St.fresh1 {v : Value} {e : TypeId} {size n : Nat} {xs : List Value} (h : St w0 w rs) (ho : w'.ownsRow w.heap.size e size v n xs) (hk : Kept [] w w') : St w0 w' (.row v e size n xs :: rs) :=
  h.new (R := .row _ _ _ _ _) hk (row_on ho) fun b hb => (ho.lt b (by simpa using hb)).1
theorem St.join (h : St w0 w rs) (k : St w w' [R]) : St w0 w' (R :: rs) := by
  obtain ⟨hk, F, ⟨F1, F2, h1, h2, h3, rfl⟩, hF⟩ := k
  exact h.new hk h1 fun b hb => hF b (by simp [hb])
theorem St.grid {rv : Value} {rows : List RowL} (h : St w0 w (.grid rv rows :: rs)) : OwnGrid w rv rows := by
  obtain ⟨F1, h1, _⟩ := h.at
  exact h1
theorem St.gridNew {rv : Value} {rows : List RowL} (h : St w0 w rs) (hg : OwnGrid w' rv rows) (hk : Kept [] w w') (hf : ∀ b ∈ gridFoot rv rows, w.heap.size ≤ b) : St w0 w' (.grid rv rows :: rs) :=
  h.new (R := .grid _ _) hk ⟨hg, rfl⟩ hf
theorem RefIs.cut {F : List Nat} {v : Value} {c : CM} (h : RefIs w F v c) : RefIs w (F.filter fun b => decide (b < w.heap.size)) v c := by
  have key : ∀ {A : Option Addr} {xs : List Value}, ReadsIn w F A xs → ReadsIn w (F.filter fun b => decide (b < w.heap.size)) A xs := by
    intro A xs h
    rcases h with h | ⟨b, off, h1, h2, h3, h4⟩
    · exact .inl h
    · exact .inr ⟨b, off, h1, by simp [h2, h3], h3, h4⟩
  have kg : ∀ {u : Value} {ls : List (List Int)}, GridIs w F u ls → GridIs w (F.filter fun b => decide (b < w.heap.size)) u ls := by
    rintro u ls ⟨A, cap, vs, h1, h2, h3, h4⟩
    refine ⟨A, cap, vs, h1, key h2, h3, fun k xs hx => ?_⟩
    obtain ⟨b, off, cb, h5, h6⟩ := h4 k xs hx
    exact ⟨b, off, cb, h5, key h6⟩
  obtain ⟨nv, mv, h1, h2, A, cap, vs, h3, hc, h4, h5, h6⟩ := h
  refine ⟨nv, mv, h1, kg h2, A, cap, vs, h3, hc, key h4, h5, fun k s hs => ?_⟩
  obtain ⟨u, h7, h8⟩ := h6 k s hs
  exact ⟨u, h7, kg h8⟩
/-- What the reference's functions give: a memory in the same blocks and new ones. -/
def Turned (w w' : World) (F : List Nat) (v' : Value) (c' : CM) : Prop :=
  ∃ F', RefIs w' F' v' c' ∧ Kept [] w w' ∧ (∀ b ∈ F, b ∈ F') ∧ ∀ b ∈ F', b ∈ F ∨ w.heap.size ≤ b
theorem St.ref (h : St w0 w (.refs L :: rs)) {v : Value} {c : CM} (hp : (v, c) ∈ L) : ∃ F, RefIs w F v c := by
  obtain ⟨F, _, h2⟩ := h.at
  exact ⟨F, h2 _ hp⟩
theorem St.refsNil (h : St w0 w rs) : St w0 w (.refs [] :: rs) :=
  h.new (R := .refs []) (G := []) (Kept.refl _ _) ⟨by simp, by simp⟩ (by simp)
theorem St.refsSub (h : St w0 w (.refs L :: rs)) (hs : ∀ p ∈ L', p ∈ L) : St w0 w (.refs L' :: rs) := by
  obtain ⟨F1, ⟨h1, h2⟩, h3⟩ := h.head
  exact h3 (R' := .refs L') ⟨h1, fun p hp => h2 p (hs p hp)⟩ (Kept.refl _ _) fun b hb => .inl hb
/-- One reads the blocks of a memory; what a turn makes of it lies there too, and in new blocks. -/
theorem St.refsHead (h : St w0 w (.refs L :: rs)) : ∃ F, (∀ p ∈ L, RefIs w F p.1 p.2) ∧ ∀ {w' : World} {v' : Value} {c' : CM}, Turned w w' F v' c' → St w0 w' (.refs ((v', c') :: L) :: rs) := by
  obtain ⟨F1, ⟨h1, h2⟩, h3⟩ := h.head
  refine ⟨F1, h2, fun {w' v' c'} ht => ?_⟩
  obtain ⟨F', k1, k2, k3, k4⟩ := ht
  have hlt : ∀ b ∈ F1, b ∈ F'.filter fun b => decide (b < w'.heap.size) := fun b hb => by
    have := h1 b hb
    have := k2.size
    simp [k3 b hb]
    omega
  refine h3 (R' := .refs ((v', c') :: L)) (F' := F'.filter fun b => decide (b < w'.heap.size)) ⟨fun b hb => by simpa using (List.mem_filter.1 hb).2, fun p hp => ?_⟩ k2.nil_mono fun b hb => k4 b (List.mem_filter.1 hb).1
  rcases List.mem_cons.1 hp with rfl | hp
  · exact k1.cut
  · exact ((h2 p hp).kept k2 (by simp)).mono hlt
end
theorem run_append_zero {P : Program} {w : World} (base : Nat) (t ty e : TypeId) (i : TypeInfo) (size : Nat) (ht : P.underlying t = some (.slice e)) (hi : P.info? e = some i)
    (v : Value) (n : Nat) (xs : List Value) (hown : w.ownsRow base e size v n xs) (B : Option Addr) (c : Nat) :
    (Builtin.append_ #[t, t] ty #[v, .slice B 0 c]).run P w = .ok v w := by
  have hl : ∀ ad, (loadCells ad 0).run P w = .ok #[] w := fun ad => by
    have := run_loadCells_list (P := P) w ad [] (by simp)
    simpa using this
  rcases hown.2 with ⟨rfl, rfl⟩ | ⟨g, cap, cur, rfl, _, _, hnc, _⟩
  · cases B <;> simp [Builtin.append_, run_underlying ht, sizeOf, typeInfo, hi, Builtin.lenOf, Builtin.firstCells, hl]
  · cases B <;> simp [Builtin.append_, run_underlying ht, sizeOf, typeInfo, hi, Builtin.lenOf, Builtin.firstCells, hnc, storeCells, hl]
theorem step_append_zero {P : Program} {w : World} {ops : Array Oper} {o : Oper} {a : Act} {K : Act → World → Prop} {Q : Exit → Act → World → Prop} {E : Prop} (hgd : o.guard = none) (s x : Operand) (t : TypeId)
    (ho : o.op = .call { callee := .builtin .append, args := #[s, x], argTypes := #[t, t] })
    (base : Nat) (e : TypeId) (i : TypeInfo) (size : Nat) (ht : P.underlying t = some (.slice e)) (hi : P.info? e = some i)
    (v : Value) (n : Nat) (xs : List Value) (hs : a.eval s = v) (hown : w.ownsRow base e size v n xs) (B : Option Addr) (c : Nat) (hx : a.eval x = .slice B 0 c)
    (h : K (a.put o.dst v) w) : if Region.wanted o (yielded ops a.tmps) = true then Oper.wp P o a w K Q else E := by
  have hw : Region.wanted o (yielded ops a.tmps) = true := by simp [Region.wanted, hgd]
  rw [if_pos hw]
  have hrun := run_append_zero (P := P) (w := w) base t o.type e i size ht hi v n xs hown B c
  unfold Oper.wp
  simp [execOp, ho, resolve, invoke, builtin, hs, hx, hrun, Result.andThen]
  exact h
theorem St.appendRow {w0 w w' : World} {rs : List Res} {v v' : Value} {e : TypeId} {size n m : Nat} {xs ys : List Value} (h : St w0 w (.row v e size n xs :: rs)) (hg : w.grownBy w' v.ownBlock) (ho : w'.ownsRow 0 e size v' (n + m) (xs ++ ys))
    (hloc : v'.ownBlock = v.ownBlock ∨ v'.ownBlock = some w.heap.size) : St w0 w' (.row v' e size (n + m) (xs ++ ys) :: rs) := by
  obtain ⟨F1, h1, h2⟩ := h.head
  obtain ⟨_, rfl⟩ := h1
  refine h2 (R' := .row _ _ _ _ _) (row_on ho) (Kept.grown hg (by simp)) fun b hb => ?_
  simp only [Option.mem_toList] at hb
  rcases hloc with e1 | e1
  · left; rw [← e1]; simpa using hb
  · right
    rw [hb] at e1
    simp only [Option.some.injEq] at e1
    omega
theorem step_append_st {P : Program} {w0 w : World} {rs : List Res} {ops : Array Oper} {o : Oper} {a : Act} {K : Act → World → Prop} {Q : Exit → Act → World → Prop} {E : Prop} (hgd : o.guard = none) (s x : Operand) (t : TypeId)
    (ho : o.op = .call { callee := .builtin .append, args := #[s, x], argTypes := #[t, t] })
    (e : TypeId) (i : TypeInfo) (z : Value) (size bytes : Nat) (ht : P.underlying t = some (.slice e)) (hi : P.info? e = some i) (hz : i.zero = some z)
    (hsize : i.size = size) (hby : i.bytes = bytes) (hzs : z.cells.size = size) (hsz : 0 < size)
    (v : Value) (n : Nat) (xs : List Value) (hs : a.eval s = v) (S : St w0 w (.row v e size n xs :: rs))
    (B : Option Addr) (m c : Nat) (news : List Value) (hx : a.eval x = .slice B m c) (hl : news.length = m * size) (hr : Reads w B news) (h1 : ∀ u ∈ news, u.oneCell' = true)
    (h63 : n + m ≤ maxLen) (hbytes : (n + m) * bytes ≤ 140737488355328)
    (h : ∀ v' w', St w0 w' (.row v' e size (n + m) (xs ++ news) :: rs) → K (a.put o.dst v') w') :
    if Region.wanted o (yielded ops a.tmps) = true then Oper.wp P o a w K Q else E := by
  by_cases hnn : news = []
  · subst hnn
    have hm0 : m = 0 := by
      rcases Nat.eq_zero_or_pos m with h | h
      · exact h
      · have := Nat.mul_pos h hsz
        simp only [List.length_nil] at hl
        omega
    subst hm0
    refine step_append_zero hgd s x t ho 0 e i size ht hi v n xs hs S.row B c hx (h v w ?_)
    simpa using S
  · obtain ⟨b, off, rfl, hc⟩ := hr.resolve_left hnn
    refine step_append_at hgd s x t ho 0 e i z size bytes ht hi hz hsize hby hzs hsz v n xs hs S.row ⟨b, off, none⟩ m c news hx hl (fun j u hj => ?_) h1 h63 hbytes (Nat.zero_le _) fun v' w' h2 h3 h4 => h v' w' (S.appendRow h3 h2 h4)
    rw [addr_add]
    exact hc j u hj
theorem reads_blk {w : World} {g : Nat} {t : TypeId} {cs : List Value} (h : Blk w g t cs.toArray) : Reads w (some ⟨g, 0, none⟩) cs := by
  refine .inr ⟨g, 0, rfl, fun j u hj => ?_⟩
  rw [Nat.zero_add, Blk.cell h j]
  simpa using hj
end Go.Proofs.Ytlfaoibgmbbacaa
