/- The walk of maps.Clone at the marks' maps; a memory that gets one more mark. -/
import Derived.Test.YtlfaoibgmbbacaaAll
import Derived.Shelf.SlMaps.Clone
namespace Go.Proofs.Ytlfaoibgmbbacaa
open Go.RowKit
open Go.Proofs

set_option maxRecDepth 100000 in
theorem Clone_calls {w : World} {r : Nat} {m : List ((Nat × Nat) × Int)} (h : MapIs placeV numV w r m) :
    Calls Try.prog 44 #[.map (some r)] w fun e w' => e = .returned (.map (some w.heap.size)) ∧ MapIs placeV numV w' w.heap.size m ∧ Kept [] w w' := by
  obtain ⟨es, clk, hb, h1, h2, h3, h4⟩ := h
  have hq := fun w => run_eql_map_nil_sl (P := Try.prog) w 76 _ _ (some r) Try.underlying76
  go_enter Try.func44, Try.ntmps44
  go_wp2
  rw [run_callFunc_extern Try.func49 (by kernel_rfl) (by kernel_rfl) (by kernel_rfl) (e := Extern.MapsClone.clone) (by kernel_rfl), run_maps_clone_sl w 76 hb]
  simp only [Result.andThen]
  rw [Oper.upon_value]
  go_wp2
  rw [run_typeAssert_map_sl _ 76 20 _ _ _ Try.underlying76]
  simp only [Result.andThen]
  rw [Oper.upon_value]
  go_wp2
  go_ret
  refine ⟨rfl, ⟨es, clk, (MapKept.heap_alloc w _).1, h1, h2, h3, h4⟩, Kept.alloc _ _ _⟩

theorem MemB.addTop {w w1 w2 : World} {a : Nat} {rv mv mv' : Value} {rows : List RowL} {tops : List TopL} {u : TopL} (h : MemB w a rv rows mv tops) (hW1 : Kept [] w w1)
    (hmap : MapIs placeV numV w1 u.r u.m) (hnew : w.heap.size ≤ u.r) (hg : w1.grownBy w2 mv.ownBlock) (hown : w2.ownsRow 0 78 1 mv' (tops.length + 1) (tops.map TopL.val ++ [u.val]))
    (hloc : mv'.ownBlock = mv.ownBlock ∨ mv'.ownBlock = some w1.heap.size) (hshape : lens u.snap = lens (nowOf rows)) (hlow : tops.length + 1 ≤ 64) :
    MemB (w2.setCell ⟨a, 2, none⟩ mv') a rv rows mv' (tops ++ [u]) ∧ Kept (a :: mv.ownBlock.toList) w (w2.setCell ⟨a, 2, none⟩ mv') ∧
      ∀ b ∈ foot a rv rows mv' (tops ++ [u]), b ∈ foot a rv rows mv tops ∨ w.heap.size ≤ b := by
  have hs1 := hW1.size
  generalize hrow : mv.ownBlock = row at *
  have hK2 : Kept row.toList w1 w2 := Kept.grown hg (by simp)
  have hK3 : Kept (a :: row.toList) w (w2.setCell ⟨a, 2, none⟩ mv') := by
    refine ((hW1.nil_mono (F := a :: row.toList)).trans' (hK2.mono ?_)).trans' (Kept.setCell (by simp) _ _)
    intro b hb _
    simp [List.mem_cons, hb]
  have hla := h.blk.lt
  have hrl : ∀ b ∈ row.toList, b < w.heap.size := fun b hb => own_lt h.mown (by rw [hrow]; simpa using hb)
  have hra : ∀ b ∈ row.toList, b ≠ a := fun b hb => by
    obtain ⟨cs, hcs⟩ := own_blk h.mown (k := b) (by rw [hrow]; simpa using hb)
    exact hcs.ne_ h.blk (by decide)
  have hmv' : ∀ k, mv'.ownBlock = some k → k ≠ a := by
    intro k hk
    rcases hloc with e | e
    · rw [hk] at e
      exact hra k (by rw [← e]; simp)
    · rw [hk] at e
      simp only [Option.some.injEq] at e
      omega
  have hblk : Blk (w2.setCell ⟨a, 2, none⟩ mv') a 63 #[.bool true, rv, mv'] := by
    have b1 := hK2.blk (hW1.blk h.blk (by simp)) (fun hm => hra a hm rfl)
    exact b1.set_ 2 mv'
  have hnot : ∀ b, b < w.heap.size → b ≠ a → (∀ k, row = some k → b ≠ k) → b ∉ a :: row.toList := by
    intro b _ h1 h2
    simp only [List.mem_cons, Option.mem_toList, not_or]
    exact ⟨h1, fun e => h2 b e rfl⟩
  have hM : MemB (w2.setCell ⟨a, 2, none⟩ mv') a rv rows mv' (tops ++ [u]) := by
    refine ⟨hblk, ?_, ?_, h.rnd, ?_, ?_, ?_, ?_, h.few, h.short, ?_⟩
    · refine hK3.own h.rown fun k hk => hnot k (own_lt h.rown hk) ?_ ?_
      · obtain ⟨cs, hcs⟩ := own_blk h.rown hk
        exact hcs.ne_ h.blk (by decide)
      · intro k' hk'
        obtain ⟨cs, hcs⟩ := own_blk h.rown hk
        obtain ⟨cs', hcs'⟩ := own_blk h.mown (hrow.trans hk')
        exact hcs.ne_ hcs' (by decide)
    · intro r hr
      refine hK3.own (h.row r hr) fun k hk => hnot k (own_lt (h.row r hr) hk) ?_ ?_
      · obtain ⟨cs, hcs⟩ := own_blk (h.row r hr) hk
        exact hcs.ne_ h.blk (by decide)
      · intro k' hk'
        obtain ⟨cs, hcs⟩ := own_blk (h.row r hr) hk
        obtain ⟨cs', hcs'⟩ := own_blk h.mown (hrow.trans hk')
        exact hcs.ne_ hcs' (by decide)
    · rw [List.map_append, List.length_append]
      exact (Kept.setCell (F := [a]) (p := ⟨a, 2, none⟩) (by simp) w2 mv').own hown fun k hk => by simpa using hmv' k hk
    · intro t ht
      rcases List.mem_append.1 ht with ht | ht
      · refine hK3.map (h.top t ht) (hnot _ (h.top t ht).lt (h.top_a ht) fun k hk => h.top_mv ht (hrow.trans hk))
      · simp only [List.mem_singleton] at ht
        subst ht
        refine (Kept.setCell (F := [a]) (p := ⟨a, 2, none⟩) (by simp) w2 mv').map (hK2.map hmap ?_) ?_
        · intro hm
          have := hrl _ hm
          omega
        · simp only [List.mem_singleton]
          omega
    · rw [List.map_append]
      refine List.nodup_append.2 ⟨h.tnd, by simp, fun x hx y hy => ?_⟩
      obtain ⟨t, ht, rfl⟩ := List.mem_map.1 hx
      simp only [List.map_cons, List.map_nil, List.mem_singleton] at hy
      subst hy
      have := (h.top t ht).lt
      omega
    · intro t ht
      rcases List.mem_append.1 ht with ht | ht
      · exact h.shape t ht
      · simp only [List.mem_singleton] at ht
        subst ht
        exact hshape
    · simp only [List.length_append, List.length_cons, List.length_nil]
      omega
  refine ⟨hM, hK3, ?_⟩
  intro b hb
  rcases mem_foot.1 hb with rfl | e | e | e | ⟨t, ht, rfl⟩
  · exact .inl (mem_foot.2 (.inl rfl))
  · exact .inl (mem_foot.2 (.inr (.inl e)))
  · rcases hloc with e' | e'
    · exact .inl (mem_foot.2 (.inr (.inr (.inl (hrow.trans (e'.symm.trans e))))))
    · right
      rw [e] at e'
      simp only [Option.some.injEq] at e'
      omega
  · exact .inl (mem_foot.2 (.inr (.inr (.inr (.inl e)))))
  · rcases List.mem_append.1 ht with ht | ht
    · exact .inl (mem_foot.2 (.inr (.inr (.inr (.inr ⟨t, ht, rfl⟩)))))
    · simp only [List.mem_singleton] at ht
      subst ht
      exact .inr hnew
end Go.Proofs.Ytlfaoibgmbbacaa
