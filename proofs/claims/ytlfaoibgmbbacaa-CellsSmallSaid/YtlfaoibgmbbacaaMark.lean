/- The walks of Marks and Mark of package cells. -/
import Derived.Test.YtlfaoibgmbbacaaStore
namespace Go.Proofs.Ytlfaoibgmbbacaa
open Go.RowKit
open Go.ChangeMaps (setBlock)

theorem Marks_calls {w : World} {a : Nat} {F : List Nat} {c : CM} (h : IsMem w a c F) :
    Calls Try.prog 14 #[.pointer (some ⟨a, 0, none⟩)] w fun e w' => e = .returned (.int .i64 c.marks.length) ∧ w = w' := by
  obtain ⟨rv, rows, mv, tops, h, h2, h3, rfl⟩ := h
  have hl : c.marks.length = tops.length := by rw [← h3]; simp [snapsOf]
  rw [hl]
  obtain ⟨A, cap, hmv⟩ := own_slice h.mown
  have hmk := h.marks
  rw [hmv] at hmk
  have hm := h.made
  clear hmv hl h2 h3 h
  go_enter Try.func14, Try.ntmps14
  go_wp2_with (go_at_call 31; refine (is_yes _ _ hm).mono ?_; rintro e w' ⟨rfl, rfl⟩)
  go_ret
  exact ⟨rfl, rfl⟩

theorem grown_blk {w w' : World} {row : Option Nat} {g : Nat} {t : TypeId} {cs : Array Value} (h : w.grownBy w' row) (hb : Blk w g t cs) (hne : row ≠ some g) : Blk w' g t cs := (h.block g hb.lt (fun e => hne e.symm)).trans hb
theorem info78 : (Try.prog.info? 78).map (fun i => (i.zero, i.size, i.bytes)) = some (some (.agg #[.map none]), 1, 8) := by kernel_rfl
theorem mark_many {w : World} {a : Nat} {A : Option Addr} {n cap : Nat} (hm : w.cell? ⟨a, 0, none⟩ = some (.bool true)) (h2 : w.cell? ⟨a, 2, none⟩ = some (.slice A n cap)) (hn : 64 ≤ n) :
    Calls Try.prog 16 #[.pointer (some ⟨a, 0, none⟩)] w fun e w' => e = .returned (.tuple #[.int .i64 0, .int .i64 5]) ∧ w = w' := by
  have hn' : (64 : Int) ≤ n := by omega
  go_enter Try.func16, Try.ntmps16
  go_wp2_with (go_at_call 31; refine (is_yes _ _ hm).mono ?_; rintro e w' ⟨rfl, rfl⟩)
  go_ret2
  exact ⟨rfl, rfl⟩
set_option maxRecDepth 100000 in
set_option maxHeartbeats 400000 in
theorem mark_one {w : World} {a : Nat} {A : Option Addr} {n cap : Nat} {xs : List Value} {rv : Value} (hb : Blk w a 63 #[.bool true, rv, .slice A n cap]) (hn : n < 64)
    (hown : w.ownsRow 0 78 1 (.slice A n cap) n xs) :
    Calls Try.prog 16 #[.pointer (some ⟨a, 0, none⟩)] w fun e w' => ∃ mv' w1 w2, e = .returned (.tuple #[.int .i64 (n + 1 : Nat), .int .i64 0]) ∧
      w1 = (w.alloc (.map #[] 0)).alloc (.cells #[.map (some w.heap.size)] 78) ∧ w1.grownBy w2 (Value.slice A n cap).ownBlock ∧ w2.ownsRow 0 78 1 mv' (n + 1) (xs ++ [.map (some w.heap.size)]) ∧
      (mv'.ownBlock = (Value.slice A n cap).ownBlock ∨ mv'.ownBlock = some w1.heap.size) ∧ w' = w2.setCell ⟨a, 2, none⟩ mv' := by
  have hm : w.cell? ⟨a, 0, none⟩ = some (.bool true) := hb.cell 0
  have h2 : w.cell? ⟨a, 2, none⟩ = some (.slice A n cap) := hb.cell 2
  have hal := hb.lt
  have hne : ∀ k, (Value.slice A n cap).ownBlock = some k → k ≠ a := fun k hk => by
    obtain ⟨cs, hcs⟩ := own_blk hown hk
    exact hcs.ne_ hb (by decide)
  obtain ⟨i0, hi, hz0, hz1, hz2⟩ := info_parts info78
  have hcn := cell_one_new (w.alloc (.map #[] 0)) (.map (some w.heap.size)) 78
  rw [World.size_alloc] at hcn
  have HC := Lib.hid hcn
  clear hcn
  have HN := Lib.hid hne
  clear hne
  have hmm := @run_makeMap Try.prog
  go_enter Try.func16, Try.ntmps16
  go_wp2_with (first
    | (go_at_call 31; refine (is_yes _ _ hm).mono ?_; rintro e w' ⟨rfl, rfl⟩)
    | (at_builtin
       refine wpList_append_own_at _ rfl _ _ 61 rfl 0 78 i0 (.agg #[.map none]) 1 8 Try.underlying61 hi hz0 hz1 hz2 rfl (by decide) (.slice A n cap) n xs rfl ((hown.alloc _).alloc _) ⟨w.heap.size + 1, 0, none⟩ 1 1 [.map (some w.heap.size)] rfl rfl HC.out (by simp [Value.oneCell']) (by unfold maxLen; omega) (by omega) (Nat.zero_le _) ?_
       intro v' w1 hown' hgrow hnil hloc
       clear hnil
       obtain ⟨g', cap', rfl, _⟩ := own_cell hown' (k := n) (u := .map (some w.heap.size)) (by simp [hown.1])
       have b1 := grown_blk hgrow (((Kept.alloc [] _ _).trans' (Kept.alloc [] _ _)).blk hb (by simp)) (fun e => HN.out _ e rfl)
       have g2 := b1.cell 2
       have g3 := b1.frozen 2
       have B1 := Lib.hid b1
       have X := Lib.hid hown'
       have Y := Lib.hid hgrow
       have Z := Lib.hid hloc
       clear b1 hown' hgrow hloc))
  go_ret2
  refine ⟨_, _, w1, rfl, rfl, Y.out, X.out, ?_, rfl⟩
  have := Z.out
  simpa using this

def CM.mark (c : CM) : CM := if 64 ≤ c.marks.length then c else { c with marks := c.marks ++ [c.now] }
def CM.markRes (c : CM) : Int × Int := if 64 ≤ c.marks.length then (0, 5) else ((c.marks.length + 1 : Nat), 0)

/-- What a call does to a memory: it holds c', in blocks of its own or new ones; nothing else is written. -/
def Turns (w w' : World) (a : Nat) (F : List Nat) (c' : CM) : Prop :=
  ∃ F', IsMem w' a c' F' ∧ Kept F w w' ∧ ∀ b ∈ F', b ∈ F ∨ w.heap.size ≤ b

theorem isDiff_refl (l : List (List Int)) : IsDiff [] l l := fun p => by simp [mget]

theorem Mark_calls {w : World} {a : Nat} {F : List Nat} {c : CM} (h : IsMem w a c F) :
    Calls Try.prog 16 #[.pointer (some ⟨a, 0, none⟩)] w fun e w' => e = .returned (.tuple #[.int .i64 c.markRes.1, .int .i64 c.markRes.2]) ∧ Turns w w' a F c.mark := by
  have h0 := h
  obtain ⟨rv, rows, mv, tops, h, h2, h3, rfl⟩ := h
  have hl : c.marks.length = tops.length := by rw [← h3]; simp [snapsOf]
  obtain ⟨A, cap, rfl⟩ := own_slice h.mown
  by_cases hn : 64 ≤ c.marks.length
  · unfold CM.markRes CM.mark
    rw [if_pos hn, if_pos hn]
    refine (mark_many h.made h.marks (by omega)).mono ?_
    rintro e w' ⟨rfl, rfl⟩
    exact ⟨rfl, _, h0, Kept.refl _ _, fun b hb => .inl hb⟩
  · unfold CM.markRes CM.mark
    rw [if_neg hn, if_neg hn]
    refine (mark_one h.blk (by omega) h.mown).mono ?_
    rintro e w' ⟨mv', w1, w2, rfl, rfl, hg, hown, hloc, rfl⟩
    have hW1 : Kept [] w ((w.alloc (.map #[] 0)).alloc (.cells #[.map (some w.heap.size)] 78)) := (Kept.alloc _ _ _).trans' (Kept.alloc _ _ _)
    generalize hw1 : ((w.alloc (.map #[] 0)).alloc (.cells #[.map (some w.heap.size)] 78)) = w1 at *
    have hs1 : w1.heap.size = w.heap.size + 2 := by rw [← hw1]; simp
    have hmap : MapIs placeV numV w1 w.heap.size [] := by
      rw [← hw1]
      exact (Kept.alloc [] _ _).map (MapIs.new placeV numV w) (by simp)
    generalize hrow : (Value.slice A tops.length cap).ownBlock = row at *
    have hK2 : Kept row.toList w1 w2 := Kept.grown hg (by simp)
    have hK3 : Kept (a :: row.toList) w (w2.setCell ⟨a, 2, none⟩ mv') := by
      refine ((hW1.nil_mono (F := a :: row.toList)).trans' (hK2.mono ?_)).trans' (Kept.setCell (by simp) _ _)
      intro b hb _
      simp [List.mem_cons, hb]
    have hla := h.blk.lt
    have hrl : ∀ b ∈ row.toList, b < w.heap.size := fun b hb => own_lt h.mown (by rw [hrow]; simpa using hb)
    have hra : ∀ b ∈ row.toList, b ≠ a := fun b hb => by
      obtain ⟨cs, hcs⟩ := own_blk h.mown (k := b) (by rw [hrow]; simpa using hb)
      exact hcs.ne_ h.blk (by decide)
    have hmv' : ∀ k, mv'.ownBlock = some k → k ≠ a := by
      intro k hk
      rcases hloc with e | e
      · rw [hk] at e
        exact hra k (by rw [← e]; simp)
      · rw [hk] at e
        simp only [Option.some.injEq] at e
        omega
    have hblk : Blk (w2.setCell ⟨a, 2, none⟩ mv') a 63 #[.bool true, rv, mv'] := by
      have b1 := hK2.blk (hW1.blk h.blk (by simp)) (fun hm => hra a hm rfl)
      exact b1.set_ 2 mv'
    have hnot : ∀ b, b < w.heap.size → b ≠ a → (∀ k, row = some k → b ≠ k) → b ∉ a :: row.toList := by
      intro b _ h1 h2
      simp only [List.mem_cons, Option.mem_toList, not_or]
      exact ⟨h1, fun e => h2 b e rfl⟩
    have hM : MemL (w2.setCell ⟨a, 2, none⟩ mv') a rv rows mv' (tops ++ [{ r := w.heap.size, m := [], snap := nowOf rows }]) := by
      refine ⟨⟨hblk, ?_, ?_, h.rnd, ?_, ?_, ?_, ?_, h.few, h.short, ?_⟩, ?_⟩
      · refine hK3.own h.rown fun k hk => hnot k (own_lt h.rown hk) ?_ ?_
        · obtain ⟨cs, hcs⟩ := own_blk h.rown hk
          exact hcs.ne_ h.blk (by decide)
        · intro k' hk'
          obtain ⟨cs, hcs⟩ := own_blk h.rown hk
          obtain ⟨cs', hcs'⟩ := own_blk h.mown (hrow.trans hk')
          exact hcs.ne_ hcs' (by decide)
      · intro r hr
        refine hK3.own (h.row r hr) fun k hk => hnot k (own_lt (h.row r hr) hk) ?_ ?_
        · obtain ⟨cs, hcs⟩ := own_blk (h.row r hr) hk
          exact hcs.ne_ h.blk (by decide)
        · intro k' hk'
          obtain ⟨cs, hcs⟩ := own_blk (h.row r hr) hk
          obtain ⟨cs', hcs'⟩ := own_blk h.mown (hrow.trans hk')
          exact hcs.ne_ hcs' (by decide)
      · rw [List.map_append, List.length_append]
        exact (Kept.setCell (F := [a]) (p := ⟨a, 2, none⟩) (by simp) w2 mv').own hown fun k hk => by simpa using hmv' k hk
      · intro t ht
        rcases List.mem_append.1 ht with ht | ht
        · refine hK3.map (h.top t ht) (hnot _ (h.top t ht).lt (h.top_a ht) fun k hk => h.top_mv ht (hrow.trans hk))
        · simp only [List.mem_singleton] at ht
          subst ht
          refine (Kept.setCell (F := [a]) (p := ⟨a, 2, none⟩) (by simp) w2 mv').map (hK2.map hmap ?_) ?_
          · intro hm
            have := hrl _ hm
            simp only at this
            omega
          · simp only [List.mem_singleton]
            omega
      · rw [List.map_append]
        refine List.nodup_append.2 ⟨h.tnd, by simp, fun x hx y hy => ?_⟩
        obtain ⟨t, ht, rfl⟩ := List.mem_map.1 hx
        simp only [List.map_cons, List.map_nil, List.mem_singleton] at hy
        subst hy
        have := (h.top t ht).lt
        omega
      · intro t ht
        rcases List.mem_append.1 ht with ht | ht
        · exact h.shape t ht
        · simp only [List.mem_singleton] at ht
          subst ht
          rfl
      · simp only [List.length_append, List.length_cons, List.length_nil]
        omega
      · rw [chain_snoc]
        exact ⟨h.chain, isDiff_refl _⟩
    refine ⟨by rw [hl], _, ⟨rv, rows, mv', _, hM, h2, by simp [snapsOf, ← h3, h2], rfl⟩, hK3.mono ?_, ?_⟩
    · intro b hb _
      rw [mem_foot]
      simp only [List.mem_cons, Option.mem_toList] at hb
      rcases hb with rfl | hb
      · exact .inl rfl
      · exact .inr (.inr (.inl (hrow.trans hb)))
    · intro b hb
      rcases mem_foot.1 hb with rfl | e | e | e | ⟨t, ht, rfl⟩
      · exact .inl (mem_foot.2 (.inl rfl))
      · exact .inl (mem_foot.2 (.inr (.inl e)))
      · rcases hloc with e' | e'
        · exact .inl (mem_foot.2 (.inr (.inr (.inl (hrow.trans (e'.symm.trans e))))))
        · right
          rw [e] at e'
          simp only [Option.some.injEq] at e'
          omega
      · exact .inl (mem_foot.2 (.inr (.inr (.inr (.inl e)))))
      · rcases List.mem_append.1 ht with ht | ht
        · exact .inl (mem_foot.2 (.inr (.inr (.inr (.inr ⟨t, ht, rfl⟩)))))
        · simp only [List.mem_singleton] at ht
          subst ht
          exact .inr (Nat.le_refl _)
end Go.Proofs.Ytlfaoibgmbbacaa
