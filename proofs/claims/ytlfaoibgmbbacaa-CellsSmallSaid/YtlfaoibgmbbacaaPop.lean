/- The walk of pop of package cells. -/
import Derived.Test.YtlfaoibgmbbacaaMark
import Derived.Deep.RegionHeld
import Derived.BigRegion
namespace Go.Proofs.Ytlfaoibgmbbacaa
open Go.RowKit
open Go.ChangeMaps (setBlock)
theorem pop_none {w : World} {a : Nat} {A : Option Addr} {cap : Nat} (hm : w.cell? ⟨a, 0, none⟩ = some (.bool true)) (h2 : w.cell? ⟨a, 2, none⟩ = some (.slice A 0 cap)) (hal : a < w.heap.size) :
    Calls Try.prog 33 #[.pointer (some ⟨a, 0, none⟩)] w fun e w' => e = .returned (.tuple #[.agg #[.map none], .int .i64 213]) ∧ Kept [] w w' := by
  go_enter Try.func33, Try.ntmps33
  go_wp2_with (go_at_call 31; refine (is_yes _ _ (by simpa [World.cell?_alloc_past, hal] using hm)).mono ?_; rintro e w' ⟨rfl, rfl⟩)
  refine bodyPost_ret (v := .tuple #[.agg #[.map none], .int .i64 213]) (by simp [results, Try.results33, go_sem]) rfl ⟨rfl, ?_⟩
  exact (Kept.alloc _ _ _)
set_option maxHeartbeats 1000000 in
theorem pop_one {w : World} {a : Nat} {rv : Value} {mb n cap r : Nat} (hb : Blk w a 63 #[.bool true, rv, .slice (some ⟨mb, 0, none⟩) (n + 1) cap]) (hn : n + 1 ≤ 64) (hcap : n + 1 ≤ cap)
    (hm : w.cell? ⟨mb, n, none⟩ = some (.map (some r))) (hmb : mb < w.heap.size) :
    Calls Try.prog 33 #[.pointer (some ⟨a, 0, none⟩)] w fun e w' => e = .returned (.tuple #[.agg #[.map (some r)], .int .i64 0]) ∧ Kept [a] w w' ∧ Blk w' a 63 #[.bool true, rv, .slice (some ⟨mb, 0, none⟩) n cap] := by
  have hm0 : w.cell? ⟨a, 0, none⟩ = some (.bool true) := hb.cell 0
  have h2 : w.cell? ⟨a, 2, none⟩ = some (.slice (some ⟨mb, 0, none⟩) (n + 1) cap) := hb.cell 2
  have h3 : w.frozen? ⟨a, 2, none⟩ = false := hb.frozen 2
  have hal := hb.lt
  have hc1 : (n : Int) ≤ cap := by omega
  go_enter Try.func33, Try.ntmps33
  go_wp2_with (go_at_call 31; refine (is_yes _ _ (by simpa [World.cell?_alloc_past, hal] using hm0)).mono ?_; rintro e w' ⟨rfl, rfl⟩)
  go_region
  go_wp2
  go_region
  go_wp2
  refine bodyPost_ret (v := .tuple #[.agg #[.map (some r)], .int .i64 0]) (by simp [results, Try.results33, go_sem]) rfl ⟨rfl, ?_⟩
  have k1 : Kept [] (w.setCell ⟨a, 2, none⟩ (.slice (some ⟨mb, 0, none⟩) n cap)) (((w.setCell ⟨a, 2, none⟩ (.slice (some ⟨mb, 0, none⟩) n cap)).alloc
      (Obj.cells #[Value.map (some r)] 78)).alloc (Obj.cells #[Value.map (some r)] 78)).drew.drew :=
    (((Kept.alloc _ _ _).trans' (Kept.alloc _ _ _)).trans' (Kept.drew _ _)).trans' (Kept.drew _ _)
  exact ⟨(Kept.setCell (by simp) _ _).trans' k1.nil_mono, k1.blk (hb.set_ 2 _) (by simp)⟩

theorem own_shrink {w : World} {A : Option Addr} {base n cap : Nat} {e : TypeId} {xs : List Value} {x : Value} (h : w.ownsRow base e 1 (.slice A (n + 1) cap) (n + 1) (xs ++ [x])) :
    w.ownsRow base e 1 (.slice A n cap) n xs := by
  have hl := h.1
  simp only [List.length_append, List.length_cons, List.length_nil, Nat.mul_one] at hl
  refine ⟨by omega, ?_⟩
  rcases h.2 with ⟨_, h0⟩ | ⟨g, cap', cur, hv, hb, hg, h1, h2, h3, h4⟩
  · omega
  · simp only [Value.slice.injEq, true_and] at hv
    obtain ⟨rfl, rfl⟩ := hv
    refine .inr ⟨g, cap, cur, rfl, hb, hg, by omega, h2, h3, ?_⟩
    have := congrArg (List.take n) h4
    simp only [Nat.mul_one, List.take_take] at this ⊢
    rw [Nat.min_eq_left (by omega)] at this
    rw [this]
    have e : n = xs.length := by omega
    rw [e]
    simp

theorem Pop_calls {w : World} {a : Nat} {rv mv : Value} {rows : List RowL} {ts : List TopL} {t : TopL} (h : MemB w a rv rows mv (ts ++ [t])) :
    ∃ mv', mv'.ownBlock = mv.ownBlock ∧ Calls Try.prog 33 #[.pointer (some ⟨a, 0, none⟩)] w fun e w' => e = .returned (.tuple #[.agg #[.map (some t.r)], .int .i64 0]) ∧ Kept [a] w w' ∧
      MemB w' a rv rows mv' ts ∧ MapIs placeV numV w' t.r t.m := by
  have hmo := h.mown
  simp only [List.map_append, List.map_cons, List.map_nil, List.length_append, List.length_cons, List.length_nil, Nat.zero_add] at hmo
  obtain ⟨mb, cap, hmv, hcell, _, hcap, _⟩ := own_cell hmo (k := ts.length) (u := t.val) (by simp)
  subst hmv
  have hlow := h.low
  simp only [List.length_append, List.length_cons, List.length_nil] at hlow
  refine ⟨.slice (some ⟨mb, 0, none⟩) ts.length cap, rfl, (pop_one h.blk (by omega) hcap hcell (own_lt hmo rfl)).mono ?_⟩
  rintro e w' ⟨rfl, hk, hb⟩
  have hnot : ∀ {base n size : Nat} {e : TypeId} {v : Value} {xs : List Value}, w.ownsRow base e size v n xs → e ≠ 63 → ∀ k, v.ownBlock = some k → k ∉ [a] := by
    intro base n size e v xs ho hne k hk
    obtain ⟨cs, hcs⟩ := own_blk ho hk
    simpa using hcs.ne_ h.blk hne
  refine ⟨rfl, hk, ⟨hb, hk.own h.rown (hnot h.rown (by decide)), fun r hr => hk.own (h.row r hr) (hnot (h.row r hr) (by decide)), h.rnd, ?_, ?_, ?_, fun u hu => h.shape u (by simp [hu]), h.few, h.short, by omega⟩, ?_⟩
  · have := own_shrink hmo
    exact hk.own this (hnot this (by decide))
  · intro u hu
    exact hk.map (h.top u (by simp [hu])) (by simpa using h.top_a (t := u) (by simp [hu]))
  · have := h.tnd
    rw [List.map_append] at this
    exact (List.nodup_append.1 this).1
  · exact hk.map (h.top t (by simp)) (by simpa using h.top_a (t := t) (by simp))
end Go.Proofs.Ytlfaoibgmbbacaa
