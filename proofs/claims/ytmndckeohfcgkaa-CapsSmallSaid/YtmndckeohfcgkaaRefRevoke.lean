/- The reference of layer 23: Revoke. -/
import Derived.Test.YtmndckeohfcgkaaRefBelow
namespace Go.Proofs.Ytmndckeohfcgkaa
open Go.RowKit
theorem results_c88_3 {fn : Func} {t u v : Tmp} {tmps : Array Value} {w : World} {g : Nat} {e : TypeId} {a b : Value} (h : fn.results = #[.cell t 88, .tmp u, .tmp v]) (ht : tmps.getD t undef = .pointer (some ⟨g, 0, none⟩))
    (hb : Blk w g e #[a, b]) (h1 : a.oneCell' = true) (h2 : b.oneCell' = true) : (results fn tmps).run Try.prog w = .ok (.tuple #[.agg #[a, b], tmps.getD u undef, tmps.getD v undef]) w := by
  have hl := load88 hb h1 h2
  simp only [results, h]
  simp only [Array.getD_eq_getD_getElem?] at ht
  simp [Sem.run_bind, Result.andThen, ht, asAddr, hl]
theorem results_c88_2 {fn : Func} {t u : Tmp} {tmps : Array Value} {w : World} {g : Nat} {e : TypeId} {a b : Value} (h : fn.results = #[.cell t 88, .tmp u]) (ht : tmps.getD t undef = .pointer (some ⟨g, 0, none⟩))
    (hb : Blk w g e #[a, b]) (h1 : a.oneCell' = true) (h2 : b.oneCell' = true) : (results fn tmps).run Try.prog w = .ok (.tuple #[.agg #[a, b], tmps.getD u undef]) w := by
  have hl := load88 hb h1 h2
  simp only [results, h]
  simp only [Array.getD_eq_getD_getElem?] at ht
  simp [Sem.run_bind, Result.andThen, ht, asAddr, hl]
theorem St.put2 {w0 w : World} {rs : List Res} {g : Nat} {t : TypeId} {x0 x1 : Value} (h : St w0 w (.blk g t #[x0, x1] :: rs)) (y0 y1 : Value) :
    St w0 ((w.setCell ⟨g, 0, none⟩ y0).setCell ⟨g, 1, none⟩ y1) (.blk g t #[y0, y1] :: rs) := by
  obtain ⟨F1, h1, h2⟩ := h.head
  obtain ⟨hb, rfl⟩ := h1
  obtain ⟨q1, q2⟩ := set2 hb y0 y1
  exact h2 (R' := .blk g t #[y0, y1]) (F' := [g]) ⟨q1, rfl⟩ q2 fun b hb => .inl hb
set_option maxRecDepth 100000 in
set_option maxHeartbeats 1000000 in
theorem RRevoke_calls {w : World} {A : Option Addr} {cap : Nat} {nx : Int} {l : List RH} (s : Int) (hA : Reads w A (flatR l)) (hn : l.length ≤ 1024) (t : Tree (liveH l)) :
    Calls Try.prog 52 #[.agg #[.int .i64 nx, .slice A l.length cap], .int .i64 s] w fun e w' => ∃ R q R' q', e = .returned (.tuple #[.agg #[.int .i64 nx, .slice R' l.length q'], .slice R (belowR l s).1.length q, .int .i64 (belowR l s).2]) ∧
      St w w' [.row (.slice R' l.length q') 104 6 l.length (flatR (takeR l (belowR l s).1)), .row (.slice R (belowR l s).1.length q) 3 1 (belowR l s).1.length ((belowR l s).1.map intV)] := by
  have hbn : (belowR l s).1.length ≤ 1024 := by
    unfold belowR
    have h1 := (below_sub (liveH l) s).length_le
    have h2 := liveR_le l
    unfold liveH at h1
    rw [List.length_map, List.length_map] at h1
    split
    · simp only; unfold liveH; omega
    · simp
  generalize hv : (w.alloc (.cells #[.int .i64 nx, .slice A l.length cap] 88)) = w1
  generalize hv2 : (w1.alloc (.cells #[.int .i64 0, .slice none 0 0] 88)) = w2
  have s0 : St w w1 [.blk w.heap.size 88 #[.int .i64 nx, .slice A l.length cap]] := by rw [← hv]; exact (St.nil w).alloc _ _
  have s1 : St w w2 [.blk w1.heap.size 88 #[.int .i64 0, .slice none 0 0], .blk w.heap.size 88 #[.int .i64 nx, .slice A l.length cap]] := by rw [← hv2]; exact s0.alloc _ _
  have d0 : w2.cell? ⟨w.heap.size, 0, none⟩ = some (.int .i64 nx) := s1.blk1.cell 0
  have d1 : w2.cell? ⟨w.heap.size, 1, none⟩ = some (.slice A l.length cap) := s1.blk1.cell 1
  have S1 := Lib.hid s1
  have HA := Lib.hid hA
  have HB := Lib.hid (RBelow_calls (nx := nx) (cap := cap) s (s1.whole.reads hA (by simp)) hn t)
  generalize belowR l s = bl at *
  clear hA s0 s1
  go_enter Try.func52, Try.ntmps52
  go_wp2_with fail
  refine HB.out.mono ?_
  rintro e w3 ⟨R, q, rfl, ho, hk⟩
  have s2 := S1.out.new (R := .row _ _ _ _ _) hk (row_on ho) (fun b hb => (ho.lt b (by simpa using hb)).1)
  have e0 : w3.cell? ⟨w.heap.size, 0, none⟩ = some (.int .i64 nx) := s2.blk2.cell 0
  have e1 : w3.cell? ⟨w.heap.size, 1, none⟩ = some (.slice A l.length cap) := s2.blk2.cell 1
  have S2 := Lib.hid s2
  have HT := Lib.hid (RTake_calls (nx := nx) (cap := cap) (cb := q) (s2.whole.reads HA.out (by simp)) (own_reads s2.row) hn hbn)
  clear ho hk s2 HB d0 d1 hv hv2
  go_wp2_with fail
  refine HT.out.mono ?_
  rintro e w4 ⟨R', q', rfl, ho, hk⟩
  have s3 := (S2.out.new (R := .row _ _ _ _ _) hk (row_on ho) (fun b hb => (ho.lt b (by simpa using hb)).1)).up3
  have f0 := s3.blk0.cell 0
  have f1 := s3.blk0.cell 1
  have z := s3.blk0.frozen
  have S3 := Lib.hid s3
  clear ho hk s3 HT e0 e1
  go_wp2
  have s4 := S3.out.put2 (.int .i64 nx) (.slice R' l.length q')
  refine bodyPost_ret (results_c88_3 rfl rfl s4.blk0 rfl rfl) rfl ?_
  exact ⟨R, q, R', q', rfl, s4.drop.up3.drop⟩
end Go.Proofs.Ytmndckeohfcgkaa
