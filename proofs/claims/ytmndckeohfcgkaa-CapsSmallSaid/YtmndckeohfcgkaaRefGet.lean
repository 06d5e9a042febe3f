/- The reference of layer 23: Get, has, Place. -/
import Derived.Test.YtmndckeohfcgkaaRefLive
namespace Go.Proofs.Ytmndckeohfcgkaa
open Go.RowKit
theorem find_take' {α : Type} {p : α → Bool} {l : List α} {k : Nat} {x : α} (h : (l.take k).find? p = none) (hx : l[k]? = some x) (e : p x = true) : l.find? p = some x := by
  have hk := (List.getElem?_eq_some_iff.1 hx).1
  have : l = l.take k ++ (x :: l.drop (k + 1)) := by
    conv => lhs; rw [← List.take_append_drop k l, List.drop_eq_getElem_cons hk]
    rw [(List.getElem?_eq_some_iff.1 hx).2]
  rw [this, List.find?_append, h]
  simp [List.find?_cons, e]
theorem find_take_none' {α : Type} {p : α → Bool} {l : List α} {k : Nat} {x : α} (h : (l.take k).find? p = none) (hx : l[k]? = some x) (e : p x = false) : (l.take (k + 1)).find? p = none := by
  rw [List.take_add_one, List.find?_append, h, hx]
  simp [List.find?_cons, e]
theorem info104' : (Try.prog.info? 104).map (·.size) = some 6 := by kernel_rfl
theorem load104 {w : World} {g : Nat} {e : TypeId} {a b c d f h : Value} (hb : Blk w g e #[a, b, c, d, f, h]) : (loadVar 104 ⟨g, 0, none⟩).run Try.prog w = .ok (.agg #[a, b, c, d, f, h]) w :=
  run_loadVar_row w g e 104 #[a, b, c, d, f, h] (0, 0) _ hb Try.underlying104 rfl info104'
theorem results_c104 {fn : Func} {t v : Tmp} {tmps : Array Value} {w : World} {g : Nat} {e : TypeId} {a b c d f k : Value} (h : fn.results = #[.cell t 104, .tmp v]) (ht : tmps.getD t undef = .pointer (some ⟨g, 0, none⟩))
    (hb : Blk w g e #[a, b, c, d, f, k]) : (results fn tmps).run Try.prog w = .ok (.tuple #[.agg #[a, b, c, d, f, k], tmps.getD v undef]) w := by
  have hl := load104 hb
  simp only [results, h]
  simp only [Array.getD_eq_getD_getElem?] at ht
  simp [Sem.run_bind, Result.andThen, ht, asAddr, hl]
theorem set6 {W : World} {g : Nat} {t : TypeId} {x0 x1 x2 x3 x4 x5 : Value} (hb : Blk W g t #[x0, x1, x2, x3, x4, x5]) (y0 y1 y2 y3 y4 y5 : Value) :
    Blk ((((((W.setCell ⟨g, 0, none⟩ y0).setCell ⟨g, 1, none⟩ y1).setCell ⟨g, 2, none⟩ y2).setCell ⟨g, 3, none⟩ y3).setCell ⟨g, 4, none⟩ y4).setCell ⟨g, 5, none⟩ y5) g t #[y0, y1, y2, y3, y4, y5] ∧
    Kept [g] W ((((((W.setCell ⟨g, 0, none⟩ y0).setCell ⟨g, 1, none⟩ y1).setCell ⟨g, 2, none⟩ y2).setCell ⟨g, 3, none⟩ y3).setCell ⟨g, 4, none⟩ y4).setCell ⟨g, 5, none⟩ y5) :=
  ⟨(((((hb.set_ 0 y0).set_ 1 y1).set_ 2 y2).set_ 3 y3).set_ 4 y4).set_ 5 y5,
   (((((Kept.setCell (by simp) _ _).trans' (Kept.setCell (by simp) _ _)).trans' (Kept.setCell (by simp) _ _)).trans' (Kept.setCell (by simp) _ _)).trans' (Kept.setCell (by simp) _ _)).trans' (Kept.setCell (by simp) _ _)⟩
def getR (l : List RH) (s : Int) : RH × Int := match (liveR l).find? (fun h => h.serial == s) with | some h => (h, 0) | none => (noRH, 6)
set_option maxRecDepth 100000 in
set_option maxHeartbeats 1000000 in
theorem RGet_calls {w : World} {A : Option Addr} {cap : Nat} {nx : Int} {l : List RH} (s : Int) (hA : Reads w A (flatR l)) (hn : l.length ≤ 1024) :
    Calls Try.prog 65 #[.agg #[.int .i64 nx, .slice A l.length cap], .int .i64 s] w fun e w' => e = .returned (.tuple #[(getR l s).1.val, .int .i64 (getR l s).2]) ∧ Kept [] w w' := by
  generalize hv : (w.alloc (.cells #[.int .i64 nx, .slice A l.length cap] 88)) = w1
  generalize hv2 : (w1.alloc (.cells #[.int .i64 0, .int .i64 0, .int .i64 0, .int .i64 0, .int .i64 0, .bool false] 104)) = w2
  have HSZ : Hid (w1.heap.size = w.heap.size + 1) := Lib.hid (by rw [← hv]; simp)
  have hk1 : Kept [] w w1 := by rw [← hv]; exact Kept.alloc _ _ _
  have hk2 : Kept [] w1 w2 := by rw [← hv2]; exact Kept.alloc _ _ _
  have hb1 : Blk w1 w.heap.size 88 #[.int .i64 nx, .slice A l.length cap] := by rw [← hv]; exact Blk.new _ _ _
  have hb2 : Blk w2 w1.heap.size 104 #[.int .i64 0, .int .i64 0, .int .i64 0, .int .i64 0, .int .i64 0, .bool false] := by rw [← hv2]; exact Blk.new _ _ _
  have hb1' := hk2.blk hb1 (by simp)
  have d0 : w2.cell? ⟨w.heap.size, 0, none⟩ = some (.int .i64 nx) := hb1'.cell 0
  have d1 : w2.cell? ⟨w.heap.size, 1, none⟩ = some (.slice A l.length cap) := hb1'.cell 1
  have K2 := Lib.hid (hk1.trans' hk2)
  have B2 := Lib.hid hb2
  have HL := Lib.hid (RLive_calls (nx := nx) (cap := cap) (show Reads w2 A (flatR l) from (hk1.trans' hk2).reads hA (by simp)) hn)
  have hlv : (liveR l).length ≤ 1024 := by have := liveR_le l; omega
  clear hA hk1 hk2 hb1 hb2 hb1'
  go_enter Try.func65, Try.ntmps65
  go_wp2_with fail
  refine HL.out.mono ?_
  rintro e w3 ⟨R, q, rfl, hO, hK⟩
  have hb3 := hK.blk B2.out (by simp)
  have HA := Lib.hid (own_reads hO)
  have K3 := Lib.hid (K2.out.trans' hK)
  have B3 := Lib.hid hb3
  clear hO hK hb3 d0 d1 HL hv hv2
  generalize hl2 : liveR l = l2 at *
  have HL2 := Lib.hid hl2
  clear hl2
  go_wp2
  go_loopw [7] (fun i wr => ∃ k : Nat, k ≤ l2.length ∧ i = .int .i64 k ∧ (l2.take k).find? (fun h => h.serial == s) = none ∧ wr = w3) (fun i _ => l2.length - (intOf i).toNat)
  case atStart => exact ⟨0, Nat.zero_le _, rfl, rfl, rfl⟩
  case round =>
    obtain ⟨k, hk, rfl, hF, rfl⟩ := hrel
    by_cases hlt : k < l2.length
    · obtain ⟨x, hx⟩ : ∃ x, l2[k]? = some x := ⟨_, List.getElem?_eq_getElem hlt⟩
      obtain ⟨b1, o1, rfl, hc1⟩ := HA.out.resolve_left (by intro e; rw [flatR_nil.1 e] at hx; simp at hx)
      obtain ⟨c0, c1, c2, c3, c4, c5⟩ := rh_cells (Kept.refl [] _) hc1 hx
      have f0 := B3.out.cell 0
      have f1 := B3.out.cell 1
      have f2 := B3.out.cell 2
      have f3 := B3.out.cell 3
      have f4 := B3.out.cell 4
      have f5 := B3.out.cell 5
      have fl := B3.out.lt
      have z := B3.out.frozen
      have X1 := Lib.hid hF
      have X3 := Lib.hid hx
      clear hF hx hc1
      obtain ⟨x1, x2, x3, x4, x5, x6⟩ := x
      simp only at c0 c1 c2 c3 c4 c5
      by_cases e : x1 = s
      · subst x1
        have R : Hid (getR l s = (⟨s, x2, x3, x4, x5, x6⟩, 0)) := Lib.hid (by unfold getR; rw [HL2.out, find_take' X1.out X3.out (by simp)])
        go_wp2
        obtain ⟨q1, q2⟩ := set6 B3.out (.int .i64 s) (.int .i64 x2) (.int .i64 x3) (.int .i64 x4) (.int .i64 x5) (.bool x6)
        refine bodyPost_ret (results_c104 rfl rfl q1) rfl ?_
        rw [R.out]
        exact ⟨rfl, (K3.out.nil_mono.trans' q2).nil_new (by have := HSZ.out; simp; omega)⟩
      · have X4 := Lib.hid (find_take_none' X1.out X3.out (by simp [e]))
        go_wp2
        go_roundw
        case rel => exact ⟨k + 1, by omega, by go_num, X4.out, trivial⟩
        case measure => simp [intOf]; omega
    · obtain rfl : k = l2.length := by omega
      rw [List.take_length] at hF
      have R : Hid (getR l s = (noRH, 6)) := Lib.hid (by unfold getR; rw [HL2.out, hF])
      have f0 := B3.out.cell 0
      have f1 := B3.out.cell 1
      have f2 := B3.out.cell 2
      have f3 := B3.out.cell 3
      have f4 := B3.out.cell 4
      have f5 := B3.out.cell 5
      have fl := B3.out.lt
      have z := B3.out.frozen
      clear hF
      go_wp2
      obtain ⟨q1, q2⟩ := set6 B3.out (.int .i64 0) (.int .i64 0) (.int .i64 0) (.int .i64 0) (.int .i64 0) (.bool false)
      refine bodyPost_ret (results_c104 rfl rfl q1) rfl ?_
      rw [R.out]
      exact ⟨rfl, (K3.out.nil_mono.trans' q2).nil_new (by have := HSZ.out; simp; omega)⟩
def placeR (l : List RH) (who i : Int) : RH × Int :=
  if holds who = false then (noRH, 2)
  else match (if 0 ≤ i then (placesR l who)[i.toNat]? else none) with
  | none => (noRH, 6)
  | some h => if h.gone = true then (noRH, 230) else (h, 0)
set_option maxRecDepth 100000 in
set_option maxHeartbeats 1000000 in
theorem RPlace_calls {w : World} {A : Option Addr} {cap : Nat} {nx : Int} {l : List RH} (who i : Int) (hA : Reads w A (flatR l)) (hn : l.length ≤ 1024) :
    Calls Try.prog 73 #[.agg #[.int .i64 nx, .slice A l.length cap], .int .i64 who, .int .i64 i] w fun e w' => e = .returned (.tuple #[(placeR l who i).1.val, .int .i64 (placeR l who i).2]) ∧ Kept [] w w' := by
  generalize hv : (w.alloc (.cells #[.int .i64 nx, .slice A l.length cap] 88)) = w1
  generalize hv2 : (w1.alloc (.cells #[.int .i64 0, .int .i64 0, .int .i64 0, .int .i64 0, .int .i64 0, .bool false] 104)) = w2
  have HSZ : Hid (w1.heap.size = w.heap.size + 1) := Lib.hid (by rw [← hv]; simp)
  have hk1 : Kept [] w w1 := by rw [← hv]; exact Kept.alloc _ _ _
  have hk2 : Kept [] w1 w2 := by rw [← hv2]; exact Kept.alloc _ _ _
  have hb1 : Blk w1 w.heap.size 88 #[.int .i64 nx, .slice A l.length cap] := by rw [← hv]; exact Blk.new _ _ _
  have hb2 : Blk w2 w1.heap.size 104 #[.int .i64 0, .int .i64 0, .int .i64 0, .int .i64 0, .int .i64 0, .bool false] := by rw [← hv2]; exact Blk.new _ _ _
  have hb1' := hk2.blk hb1 (by simp)
  have d0 : w2.cell? ⟨w.heap.size, 0, none⟩ = some (.int .i64 nx) := hb1'.cell 0
  have d1 : w2.cell? ⟨w.heap.size, 1, none⟩ = some (.slice A l.length cap) := hb1'.cell 1
  have K2 := Lib.hid (hk1.trans' hk2)
  have B2 := Lib.hid hb2
  have HL := Lib.hid (RPlaces_calls (nx := nx) (cap := cap) who (show Reads w2 A (flatR l) from (hk1.trans' hk2).reads hA (by simp)) hn)
  have hlv : (placesR l who).length ≤ 1024 := by have := placesR_le l who; omega
  clear hA hk1 hk2 hb1 hb2 hb1'
  go_enter Try.func73, Try.ntmps73
  by_cases h1 : who < 0
  · have R : Hid (placeR l who i = (noRH, 2)) := Lib.hid (by unfold placeR; rw [if_pos (by simp [holds]; omega)])
    clear HL
    have f0 := B2.out.cell 0
    have f1 := B2.out.cell 1
    have f2 := B2.out.cell 2
    have f3 := B2.out.cell 3
    have f4 := B2.out.cell 4
    have f5 := B2.out.cell 5
    have fl := B2.out.lt
    have z := B2.out.frozen
    go_wp2
    obtain ⟨q1, q2⟩ := set6 B2.out (.int .i64 0) (.int .i64 0) (.int .i64 0) (.int .i64 0) (.int .i64 0) (.bool false)
    refine bodyPost_ret (results_c104 rfl rfl q1) rfl ?_
    rw [R.out]
    exact ⟨rfl, (K2.out.nil_mono.trans' q2).nil_new (by have := HSZ.out; simp; omega)⟩
  by_cases h2 : 16 < who
  · have R : Hid (placeR l who i = (noRH, 2)) := Lib.hid (by unfold placeR; rw [if_pos (by simp [holds]; omega)])
    clear HL
    have f0 := B2.out.cell 0
    have f1 := B2.out.cell 1
    have f2 := B2.out.cell 2
    have f3 := B2.out.cell 3
    have f4 := B2.out.cell 4
    have f5 := B2.out.cell 5
    have fl := B2.out.lt
    have z := B2.out.frozen
    go_wp2
    obtain ⟨q1, q2⟩ := set6 B2.out (.int .i64 0) (.int .i64 0) (.int .i64 0) (.int .i64 0) (.int .i64 0) (.bool false)
    refine bodyPost_ret (results_c104 rfl rfl q1) rfl ?_
    rw [R.out]
    exact ⟨rfl, (K2.out.nil_mono.trans' q2).nil_new (by have := HSZ.out; simp; omega)⟩
  have hh : ¬ holds who = false := by simp [holds]; omega
  have HH := Lib.hid hh
  clear hh
  go_wp2_with fail
  refine HL.out.mono ?_
  rintro e w3 ⟨R, q, rfl, hO, hK⟩
  have hb3 := hK.blk B2.out (by simp)
  have HA := Lib.hid (own_reads hO)
  have K3 := Lib.hid (K2.out.trans' hK)
  have B3 := Lib.hid hb3
  clear hO hK hb3 d0 d1 HL hv hv2
  generalize hl2 : placesR l who = l2 at *
  have HL2 := Lib.hid hl2
  clear hl2
  have f0 := B3.out.cell 0
  have f1 := B3.out.cell 1
  have f2 := B3.out.cell 2
  have f3 := B3.out.cell 3
  have f4 := B3.out.cell 4
  have f5 := B3.out.cell 5
  have fl := B3.out.lt
  have z := B3.out.frozen
  by_cases h3 : i < 0
  · have R : Hid (placeR l who i = (noRH, 6)) := Lib.hid (by unfold placeR; rw [if_neg HH.out, if_neg (by omega)])
    go_wp2
    obtain ⟨q1, q2⟩ := set6 B3.out (.int .i64 0) (.int .i64 0) (.int .i64 0) (.int .i64 0) (.int .i64 0) (.bool false)
    refine bodyPost_ret (results_c104 rfl rfl q1) rfl ?_
    rw [R.out]
    exact ⟨rfl, (K3.out.nil_mono.trans' q2).nil_new (by have := HSZ.out; simp; omega)⟩
  obtain ⟨k, rfl⟩ : ∃ k : Nat, i = (k : Int) := ⟨i.toNat, by omega⟩
  by_cases h4 : l2.length ≤ k
  · have R : Hid (placeR l who k = (noRH, 6)) := Lib.hid (by unfold placeR; rw [if_neg HH.out, if_pos (by omega), HL2.out, show ((k : Int)).toNat = k by omega, List.getElem?_eq_none h4])
    go_wp2
    obtain ⟨q1, q2⟩ := set6 B3.out (.int .i64 0) (.int .i64 0) (.int .i64 0) (.int .i64 0) (.int .i64 0) (.bool false)
    refine bodyPost_ret (results_c104 rfl rfl q1) rfl ?_
    rw [R.out]
    exact ⟨rfl, (K3.out.nil_mono.trans' q2).nil_new (by have := HSZ.out; simp; omega)⟩
  obtain ⟨x, hx⟩ : ∃ x, l2[k]? = some x := ⟨_, List.getElem?_eq_getElem (by omega)⟩
  have hlt : k < l2.length := by omega
  obtain ⟨b1, o1, rfl, hc1⟩ := HA.out.resolve_left (by intro e; rw [flatR_nil.1 e] at hx; simp at hx)
  obtain ⟨c0, c1, c2, c3, c4, c5⟩ := rh_cells (Kept.refl [] _) hc1 hx
  have R0 : Hid (placeR l who k = if x.gone = true then (noRH, 230) else (x, 0)) := Lib.hid (by unfold placeR; rw [if_neg HH.out, if_pos (by omega), HL2.out, show ((k : Int)).toNat = k by omega, hx])
  clear hx hc1
  obtain ⟨x1, x2, x3, x4, x5, x6⟩ := x
  simp only at c0 c1 c2 c3 c4 c5
  cases x6 with
  | true =>
    have R := Lib.hid (R0.out.trans (if_pos rfl))
    go_wp2
    obtain ⟨q1, q2⟩ := set6 B3.out (.int .i64 0) (.int .i64 0) (.int .i64 0) (.int .i64 0) (.int .i64 0) (.bool false)
    refine bodyPost_ret (results_c104 rfl rfl q1) rfl ?_
    rw [R.out]
    exact ⟨rfl, (K3.out.nil_mono.trans' q2).nil_new (by have := HSZ.out; simp; omega)⟩
  | false =>
    have R := Lib.hid (R0.out.trans (if_neg (by simp)))
    go_wp2
    obtain ⟨q1, q2⟩ := set6 B3.out (.int .i64 x1) (.int .i64 x2) (.int .i64 x3) (.int .i64 x4) (.int .i64 x5) (.bool false)
    refine bodyPost_ret (results_c104 rfl rfl q1) rfl ?_
    rw [R.out]
    exact ⟨rfl, (K3.out.nil_mono.trans' q2).nil_new (by have := HSZ.out; simp; omega)⟩
set_option maxHeartbeats 1000000 in
theorem Rhas_calls {w : World} {A : Option Addr} {cp : Nat} {x : Int} {xs : List Int} (hA : Reads w A (xs.map intV)) (hn : xs.length ≤ 1024) :
    Calls Try.prog 89 #[.slice A xs.length cp, .int .i64 x] w fun e w' => e = .returned (.bool (xs.contains x)) ∧ w' = w := by
  have HA := Lib.hid hA
  clear hA
  go_enter Try.func89, Try.ntmps89
  go_wp2
  go_loopw [5] (fun i wr => ∃ k : Nat, k ≤ xs.length ∧ i = .int .i64 k ∧ (xs.take k).contains x = false ∧ wr = w) (fun i _ => xs.length - (intOf i).toNat)
  case atStart => exact ⟨0, Nat.zero_le _, rfl, rfl, rfl⟩
  case round =>
    obtain ⟨k, hk, rfl, hF, rfl⟩ := hrel
    by_cases hlt : k < xs.length
    · obtain ⟨y, hy⟩ : ∃ y, xs[k]? = some y := ⟨_, List.getElem?_eq_getElem hlt⟩
      obtain ⟨b1, o1, rfl, hc1⟩ := HA.out.resolve_left (by intro e; rw [List.map_eq_nil_iff.1 e] at hy; simp at hy)
      have c0 := hc1 k (.int .i64 y) (by rw [List.getElem?_map, hy]; rfl)
      have HF := Lib.hid hF
      have HY := Lib.hid hy
      clear hF hy hc1
      by_cases e : y = x
      · subst y
        have R : Hid (xs.contains x = true) := Lib.hid (by
          rw [List.contains_iff_mem]
          exact List.mem_of_getElem? HY.out)
        go_wp2
        go_ret
        exact ⟨by rw [R.out]; rfl, rfl⟩
      · have X : Hid ((xs.take (k + 1)).contains x = false) := Lib.hid (by
          rw [List.take_add_one, HY.out]
          have := HF.out
          simp only [List.contains_eq_mem, List.mem_append, decide_eq_false_iff_not, Option.toList_some, List.mem_singleton] at this ⊢
          rintro (h | h)
          · exact this h
          · exact e h.symm)
        go_wp2
        go_roundw
        case rel => exact ⟨k + 1, by omega, by go_num, X.out, trivial⟩
        case measure => simp [intOf]; omega
    · obtain rfl : k = xs.length := by omega
      rw [List.take_length] at hF
      have R := Lib.hid hF
      clear hF
      go_wp2
      go_ret
      exact ⟨by rw [R.out]; rfl, rfl⟩
end Go.Proofs.Ytmndckeohfcgkaa
