/- The reference of layer 23: take. -/
import Derived.Test.YtmndckeohfcgkaaGrows
import Derived.Test.YtmndckeohfcgkaaRefGet
namespace Go.Proofs.Ytmndckeohfcgkaa
open Go.RowKit
theorem wpList_append_any {P : Program} {w : World} {ops : Array Oper} {rest : List Oper} {o : Oper} {a : Act} {Q : Exit → Act → World → Prop} (hgd : o.guard = none) (s x : Operand) (t : TypeId)
    (ho : o.op = .call { callee := .builtin .append, args := #[s, x], argTypes := #[t, t] })
    (base : Nat) (e : TypeId) (i : TypeInfo) (z : Value) (size bytes : Nat) (ht : P.underlying t = some (.slice e)) (hi : P.info? e = some i) (hz : i.zero = some z)
    (hsize : i.size = size) (hby : i.bytes = bytes) (hzs : z.cells.size = size) (hsz : 0 < size)
    (v : Value) (n : Nat) (xs : List Value) (hs : a.eval s = v) (hown : w.ownsRow base e size v n xs)
    (B : Option Addr) (m c : Nat) (news : List Value) (hx : a.eval x = .slice B m c) (hl : news.length = m * size) (hr : Reads w B news) (h1 : ∀ u ∈ news, u.oneCell' = true)
    (h63 : n + m ≤ maxLen) (hbytes : (n + m) * bytes ≤ 140737488355328) (hbase : base ≤ w.heap.size)
    (h : ∀ v' w', w'.ownsRow base e size v' (n + m) (xs ++ news) → Kept v.ownBlock.toList w w' → (v'.ownBlock = v.ownBlock ∨ v'.ownBlock = some w.heap.size) → wpList P ops Q rest (a.put o.dst v') w') :
    wpList P ops Q (o :: rest) a w := by
  by_cases hnn : news = []
  · subst hnn
    have hm0 : m = 0 := by
      rcases Nat.eq_zero_or_pos m with h | h
      · exact h
      · have := Nat.mul_pos h hsz
        simp only [List.length_nil] at hl
        omega
    subst hm0
    refine wpList_plain hgd fun K hK => ?_
    have hrun := run_append_zero (P := P) (w := w) base t o.type e i size ht hi v n xs hown B c
    unfold Oper.wp execOp
    simp only [ho, resolve, invoke, builtin, Sem.run_bind, Sem.run_pure, Result.andThen_ok, List.map_toArray, List.map_cons, List.map_nil, hs, hx, hrun]
    exact hK _ _ (h v w (by simpa using hown) (Kept.refl _ _) (.inl rfl))
  · obtain ⟨b, off, rfl, hc⟩ := hr.resolve_left hnn
    refine wpList_append_own_at w hgd s x t ho base e i z size bytes ht hi hz hsize hby hzs hsz v n xs hs hown ⟨b, off, none⟩ m c news hx hl (fun j u hj => ?_) h1 h63 hbytes hbase ?_
    case refine_2 =>
      intro v' w' h2 h3 _ h5
      exact h v' w' h2 (Kept.grown h3 (by simp)) h5
    have hadd : (⟨b, off, none⟩ : Addr).add j = ⟨b, off + j, none⟩ := by unfold Addr.add; split <;> simp_all
    rw [hadd]
    exact hc j u hj
theorem own_set {w : World} {base : Nat} {e : TypeId} {size n cap g : Nat} {xs : List Value} (h : w.ownsRow base e size (.slice (some ⟨g, 0, none⟩) n cap) n xs) (j : Nat) (u : Value) (hj : j < n * size) :
    (w.setCell ⟨g, j, none⟩ u).ownsRow base e size (.slice (some ⟨g, 0, none⟩) n cap) n (xs.set j u) := by
  refine ⟨by rw [List.length_set]; exact h.1, ?_⟩
  rcases h.2 with ⟨e, _⟩ | ⟨g', cap', cur, e, hb, hg, hnc, hcm, hcs, ht⟩
  · cases e
  · cases e
    refine .inr ⟨g, cap, cur.setIfInBounds j u, rfl, hb, Blk.set_ hg j u, hnc, hcm, by rw [Array.size_setIfInBounds]; exact hcs, ?_⟩
    rw [← ht, Array.toList_setIfInBounds, List.take_set]
theorem flatR_one (l : List RH) : ∀ u ∈ flatR l, u.oneCell' = true := by
  intro u hu
  simp only [flatR, List.mem_flatMap, RH.cells, List.mem_cons, List.not_mem_nil, or_false] at hu
  obtain ⟨x, _, rfl | rfl | rfl | rfl | rfl | rfl⟩ := hu <;> rfl
theorem flatR_set {l : List RH} {k : Nat} {x : RH} (h : l[k]? = some x) (b : Bool) : (flatR l).set (k * 6 + 5) (.bool b) = flatR (l.set k { x with gone := b }) := by
  induction l generalizing k with
  | nil => simp at h
  | cons y l ih =>
    have e : flatR (y :: l) = y.cells ++ flatR l := rfl
    rw [e]
    cases k with
    | zero =>
      simp only [List.getElem?_cons_zero, Option.some.injEq] at h
      subst h
      simp [flatR, RH.cells]
    | succ k =>
      simp only [List.getElem?_cons_succ] at h
      rw [List.set_append, if_neg (by simp [RH.cells]; omega), show (k + 1) * 6 + 5 - y.cells.length = k * 6 + 5 by simp [RH.cells]; omega, ih h]
      rfl
def goneR (ss : List Int) (h : RH) : RH := if ss.contains h.serial = true then { h with gone := true } else h
def takeR (l : List RH) (ss : List Int) : List RH := l.map (goneR ss)
theorem take_step {l : List RH} {ss : List Int} {k : Nat} {x : RH} (hx : l[k]? = some x) :
    (takeR (l.take k) ss ++ l.drop k)[k]? = some x ∧ (takeR (l.take k) ss ++ l.drop k).set k (goneR ss x) = takeR (l.take (k + 1)) ss ++ l.drop (k + 1) ∧ (takeR (l.take (k + 1)) ss ++ l.drop (k + 1)).length = l.length := by
  have hk := (List.getElem?_eq_some_iff.1 hx).1
  have hlen : (takeR (l.take k) ss).length = k := by simp [takeR]; omega
  have hd : l.drop k = x :: l.drop (k + 1) := by
    rw [List.drop_eq_getElem_cons hk, (List.getElem?_eq_some_iff.1 hx).2]
  have ht : takeR (l.take (k + 1)) ss = takeR (l.take k) ss ++ [goneR ss x] := by
    unfold takeR
    rw [List.take_add_one, hx, List.map_append]; rfl
  refine ⟨?_, ?_, ?_⟩
  · rw [List.getElem?_append_right (by omega), hlen, hd]; simp
  · rw [List.set_append, if_neg (by omega), hlen, hd, ht]; simp
  · simp [takeR]; omega
theorem info88 : (Try.prog.info? 88).map (·.size) = some 2 := by kernel_rfl
theorem load88 {w : World} {g : Nat} {e : TypeId} {a b : Value} (hb : Blk w g e #[a, b]) (h1 : a.oneCell' = true) (h2 : b.oneCell' = true) : (loadVar 88 ⟨g, 0, none⟩).run Try.prog w = .ok (.agg #[a, b]) w :=
  run_loadVar_row w g e 88 #[a, b] (0, 0) _ hb Try.underlying88 rfl info88
theorem results_c88 {fn : Func} {t : Tmp} {tmps : Array Value} {w : World} {g : Nat} {e : TypeId} {a b : Value} (h : fn.results = #[.cell t 88]) (ht : tmps.getD t undef = .pointer (some ⟨g, 0, none⟩))
    (hb : Blk w g e #[a, b]) (h1 : a.oneCell' = true) (h2 : b.oneCell' = true) : (results fn tmps).run Try.prog w = .ok (.agg #[a, b]) w := by
  have hl := load88 hb h1 h2
  simp only [results, h]
  simp only [Array.getD_eq_getD_getElem?] at ht
  simp [Sem.run_bind, Result.andThen, ht, asAddr, hl]
theorem set2 {W : World} {g : Nat} {t : TypeId} {x0 x1 : Value} (hb : Blk W g t #[x0, x1]) (y0 y1 : Value) :
    Blk ((W.setCell ⟨g, 0, none⟩ y0).setCell ⟨g, 1, none⟩ y1) g t #[y0, y1] ∧ Kept [g] W ((W.setCell ⟨g, 0, none⟩ y0).setCell ⟨g, 1, none⟩ y1) :=
  ⟨(hb.set_ 0 y0).set_ 1 y1, (Kept.setCell (by simp) _ _).trans' (Kept.setCell (by simp) _ _)⟩
theorem own_some {w : World} {base n q size : Nat} {e : TypeId} {R : Option Addr} {xs : List Value} (h : w.ownsRow base e size (.slice R n q) n xs) (hx : xs ≠ []) :
    ∃ g, R = some ⟨g, 0, none⟩ ∧ ∀ j u, xs[j]? = some u → w.cell? ⟨g, j, none⟩ = some u ∧ w.frozen? ⟨g, j, none⟩ = false := by
  rcases h.2 with ⟨e1, e2⟩ | ⟨g, cap, cur, e1, hb, hg, hnc, hcm, hcs, ht⟩
  · subst e2
    exact absurd (List.eq_nil_of_length_eq_zero (by simpa using h.1)) hx
  · cases e1
    refine ⟨g, rfl, fun j u hj => ⟨?_, Blk.frozen hg j⟩⟩
    rw [Blk.cell hg j, ← Array.getElem?_toList]
    rw [← ht] at hj
    have hlt := (List.getElem?_eq_some_iff.1 hj).1
    rw [List.length_take] at hlt
    rwa [List.getElem?_take_of_lt (by omega)] at hj
set_option maxRecDepth 100000 in
set_option maxHeartbeats 2000000 in
theorem RTake_calls {w : World} {A B : Option Addr} {cap cb : Nat} {nx : Int} {l : List RH} {ss : List Int} (hA : Reads w A (flatR l)) (hB : Reads w B (ss.map intV)) (hn : l.length ≤ 1024) (hs : ss.length ≤ 1024) :
    Calls Try.prog 68 #[.agg #[.int .i64 nx, .slice A l.length cap], .slice B ss.length cb] w fun e w' => ∃ R q, e = .returned (.agg #[.int .i64 nx, .slice R l.length q]) ∧
      w'.ownsRow w.heap.size 104 6 (.slice R l.length q) l.length (flatR (takeR l ss)) ∧ Kept [] w w' := by
  obtain ⟨i0, hi, hz0, hz1, hz2⟩ := info_parts info104
  generalize hv : (w.alloc (.cells #[.int .i64 nx, .slice A l.length cap] 88)) = w1
  generalize hv2 : (w1.alloc (.cells #[.int .i64 0, .slice none 0 0] 88)) = w2
  generalize hv3 : (w2.alloc (.cells #[] 104)) = w3
  have HSZ : Hid (w1.heap.size = w.heap.size + 1 ∧ w2.heap.size = w.heap.size + 2 ∧ w3.heap.size = w.heap.size + 3) := Lib.hid (by rw [← hv3, ← hv2, ← hv]; simp)
  have hk1 : Kept [] w w1 := by rw [← hv]; exact Kept.alloc _ _ _
  have hk2 : Kept [] w1 w2 := by rw [← hv2]; exact Kept.alloc _ _ _
  have hk3 : Kept [] w2 w3 := by rw [← hv3]; exact Kept.alloc _ _ _
  have hb1 : Blk w1 w.heap.size 88 #[.int .i64 nx, .slice A l.length cap] := by rw [← hv]; exact Blk.new _ _ _
  have hb2 : Blk w2 w1.heap.size 88 #[.int .i64 0, .slice none 0 0] := by rw [← hv2]; exact Blk.new _ _ _
  have hb1' := (hk2.trans' hk3).blk hb1 (by simp)
  have d0 : w3.cell? ⟨w.heap.size, 0, none⟩ = some (.int .i64 nx) := hb1'.cell 0
  have d1 : w3.cell? ⟨w.heap.size, 1, none⟩ = some (.slice A l.length cap) := hb1'.cell 1
  have K3 := Lib.hid ((hk1.trans' hk2).trans' hk3)
  have B1 := Lib.hid hb1'
  have B2 := Lib.hid (hk3.blk hb2 (by simp))
  have HM : Hid (w3.ownsRow w2.heap.size 104 6 (.slice (some ⟨w2.heap.size, 0, none⟩) 0 0) 0 []) := Lib.hid (by rw [← hv3]; exact World.ownsRow_made (size := 6) (e := 104) w2 #[] 0 (Nat.le_refl w2.heap.size) (by unfold maxLen; omega) (by simp))
  have HA := Lib.hid (K3.out.reads hA (by simp))
  have HB := Lib.hid hB
  clear hA hk1 hk2 hk3 hb1 hb2 hb1' hB
  go_enter Try.func68, Try.ntmps68
  go_wp2_with (at_builtin
               refine wpList_append_any rfl _ _ 86 rfl w2.heap.size 104 i0 (.agg #[.int .i64 0, .int .i64 0, .int .i64 0, .int .i64 0, .int .i64 0, .bool false]) 6 48 Try.underlying86 hi hz0 hz1 hz2 rfl (by decide) (.slice (some ⟨w2.heap.size, 0, none⟩) 0 0) 0 [] rfl HM.out A l.length cap (flatR l) rfl (flatR_len l) HA.out (flatR_one l) (by unfold maxLen; omega) (by omega) (by have := HSZ.out; omega) ?_
               intro v' w4 hown' hkp hloc
               simp only [Nat.zero_add, List.nil_append] at hown'
               obtain ⟨R, q, rfl⟩ := own_slice hown'
               have bx := hkp.blk B1.out (by have := HSZ.out; simp [Value.ownBlock]; omega)
               have by' := hkp.blk B2.out (by have := HSZ.out; simp [Value.ownBlock]; omega)
               have g0 : w4.cell? ⟨w.heap.size, 0, none⟩ = some (.int .i64 nx) := bx.cell 0
               have g1 : w4.cell? ⟨w.heap.size, 1, none⟩ = some (.slice A l.length cap) := bx.cell 1
               have g2 := bx.frozen 1
               have X := Lib.hid hown'
               have Y := Lib.hid hkp
               have BX := Lib.hid bx
               have BY := Lib.hid by'
               clear hown' hkp hloc bx by' d0 d1)
  have hm5 : w.heap.size ∈ [w.heap.size] := by simp
  have bx5 : Blk (w4.setCell ⟨w.heap.size, 1, none⟩ (.slice R l.length q)) w.heap.size 88 #[.int .i64 nx, .slice R l.length q] := BX.out.set_ 1 _
  have ks : Kept [w.heap.size] w4 (w4.setCell ⟨w.heap.size, 1, none⟩ (.slice R l.length q)) := Kept.setCell hm5 _ _
  have by5 := ks.blk BY.out (by have := HSZ.out; simp; omega)
  have x5 := ks.own X.out fun k hk => by have := (X.out.lt k hk).1; have := HSZ.out; simp; omega
  have k5 : Kept [] w (w4.setCell ⟨w.heap.size, 1, none⟩ (.slice R l.length q)) := (K3.out.trans Y.out (fun b hb => .inr (by have := HSZ.out; simp [Value.ownBlock] at hb; omega))).trans ks (fun b hb => .inr (by simp at hb; omega))
  generalize w4.setCell ⟨w.heap.size, 1, none⟩ (.slice R l.length q) = w5 at *
  have X5 := Lib.hid x5
  have BX5 := Lib.hid bx5
  have BY5 := Lib.hid by5
  have K5 := Lib.hid k5
  clear bx5 by5 x5 k5 ks hm5 g0 g1 g2 hv hv2 hv3
  go_loopw [5] (fun i wr => ∃ k : Nat, k ≤ l.length ∧ i = .int .i64 k ∧ Blk wr w.heap.size 88 #[.int .i64 nx, .slice R l.length q] ∧ Blk wr w1.heap.size 88 #[.int .i64 0, .slice none 0 0] ∧
      wr.ownsRow w2.heap.size 104 6 (.slice R l.length q) l.length (flatR (takeR (l.take k) ss ++ l.drop k)) ∧ Kept [] w wr) (fun i _ => l.length - (intOf i).toNat)
  case atStart => exact ⟨0, Nat.zero_le _, rfl, BX5.out, BY5.out, by simpa [takeR] using X5.out, K5.out⟩
  case round =>
    obtain ⟨k, hk, rfl, hbx, hby, hO, hK⟩ := hrel
    have d0 : wr.cell? ⟨w.heap.size, 0, none⟩ = some (.int .i64 nx) := hbx.cell 0
    have d1 : wr.cell? ⟨w.heap.size, 1, none⟩ = some (.slice R l.length q) := hbx.cell 1
    have HBX := Lib.hid hbx
    have HBY := Lib.hid hby
    have HO := Lib.hid hO
    have HK := Lib.hid hK
    by_cases hlt : k < l.length
    · obtain ⟨x, hx⟩ : ∃ x, l[k]? = some x := ⟨_, List.getElem?_eq_getElem hlt⟩
      obtain ⟨t1, t2, t3⟩ := take_step (ss := ss) hx
      obtain ⟨g, rfl, hc⟩ := own_some hO (by rw [Ne, flatR_nil]; intro e; rw [e] at t1; simp at t1)
      have c0 : wr.cell? ⟨g, k * 6, none⟩ = some (.int .i64 x.serial) := (hc (k * 6 + 0) _ (flatR_get t1 (by omega) rfl)).1
      have c5 : wr.cell? ⟨g, k * 6 + 5, none⟩ = some (.bool x.gone) := (hc (k * 6 + 5) _ (flatR_get t1 (by omega) rfl)).1
      have z5 : wr.frozen? ⟨g, k * 6 + 5, none⟩ = false := (hc (k * 6 + 5) _ (flatR_get t1 (by omega) rfl)).2
      have hcn := Rhas_calls (cp := cb) (x := x.serial) (hK.reads HB.out (by simp)) hs
      have hgl := (hO.lt g rfl).1
      have hset := own_set hO (k * 6 + 5) (.bool true) (by omega)
      rw [flatR_set t1] at hset
      have T2 := Lib.hid t2
      have T4 : Hid ((takeR (l.take k) ss ++ l.drop k).set k x = takeR (l.take k) ss ++ l.drop k) := Lib.hid (by
        obtain ⟨h1, h2⟩ := List.getElem?_eq_some_iff.1 t1
        rw [← h2, List.set_getElem_self])
      have HS := Lib.hid hset
      clear hbx hby hO hK hx t1 t2 t3 hc hset
      have hgx : goneR ss x = if ss.contains x.serial = true then { x with gone := true } else x := rfl
      obtain ⟨x1, x2, x3, x4, x5, x6⟩ := x
      simp only at c0 c5 hcn hgx
      generalize hbb : ss.contains x1 = bb at hcn hgx
      have HCN := Lib.hid hcn
      have HGX := Lib.hid hgx
      clear hbb hcn hgx
      cases bb with
      | true =>
        go_wp2_with (first
          | (go_at_call 89
             refine HCN.out.mono ?_
             rintro e w' ⟨rfl, hw⟩
             subst w'))
        go_roundw
        case rel =>
          have hm : g ∈ [g] := by simp
          have ks : Kept [g] wr (wr.setCell ⟨g, k * 6 + 5, none⟩ (.bool true)) := Kept.setCell hm _ _
          refine ⟨k + 1, by omega, by go_num, ks.blk HBX.out (by have := HSZ.out; simp; omega), ks.blk HBY.out (by have := HSZ.out; simp; omega), ?_, HK.out.trans ks (fun b hb => .inr (by have := HSZ.out; simp at hb; omega))⟩
          rw [← T2.out, HGX.out]
          exact HS.out
        case measure => simp [intOf]; omega
      | false =>
        go_wp2_with (first
          | (go_at_call 89
             refine HCN.out.mono ?_
             rintro e w' ⟨rfl, hw⟩
             subst w'))
        go_roundw
        case rel =>
          refine ⟨k + 1, by omega, by go_num, HBX.out, HBY.out, ?_, HK.out⟩
          rw [← T2.out, HGX.out, if_neg (by simp), T4.out]
          exact HO.out
        case measure => simp [intOf]; omega
    · obtain rfl : k = l.length := by omega
      have f0 := hby.cell 0
      have f1 := hby.cell 1
      have z := hby.frozen
      have hfin : takeR (l.take l.length) ss ++ l.drop l.length = takeR l ss := by simp
      rw [hfin] at hO
      have HO := Lib.hid hO
      clear hbx hby hO hK hfin
      go_wp2
      obtain ⟨q1, q2⟩ := set2 HBY.out (.int .i64 nx) (.slice R l.length q)
      refine bodyPost_ret (results_c88 rfl rfl q1 rfl rfl) rfl ?_
      exact ⟨R, q, rfl, own_base (q2.own HO.out fun k hk => by have := (HO.out.lt k hk).1; have := HSZ.out; simp; omega) (by have := HSZ.out; omega), (HK.out.trans q2 (fun b hb => .inr (by have := HSZ.out; simp at hb; omega)))⟩
end Go.Proofs.Ytmndckeohfcgkaa
