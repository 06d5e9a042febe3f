/- The walk of CapsSmall. -/
import Derived.Test.YtmndckeohfcgkaaFull
import Derived.Test.YtmndckeohfcgkaaActs
import Derived.StillTailTactics
import Derived.Deep.CutRange
import Derived.Deep.CutBlock
namespace Go.Proofs.Ytmndckeohfcgkaa
open Go.RowKit
def some11 : List AC := [⟨0, 0, 1, 0, 15⟩, ⟨0, 0, 2, 1, 5⟩, ⟨2, 1, 0, 1, 7⟩, ⟨2, 2, 0, 2, 5⟩, ⟨2, 3, 0, 1, 4⟩, ⟨2, 2, 0, 0, 3⟩, ⟨5, 1, 0, 0, 0⟩, ⟨5, 2, 0, 0, 0⟩, ⟨5, 3, 0, 0, 0⟩, ⟨7, 0, 1, 0, 0⟩, ⟨7, 0, 2, 0, 0⟩]
def numbers : List Int := [-9223372036854775808, -1, 0, 1, 2, 16, 17, 4294967295, 4294967296, 281474976710655, 281474976710656, 281474976710657, 9223372036854775807]
theorem some11_ok : ∀ x ∈ some11, x.ok := by unfold some11 AC.ok; decide
def acL (n m : Int) : List AC := [⟨0, 0, n, 0, 15⟩, ⟨0, 0, 0, n, 15⟩, ⟨0, 0, 0, 0, 15⟩, ⟨2, n, 0, 0, 4⟩, ⟨2, m, 0, 0, 4⟩, ⟨2, 1, 0, n, 4⟩, ⟨2, n, 0, n, 16⟩, ⟨5, n, 0, 0, 0⟩, ⟨7, 0, n, 0, 0⟩, ⟨0, 0, n, 0, 16⟩]
theorem acL_ok (n m : Int) : ∀ x ∈ acL n m, x.ok := by
  intro x hx
  simp only [acL, List.mem_cons, List.not_mem_nil, or_false] at hx
  rcases hx with rfl | rfl | rfl | rfl | rfl | rfl | rfl | rfl | rfl | rfl <;> (unfold AC.ok; simp)
theorem acL2_ok (n m : Int) : ∀ x ∈ acL n m ++ acL n m, x.ok := by
  intro x hx
  rcases List.mem_append.1 hx with h | h <;> exact acL_ok n m x h
theorem flatA_two (l k : List AC) : flatA (l ++ k) = flatA l ++ flatA k := by simp [flatA]
theorem flatA_one (l : List AC) : ∀ u ∈ flatA l, u.oneCell' = true := by
  intro u hu
  simp only [flatA, List.mem_flatMap, acV, List.mem_cons, List.not_mem_nil, or_false] at hu
  obtain ⟨x, _, rfl | rfl | rfl | rfl | rfl⟩ := hu <;> rfl
theorem info65 : (Try.prog.info? 65).map (fun i => (i.zero, i.size, i.bytes)) = some (some (.agg #[.int .u8 0, .int .i64 0, .int .i64 0, .int .i64 0, .int .u8 0]), 5, 40) := by kernel_rfl
theorem St.litRow {w0 w : World} {rs : List Res} (h : St w0 w rs) (e : TypeId) (size n : Nat) (hs : 0 < size) (hn : n ≤ maxLen) (cs : List Value) (hl : cs.length = n * size) : St w0 (w.alloc (.cells cs.toArray e)) (.row (.slice (some ⟨w.heap.size, 0, none⟩) n n) e size n cs :: rs) :=
  h.new (R := .row _ _ _ _ _) (Kept.alloc _ _ _) (row_on (base := 0) ⟨hl, .inr ⟨w.heap.size, n, cs.toArray, rfl, Nat.zero_le _, Blk.new _ _ _, Nat.le_refl _, hn, by simpa using hl, by rw [List.take_of_length_le (by simpa using Nat.le_of_eq hl)]⟩⟩) (by simp [Value.ownBlock])
theorem wpList_append_wanted {P : Program} {w : World} {ops : Array Oper} {rest : List Oper} {o : Oper} {a : Act} {Q : Exit → Act → World → Prop} (hw : Region.wanted o (yielded ops a.tmps) = true) (s x : Operand) (t : TypeId)
    (ho : o.op = .call { callee := .builtin .append, args := #[s, x], argTypes := #[t, t] })
    (base : Nat) (e : TypeId) (i : TypeInfo) (z : Value) (size bytes : Nat) (ht : P.underlying t = some (.slice e)) (hi : P.info? e = some i) (hz : i.zero = some z)
    (hsize : i.size = size) (hby : i.bytes = bytes) (hzs : z.cells.size = size) (hsz : 0 < size)
    (v : Value) (n : Nat) (xs : List Value) (hs : a.eval s = v) (hown : w.ownsRow base e size v n xs)
    (ad : Addr) (m c : Nat) (news : List Value) (hx : a.eval x = .slice (some ad) m c) (hl : news.length = m * size) (hnews : ∀ j u, news[j]? = some u → w.cell? (ad.add j) = some u) (h1 : ∀ u ∈ news, u.oneCell' = true)
    (h63 : n + m ≤ maxLen) (hbytes : (n + m) * bytes ≤ 140737488355328) (hbase : base ≤ w.heap.size)
    (h : ∀ v' w', w'.ownsRow base e size v' (n + m) (xs ++ news) → w.grownBy w' v.ownBlock → (v'.ownBlock = v.ownBlock ∨ v'.ownBlock = some w.heap.size) → wpList P ops Q rest (a.put o.dst v') w') :
    wpList P ops Q (o :: rest) a w := by
  refine wpList_step fun K hK => ?_
  obtain ⟨v', w', hr, h2, h3, h4, h5⟩ := run_append_own_at (P := P) w base t o.type e i z size bytes ht hi hz hsize hby hzs hsz v n xs hown ad m c news hl hnews h1 h63 hbytes hbase
  simp only [hw, if_true]
  unfold Oper.wp execOp
  simp only [ho, resolve, invoke, builtin, Sem.run_bind, Sem.run_pure, Result.andThen_ok, List.map_toArray, List.map_cons, List.map_nil, hs, hx, hr]
  exact hK _ _ (h v' w' h2 h3 h5)
theorem add_at (b o j : Nat) : (⟨b, o, none⟩ : Addr).add j = ⟨b, o + j, none⟩ := by unfold Addr.add; split <;> simp_all
theorem row_cells {w : World} {base n cap size g : Nat} {e : TypeId} {xs : List Value} (h : w.ownsRow base e size (.slice (some ⟨g, 0, none⟩) n cap) n xs) : ∀ j u, xs[j]? = some u → w.cell? ((⟨g, 0, none⟩ : Addr).add j) = some u := by
  intro j u hj
  rcases own_reads h with h0 | ⟨b, off, e1, hc⟩
  · rw [h0] at hj; simp at hj
  · cases e1
    rw [add_at]
    exact hc j u hj
theorem some_cell {wr : World} {g i : Nat} {x : AC} (h : Blk wr g 65 (flatA some11).toArray) (hx : some11[i]? = some x) :
    wr.cell? ⟨g, i * 5, none⟩ = some (.int .u8 (x.kind : Int)) ∧ wr.cell? ⟨g, i * 5 + 1, none⟩ = some (.int .i64 x.serial) ∧ wr.cell? ⟨g, i * 5 + 2, none⟩ = some (.int .i64 x.port) ∧ wr.cell? ⟨g, i * 5 + 3, none⟩ = some (.int .i64 x.holder) ∧ wr.cell? ⟨g, i * 5 + 4, none⟩ = some (.int .u8 (x.rights : Int)) := by
  have key : ∀ j u, j < 5 → (acV x)[j]? = some u → wr.cell? ⟨g, i * 5 + j, none⟩ = some u := fun j u hj hu => by
    rw [h.cell, List.getElem?_toArray]
    exact flatA_get hx hj hu
  exact ⟨key 0 _ (by omega) rfl, key 1 _ (by omega) rfl, key 2 _ (by omega) rfl, key 3 _ (by omega) rfl, key 4 _ (by omega) rfl⟩
set_option maxRecDepth 100000 in
set_option maxHeartbeats 8000000 in
theorem capsSmall_calls (w : World) : Calls Try.prog 9 #[] w fun e w' => e = .returned (.bool true) ∧ Kept [] w w' := by
  have hx : Hid (St w (w.alloc (.cells #[.int .u8 0, .int .i64 0, .int .i64 1, .int .i64 0, .int .u8 15, .int .u8 0, .int .i64 0, .int .i64 2, .int .i64 1, .int .u8 5, .int .u8 2, .int .i64 1, .int .i64 0, .int .i64 1, .int .u8 7, .int .u8 2, .int .i64 2, .int .i64 0, .int .i64 2, .int .u8 5, .int .u8 2, .int .i64 3, .int .i64 0, .int .i64 1, .int .u8 4, .int .u8 2, .int .i64 2, .int .i64 0, .int .i64 0, .int .u8 3, .int .u8 5, .int .i64 1, .int .i64 0, .int .i64 0, .int .u8 0, .int .u8 5, .int .i64 2, .int .i64 0, .int .i64 0, .int .u8 0, .int .u8 5, .int .i64 3, .int .i64 0, .int .i64 0, .int .u8 0, .int .u8 7, .int .i64 0, .int .i64 1, .int .i64 0, .int .u8 0, .int .u8 7, .int .i64 0, .int .i64 2, .int .i64 0, .int .u8 0] 65)) [.blk w.heap.size 65 #[.int .u8 0, .int .i64 0, .int .i64 1, .int .i64 0, .int .u8 15, .int .u8 0, .int .i64 0, .int .i64 2, .int .i64 1, .int .u8 5, .int .u8 2, .int .i64 1, .int .i64 0, .int .i64 1, .int .u8 7, .int .u8 2, .int .i64 2, .int .i64 0, .int .i64 2, .int .u8 5, .int .u8 2, .int .i64 3, .int .i64 0, .int .i64 1, .int .u8 4, .int .u8 2, .int .i64 2, .int .i64 0, .int .i64 0, .int .u8 3, .int .u8 5, .int .i64 1, .int .i64 0, .int .i64 0, .int .u8 0, .int .u8 5, .int .i64 2, .int .i64 0, .int .i64 0, .int .u8 0, .int .u8 5, .int .i64 3, .int .i64 0, .int .i64 0, .int .u8 0, .int .u8 7, .int .i64 0, .int .i64 1, .int .i64 0, .int .u8 0, .int .u8 7, .int .i64 0, .int .i64 2, .int .i64 0, .int .u8 0]]) := Lib.hid ((St.nil w).alloc 65 #[.int .u8 0, .int .i64 0, .int .i64 1, .int .i64 0, .int .u8 15, .int .u8 0, .int .i64 0, .int .i64 2, .int .i64 1, .int .u8 5, .int .u8 2, .int .i64 1, .int .i64 0, .int .i64 1, .int .u8 7, .int .u8 2, .int .i64 2, .int .i64 0, .int .i64 2, .int .u8 5, .int .u8 2, .int .i64 3, .int .i64 0, .int .i64 1, .int .u8 4, .int .u8 2, .int .i64 2, .int .i64 0, .int .i64 0, .int .u8 3, .int .u8 5, .int .i64 1, .int .i64 0, .int .i64 0, .int .u8 0, .int .u8 5, .int .i64 2, .int .i64 0, .int .i64 0, .int .u8 0, .int .u8 5, .int .i64 3, .int .i64 0, .int .i64 0, .int .u8 0, .int .u8 7, .int .i64 0, .int .i64 1, .int .i64 0, .int .u8 0, .int .u8 7, .int .i64 0, .int .i64 2, .int .i64 0, .int .u8 0])
  go_enter Try.func9, Try.ntmps9
  go_upto_region 2 with fail
  generalize w.alloc (.cells #[.int .u8 0, .int .i64 0, .int .i64 1, .int .i64 0, .int .u8 15, .int .u8 0, .int .i64 0, .int .i64 2, .int .i64 1, .int .u8 5, .int .u8 2, .int .i64 1, .int .i64 0, .int .i64 1, .int .u8 7, .int .u8 2, .int .i64 2, .int .i64 0, .int .i64 2, .int .u8 5, .int .u8 2, .int .i64 3, .int .i64 0, .int .i64 1, .int .u8 4, .int .u8 2, .int .i64 2, .int .i64 0, .int .i64 0, .int .u8 3, .int .u8 5, .int .i64 1, .int .i64 0, .int .i64 0, .int .u8 0, .int .u8 5, .int .i64 2, .int .i64 0, .int .i64 0, .int .u8 0, .int .u8 5, .int .i64 3, .int .i64 0, .int .i64 0, .int .u8 0, .int .u8 7, .int .i64 0, .int .i64 1, .int .i64 0, .int .u8 0, .int .u8 7, .int .i64 0, .int .i64 2, .int .i64 0, .int .u8 0] 65) = w1 at *
  have S1 : Hid (St w w1 [.blk w.heap.size 65 (flatA some11).toArray]) := hx
  clear hx
  generalize w.heap.size = g at *
  go_upto_block 0 with fail
  go_cut [] from 52 to 83 (fun wx => St w wx [])
  case first =>
    go_wp2_with fail
    go_loopw [52] (fun i wr => ∃ (k : Nat), k ≤ 14641 ∧ i = .int .i64 k ∧ St w wr [.blk g 65 (flatA some11).toArray]) (fun i _ => 14641 - (intOf i).toNat)
    case atStart => exact ⟨0, by omega, rfl, S1.out⟩
    case round =>
      obtain ⟨k, hk, rfl, hS⟩ := hrel
      by_cases hlt : k < 14641
      · have hlt' : (k : Int) < 14641 := by omega
        obtain ⟨i1, e1, b1⟩ : ∃ i1 : Nat, (k : Int).tmod 11 = (i1 : Int) ∧ i1 < 11 := ⟨k % 11, by rw [Int.tmod_eq_emod_of_nonneg (by omega)]; omega, by omega⟩
        obtain ⟨d2, q2, r2⟩ : ∃ d2 : Nat, (k : Int).tdiv 11 = (d2 : Int) ∧ IntKind.i64.wrap (d2 : Int) = (d2 : Int) := ⟨k / 11, by rw [Int.tdiv_eq_ediv_of_nonneg (by omega)]; omega, IntWalk.i64_in _ (by omega)⟩
        obtain ⟨i2, e2, b2⟩ : ∃ i2 : Nat, (d2 : Int).tmod 11 = (i2 : Int) ∧ i2 < 11 := ⟨d2 % 11, by rw [Int.tmod_eq_emod_of_nonneg (by omega)]; omega, by omega⟩
        obtain ⟨d3, q3, r3⟩ : ∃ d3 : Nat, (k : Int).tdiv 121 = (d3 : Int) ∧ IntKind.i64.wrap (d3 : Int) = (d3 : Int) := ⟨k / 121, by rw [Int.tdiv_eq_ediv_of_nonneg (by omega)]; omega, IntWalk.i64_in _ (by omega)⟩
        obtain ⟨i3, e3, b3⟩ : ∃ i3 : Nat, (d3 : Int).tmod 11 = (i3 : Int) ∧ i3 < 11 := ⟨d3 % 11, by rw [Int.tmod_eq_emod_of_nonneg (by omega)]; omega, by omega⟩
        obtain ⟨i4, e4, b4, r4⟩ : ∃ i4 : Nat, (k : Int).tdiv 1331 = (i4 : Int) ∧ i4 < 11 ∧ IntKind.i64.wrap (i4 : Int) = (i4 : Int) := ⟨k / 1331, by rw [Int.tdiv_eq_ediv_of_nonneg (by omega)]; omega, by omega, IntWalk.i64_in _ (by omega)⟩
        obtain ⟨x1, hx1⟩ : ∃ x, some11[i1]? = some x := ⟨_, List.getElem?_eq_getElem (by simp only [some11, List.length_cons, List.length_nil]; omega)⟩
        obtain ⟨c10, c11, c12, c13, c14⟩ := some_cell hS.blk0 hx1
        obtain ⟨x2, hx2⟩ : ∃ x, some11[i2]? = some x := ⟨_, List.getElem?_eq_getElem (by simp only [some11, List.length_cons, List.length_nil]; omega)⟩
        obtain ⟨c20, c21, c22, c23, c24⟩ := some_cell hS.blk0 hx2
        obtain ⟨x3, hx3⟩ : ∃ x, some11[i3]? = some x := ⟨_, List.getElem?_eq_getElem (by simp only [some11, List.length_cons, List.length_nil]; omega)⟩
        obtain ⟨c30, c31, c32, c33, c34⟩ := some_cell hS.blk0 hx3
        obtain ⟨x4, hx4⟩ : ∃ x, some11[i4]? = some x := ⟨_, List.getElem?_eq_getElem (by simp only [some11, List.length_cons, List.length_nil]; omega)⟩
        obtain ⟨c40, c41, c42, c43, c44⟩ := some_cell hS.blk0 hx4
        obtain ⟨c00, c01, c02, c03, c04⟩ := some_cell (i := 0) hS.blk0 rfl
        have O1 := Lib.hid (some11_ok _ (List.mem_of_getElem? hx1))
        have O2 := Lib.hid (some11_ok _ (List.mem_of_getElem? hx2))
        have O3 := Lib.hid (some11_ok _ (List.mem_of_getElem? hx3))
        have O4 := Lib.hid (some11_ok _ (List.mem_of_getElem? hx4))
        have T1 := Lib.hid hS
        clear hS hx1 hx2 hx3 hx4
        have b1' : (i1 : Int) < 11 := by omega
        have b2' : (i2 : Int) < 11 := by omega
        have b3' : (i3 : Int) < 11 := by omega
        have b4' : (i4 : Int) < 11 := by omega
        simp only [Nat.zero_mul, Nat.zero_add] at c00 c01 c02 c03 c04
        go_upto_region 5 with fail
        refine wp_region_still_tail 25 (by kernel_rfl) (by kernel_rfl) ?_
        simp only [List.take_succ_cons, List.take_zero, List.drop_succ_cons, List.drop_zero]
        repeat still_step
        refine wpStill_nil ?_
        change wpList _ _ _ _ _ wr.drew
        have T2 := Lib.hid ((T1.out.kept (Kept.drew [] _)).alloc 65 (flatA [⟨0, 0, 1, 0, 15⟩, x1, x2, x3, x4]).toArray)
        clear T1 c00 c01 c02 c03 c04 c10 c11 c12 c13 c14 c20 c21 c22 c23 c24 c30 c31 c32 c33 c34 c40 c41 c42 c43 c44
        generalize wr.drew = w2 at *
        have HACT := Lib.hid (acts_calls (cp := 5) (l := [⟨0, 0, 1, 0, 15⟩, x1, x2, x3, x4]) 1 (reads_blk T2.out.blk0) (by
          intro y hy
          simp only [List.mem_cons, List.not_mem_nil, or_false] at hy
          rcases hy with rfl | rfl | rfl | rfl | rfl
          · exact ⟨by decide, by decide⟩
          · exact O1.out
          · exact O2.out
          · exact O3.out
          · exact O4.out) (by unfold maxLen; simp))
        go_wp2_with fail
        refine HACT.out.mono ?_
        rintro e w3 ⟨rfl, hk⟩
        have T3 := Lib.hid ((T2.out.kept hk).drop)
        clear hk
        go_wp2
        go_roundw
        case rel => exact ⟨k + 1, by omega, by go_num, T3.out⟩
        case measure => simp [intOf]; omega
      · obtain rfl : k = 14641 := by omega
        have T1 := Lib.hid hS
        clear hS
        go_wp2_with fail
        go_meet
        exact T1.out.drop
  case rest =>
  clear S1
  rename World => wx
  have hx : Hid (St w (wx.alloc (.cells #[.int .i64 (-9223372036854775808), .int .i64 (-1), .int .i64 0, .int .i64 1, .int .i64 2, .int .i64 16, .int .i64 17, .int .i64 4294967295, .int .i64 4294967296, .int .i64 281474976710655, .int .i64 281474976710656, .int .i64 281474976710657, .int .i64 9223372036854775807] 3)) [.blk wx.heap.size 3 #[.int .i64 (-9223372036854775808), .int .i64 (-1), .int .i64 0, .int .i64 1, .int .i64 2, .int .i64 16, .int .i64 17, .int .i64 4294967295, .int .i64 4294967296, .int .i64 281474976710655, .int .i64 281474976710656, .int .i64 281474976710657, .int .i64 9223372036854775807]]) := Lib.hid (hcut.alloc 3 #[.int .i64 (-9223372036854775808), .int .i64 (-1), .int .i64 0, .int .i64 1, .int .i64 2, .int .i64 16, .int .i64 17, .int .i64 4294967295, .int .i64 4294967296, .int .i64 281474976710655, .int .i64 281474976710656, .int .i64 281474976710657, .int .i64 9223372036854775807])
  clear hcut
  go_upto_region 9 with fail
  generalize wx.alloc _ = w1 at *
  have S1 : Hid (St w w1 [.blk wx.heap.size 3 (numbers.map intV).toArray]) := hx
  clear hx
  generalize wx.heap.size = g at *
  go_upto_block 2 with fail
  go_cut [] from 87 to 129 (fun wx => St w wx [])
  case first =>
    go_wp2_with fail
    go_loopw [87] (fun i wr => ∃ (k : Nat), k ≤ 13 ∧ i = .int .i64 k ∧ St w wr [.blk g 3 (numbers.map intV).toArray]) (fun i _ => 13 - (intOf i).toNat)
    case atStart => exact ⟨0, by omega, rfl, S1.out⟩
    case round =>
      obtain ⟨k, hk, rfl, hS⟩ := hrel
      by_cases hlt : k < 13
      · obtain ⟨n, hn⟩ : ∃ n, numbers[k]? = some n := ⟨_, List.getElem?_eq_getElem (by simp only [numbers, List.length_cons, List.length_nil]; omega)⟩
        have c0 : wr.cell? ⟨g, k, none⟩ = some (.int .i64 n) := by
          rw [hS.blk0.cell, List.getElem?_toArray, List.getElem?_map, hn]; rfl
        have T1 := Lib.hid hS
        clear hS hn
        go_upto_region 13 with fail
        generalize wrap64 (n + 1) = m at *
        have hx := T1.out.litRow 65 5 10 (by decide) (by decide) (flatA (acL n m)) (by rw [flatA_len]; rfl)
        have T2 : Hid (St w (wr.alloc (.cells #[.int .u8 0, .int .i64 0, .int .i64 n, .int .i64 0, .int .u8 15, .int .u8 0, .int .i64 0, .int .i64 0, .int .i64 n, .int .u8 15, .int .u8 0, .int .i64 0, .int .i64 0, .int .i64 0, .int .u8 15, .int .u8 2, .int .i64 n, .int .i64 0, .int .i64 0, .int .u8 4, .int .u8 2, .int .i64 m, .int .i64 0, .int .i64 0, .int .u8 4, .int .u8 2, .int .i64 1, .int .i64 0, .int .i64 n, .int .u8 4, .int .u8 2, .int .i64 n, .int .i64 0, .int .i64 n, .int .u8 16, .int .u8 5, .int .i64 n, .int .i64 0, .int .i64 0, .int .u8 0, .int .u8 7, .int .i64 0, .int .i64 n, .int .i64 0, .int .u8 0, .int .u8 0, .int .i64 0, .int .i64 n, .int .i64 0, .int .u8 16] 65)) [.row (.slice (some ⟨wr.heap.size, 0, none⟩) 10 10) 65 5 10 (flatA (acL n m)), .blk g 3 (numbers.map intV).toArray]) := hx
        clear hx T1 c0
        generalize wr.alloc (.cells #[.int .u8 0, .int .i64 0, .int .i64 n, .int .i64 0, .int .u8 15, .int .u8 0, .int .i64 0, .int .i64 0, .int .i64 n, .int .u8 15, .int .u8 0, .int .i64 0, .int .i64 0, .int .i64 0, .int .u8 15, .int .u8 2, .int .i64 n, .int .i64 0, .int .i64 0, .int .u8 4, .int .u8 2, .int .i64 m, .int .i64 0, .int .i64 0, .int .u8 4, .int .u8 2, .int .i64 1, .int .i64 0, .int .i64 n, .int .u8 4, .int .u8 2, .int .i64 n, .int .i64 0, .int .i64 n, .int .u8 16, .int .u8 5, .int .i64 n, .int .i64 0, .int .i64 0, .int .u8 0, .int .u8 7, .int .i64 0, .int .i64 n, .int .i64 0, .int .u8 0, .int .u8 0, .int .i64 0, .int .i64 n, .int .i64 0, .int .u8 16] 65) = w2 at *
        generalize wr.heap.size = gL at *
        have HACT : Hid (∀ W (z : Int), Kept [] w2 W → Calls Try.prog 36 #[.int .i64 z, .slice (some ⟨gL, 0, none⟩) 10 10] W fun e w' => e = .returned (.bool true) ∧ Kept [] W w') := Lib.hid fun W z hW => acts_calls (cp := 10) (l := acL n m) z (hW.reads (own_reads T2.out.row) (by simp)) (acL_ok n m) (by unfold maxLen; simp [acL])
        obtain ⟨i0, hi, hz0, hz1, hz2⟩ := info_parts info65
        go_wp2_with fail
        refine (HACT.out _ 1 (Kept.refl _ _)).mono ?_
        rintro e w3 ⟨rfl, hk⟩
        have K3 := Lib.hid hk
        clear hk
        go_wp2_with fail
        refine (HACT.out _ n K3.out).mono ?_
        rintro e w4 ⟨rfl, hk⟩
        have T4 := Lib.hid ((T2.out.kept K3.out).kept hk)
        clear hk HACT T2
        go_wp2_with (at_builtin
                     refine wpList_append_wanted (by rfl) _ _ 62 rfl 0 65 i0 (.agg #[.int .u8 0, .int .i64 0, .int .i64 0, .int .i64 0, .int .u8 0]) 5 40 Try.underlying62 hi hz0 hz1 hz2 rfl (by decide) (.slice (some ⟨gL, 0, none⟩) 10 10) 10 (flatA (acL n m)) rfl T4.out.row ⟨gL, 0, none⟩ 10 10 (flatA (acL n m)) rfl (by rw [flatA_len]; rfl) (row_cells T4.out.row) (flatA_one _) (by decide) (by decide) (Nat.zero_le _) ?_
                     intro v' w5 hown hkept hloc
                     have hs := T4.out.append hkept hown hloc
                     obtain ⟨R5, q5, rfl⟩ := own_slice hown
                     have S5 := Lib.hid hs
                     clear hown hkept hloc hs)
        have HACT2 := Lib.hid (acts_calls (cp := q5) (l := acL n m ++ acL n m) 281474976710655 (by have := own_reads S5.out.row; rwa [← flatA_two] at this) (acL2_ok n m) (by unfold maxLen; simp [acL]))
        go_wp2_with fail
        refine HACT2.out.mono ?_
        rintro e w6 ⟨rfl, hk⟩
        have T6 := Lib.hid ((S5.out.kept hk).drop)
        clear hk
        go_wp2
        go_roundw
        case rel => exact ⟨k + 1, by omega, by go_num, T6.out⟩
        case measure => simp [intOf]; omega
      · obtain rfl : k = 13 := by omega
        have T1 := Lib.hid hS
        clear hS
        go_wp2_with fail
        go_meet
        exact T1.out.drop
  case rest =>
  clear S1
  rename World => wx
  have SX := Lib.hid hcut
  clear hcut
  have HNW := Lib.hid (SX.out.fresh (n := 1) (by omega) (by omega))
  go_wp2_with fail
  refine HNW.out.mono ?_
  rintro e wn ⟨b, rfl, hs⟩
  have SN := Lib.hid hs
  clear hs SX HNW
  go_upto_block 4 with fail
  go_cut [] from 140 to 159 (fun wx => ∃ c, Q1 256 c ∧ St w wx [.tab b c])
  case first =>
    go_wp2_with fail
    go_loopw [140] (fun i wr => ∃ (k : Nat) (c : CT), k ≤ 256 ∧ i = .int .i64 k ∧ Q1 k c ∧ St w wr [.tab b c]) (fun i _ => 256 - (intOf i).toNat)
    case atStart => exact ⟨0, _, by omega, rfl, Q1.zero, SN.out⟩
    case round =>
      obtain ⟨k, c, hk, rfl, hq, hS⟩ := hrel
      by_cases hlt : k < 256
      · have hlt' : (k : Int) < 256 := by omega
        obtain ⟨o, ho⟩ : ∃ o : Int, (k : Int) % 17 = o := ⟨_, rfl⟩
        obtain ⟨q1, q2⟩ := hq.step hlt (o := o) (by rw [← ho]; omega)
        have hr := hS.root k o 15
        rw [q1] at hr
        have HR := Lib.hid hr
        have HQ := Lib.hid q2
        have qn : ((k : Int) + 1 != (k : Int) + 1) = false := by simp
        clear hr q1 q2 hq hS
        go_wp2_with fail
        refine HR.out.mono ?_
        rintro e w3 ⟨rfl, hs⟩
        have T3 := Lib.hid hs
        clear hs HR
        go_wp2
        go_roundw
        case rel => exact ⟨k + 1, _, by omega, by go_num, HQ.out, T3.out⟩
        case measure => simp [intOf]; omega
      · obtain rfl : k = 256 := by omega
        have T1 := Lib.hid hS
        have HQ := Lib.hid hq
        clear hS hq
        go_wp2_with fail
        go_meet
        exact ⟨_, HQ.out, T1.out⟩
  case rest =>
  obtain ⟨c, hq, hs⟩ := hcut
  rename World => wy
  obtain ⟨r1, r2, r3, r4, r5, r6⟩ := hq.many
  have h1 := hs.root 0 0 15
  rw [r1, r2] at h1
  have H1 := Lib.hid h1
  have R3 := Lib.hid r3
  have R4 := Lib.hid r4
  have R5 := Lib.hid r5
  have R6 := Lib.hid r6
  clear hq h1 r1 r2 r3 r4 r5 r6 hs SN
  go_wp2_with fail
  refine H1.out.mono ?_
  rintro e w1 ⟨rfl, hs⟩
  have h2 := hs.derive 1 0 1
  rw [R3.out, R4.out] at h2
  have H2 := Lib.hid h2
  clear hs h2 H1
  go_wp2_with fail
  refine H2.out.mono ?_
  rintro e w2 ⟨rfl, hs⟩
  have h3 := hs.revoke 5
  rw [R5.out] at h3
  have H3 := Lib.hid h3
  clear hs h3 H2
  go_wp2_with fail
  refine H3.out.mono ?_
  rintro e w3 ⟨A5, p5, rfl, hs⟩
  have h4 := hs.derive 1 0 1
  rw [R6.out] at h4
  have H4 := Lib.hid h4
  clear hs h4 H3
  go_wp2_with fail
  refine H4.out.mono ?_
  rintro e w4 ⟨rfl, hs⟩
  have S4 := Lib.hid (hs.alloc 3 #[.int .i64 5])
  have H5 := Lib.hid (same34 (c := p5) (d := 1) (xs := [5]) (own_reads S4.out.drop.drop.row) (reads_blk (cs := [.int .i64 5]) S4.out.blk0) (by decide))
  clear hs H4
  go_wp2_with fail
  refine H5.out.mono ?_
  rintro e w5 ⟨rfl, hk⟩
  have S5 := Lib.hid ((S4.out.kept hk).drop.drop.drop)
  clear hk H5 S4 R3 R4 R5 R6
  have HNW := Lib.hid (S5.out.fresh (n := 100) (by omega) (by omega))
  go_wp2_with fail
  refine HNW.out.mono ?_
  rintro e wn ⟨d, rfl, hs⟩
  have SN := Lib.hid hs
  clear hs S5 HNW
  go_upto_block 6 with fail
  go_cut [] from 212 to 233 (fun wx => ∃ c, Q2 256 c ∧ St w wx [.tab d c])
  case first =>
    go_wp2_with fail
    go_loopw [212] (fun i wr => ∃ (k : Nat) (c : CT), k ≤ 256 ∧ i = .int .i64 k ∧ Q2 k c ∧ St w wr [.tab d c]) (fun i _ => 256 - (intOf i).toNat)
    case atStart => exact ⟨0, _, by omega, rfl, Q2.zero, SN.out⟩
    case round =>
      obtain ⟨k, c, hk, rfl, hq, hS⟩ := hrel
      by_cases hlt : k < 256
      · have hlt' : (k : Int) < 256 := by omega
        obtain ⟨q1, q2, q3⟩ := hq.step hlt
        have hr := hS.root 1 3 15
        rw [q1] at hr
        have HR := Lib.hid hr
        have HQ2 := Lib.hid q2
        have HQ := Lib.hid q3
        have qn : (100 + (k : Int) != 100 + (k : Int)) = false := by simp
        clear hr q1 q2 q3 hq hS
        go_wp2_with fail
        refine HR.out.mono ?_
        rintro e w3 ⟨rfl, hs⟩
        have hc := hs.close 1
        rw [HQ2.out] at hc
        have HC := Lib.hid hc
        clear hs HR hc
        go_wp2_with fail
        refine HC.out.mono ?_
        rintro e w4 ⟨A4, p4, rfl, hs⟩
        have T4 := Lib.hid hs.swap.drop
        clear hs HC
        go_wp2
        go_roundw
        case rel => exact ⟨k + 1, _, by omega, by go_num, HQ.out, T4.out⟩
        case measure => simp [intOf]; omega
      · obtain rfl : k = 256 := by omega
        have T1 := Lib.hid hS
        have HQ := Lib.hid hq
        clear hS hq
        go_wp2_with fail
        go_meet
        exact ⟨_, HQ.out, T1.out⟩
  case rest =>
  obtain ⟨c2, hq, hs⟩ := hcut
  rename World => wq
  obtain ⟨r1, r2, r3, r4, r5, r6⟩ := hq.full
  have h1 := hs.root 1 3 15
  rw [r1, r2] at h1
  have H1 := Lib.hid h1
  have R3 := Lib.hid r3
  have R4 := Lib.hid r4
  have R5 := Lib.hid r5
  have R6 := Lib.hid r6
  clear hq h1 r1 r2 r3 r4 r5 r6 hs SN
  go_wp2_with fail
  refine H1.out.mono ?_
  rintro e u1 ⟨rfl, hs⟩
  have h2 := hs.root 1 4 15
  rw [R3.out] at h2
  have H2 := Lib.hid h2
  clear hs h2 H1
  go_wp2_with fail
  refine H2.out.mono ?_
  rintro e u2 ⟨rfl, hs⟩
  have h3 := hs.derive 356 3 15
  rw [R4.out, R5.out] at h3
  have H3 := Lib.hid h3
  clear hs h3 H2
  go_wp2_with fail
  refine H3.out.mono ?_
  rintro e u3 ⟨rfl, hs⟩
  have h4 := hs.places 3
  rw [R6.out] at h4
  have H4 := Lib.hid h4
  clear hs h4 H3
  go_wp2_with fail
  refine H4.out.mono ?_
  rintro e u4' ⟨A4, p4, rfl, hs, _⟩
  have S4 := Lib.hid hs.drop.drop
  clear hs H4 R3 R4 R5 R6
  have hz := (S4.out.alloc 69 #[.bool false, .int .i64 0, .map none, .slice none 0 0, .slice none 0 0, .slice none 0 0, .slice none 0 0, .slice none 0 0, .slice none 0 0, .slice none 0 0, .slice none 0 0, .slice none 0 0, .slice none 0 0, .slice none 0 0, .slice none 0 0, .slice none 0 0, .slice none 0 0, .slice none 0 0, .slice none 0 0, .slice none 0 0]).alloc 24 #[.pointer none, .pointer (some ⟨u4'.heap.size, 0, none⟩)]
  have SZ : Hid (St w ((u4'.alloc (.cells #[.bool false, .int .i64 0, .map none, .slice none 0 0, .slice none 0 0, .slice none 0 0, .slice none 0 0, .slice none 0 0, .slice none 0 0, .slice none 0 0, .slice none 0 0, .slice none 0 0, .slice none 0 0, .slice none 0 0, .slice none 0 0, .slice none 0 0, .slice none 0 0, .slice none 0 0, .slice none 0 0, .slice none 0 0] 69)).alloc (.cells #[.pointer none, .pointer (some ⟨u4'.heap.size, 0, none⟩)] 24)) [.blk (u4'.heap.size + 1) 24 #[.pointer none, .pointer (some ⟨u4'.heap.size, 0, none⟩)], .blk u4'.heap.size 69 #[.bool false, .int .i64 0, .map none, .slice none 0 0, .slice none 0 0, .slice none 0 0, .slice none 0 0, .slice none 0 0, .slice none 0 0, .slice none 0 0, .slice none 0 0, .slice none 0 0, .slice none 0 0, .slice none 0 0, .slice none 0 0, .slice none 0 0, .slice none 0 0, .slice none 0 0, .slice none 0 0, .slice none 0 0]]) := Lib.hid (by rw [World.size_alloc] at hz; exact hz)
  clear hz S4
  go_upto_region 51 with fail
  generalize (u4'.alloc (.cells #[.bool false, .int .i64 0, .map none, .slice none 0 0, .slice none 0 0, .slice none 0 0, .slice none 0 0, .slice none 0 0, .slice none 0 0, .slice none 0 0, .slice none 0 0, .slice none 0 0, .slice none 0 0, .slice none 0 0, .slice none 0 0, .slice none 0 0, .slice none 0 0, .slice none 0 0, .slice none 0 0, .slice none 0 0] 69)).alloc (.cells #[.pointer none, .pointer (some ⟨u4'.heap.size, 0, none⟩)] 24) = wz at *
  generalize u4'.heap.size = gz at *
  have SZ' : Hid (St w wz [.blk (gz + 1) 24 #[.pointer none, .pointer (some ⟨gz, 0, none⟩)], .blk gz 69 #[.bool false, .int .i64 0, .map none, .slice none 0 0, .slice none 0 0, .slice none 0 0, .slice none 0 0, .slice none 0 0, .slice none 0 0, .slice none 0 0, .slice none 0 0, .slice none 0 0, .slice none 0 0, .slice none 0 0, .slice none 0 0, .slice none 0 0, .slice none 0 0, .slice none 0 0, .slice none 0 0, .slice none 0 0]]) := SZ
  clear SZ
  go_wp2
  go_loopw [274] (fun i wr => ∃ (k : Nat), k ≤ 2 ∧ i = .int .i64 k ∧ Kept [] wz wr) (fun i _ => 2 - (intOf i).toNat)
  case atStart => exact ⟨0, by omega, rfl, Kept.refl _ _⟩
  case round =>
    obtain ⟨k, hk, rfl, hK⟩ := hrel
    by_cases hlt : k < 2
    · have hlt' : (k : Int) < 2 := by omega
      obtain ⟨PA, hpa, hnil⟩ : ∃ PA, (#[Value.pointer none, Value.pointer (some ⟨gz, 0, none⟩)] : Array Value)[k]? = some (.pointer PA) ∧ Nil wz PA := by
        match k, hlt with
        | 0, _ => exact ⟨none, rfl, nil_none _⟩
        | 1, _ => exact ⟨some ⟨gz, 0, none⟩, rfl, nil_zero (SZ'.out.drop.blk0.cell 0)⟩
      have cp : wr.cell? ⟨gz + 1, k, none⟩ = some (.pointer PA) := hK.cell (by rw [SZ'.out.blk0.cell]; exact hpa) (by simp)
      have HN := Lib.hid hnil
      have K0 := Lib.hid hK
      clear hnil hpa hK
      have HX := Lib.hid (nRoot (HN.out.kept K0.out) (-1) 0 0)
      go_wp2_with fail
      refine HX.out.mono ?_
      rintro e v1 ⟨rfl, hk⟩
      have K1 := Lib.hid (K0.out.trans' hk)
      clear HX hk
      have HX := Lib.hid (nDerive (HN.out.kept K1.out) 0 0 0)
      go_wp2_with fail
      refine HX.out.mono ?_
      rintro e v2 ⟨rfl, hk⟩
      have K2 := Lib.hid (K1.out.trans' hk)
      clear HX hk
      have HX := Lib.hid (nRevoke (HN.out.kept K2.out) 0)
      go_wp2_with fail
      refine HX.out.mono ?_
      rintro e v3 ⟨rfl, hk⟩
      have K3 := Lib.hid (K2.out.trans' hk)
      clear HX hk
      have HX := Lib.hid (nGet (HN.out.kept K3.out) 0)
      go_wp2_with fail
      refine HX.out.mono ?_
      rintro e v4 ⟨rfl, hk⟩
      simp only [Hd.val, noHd]
      have K4 := Lib.hid ((K3.out.trans' hk).trans' (Kept.alloc [] v4 (.cells #[.int .i64 0, .int .i64 0, .int .i64 0, .int .i64 0, .int .u8 ((0 : Nat) : Int)] 34)))
      clear HX hk
      have HX := Lib.hid (nPlace (HN.out.kept K4.out) (-1) 0)
      go_wp2_with fail
      refine HX.out.mono ?_
      rintro e v5 ⟨rfl, hk⟩
      simp only [Hd.val, noHd]
      have K5 := Lib.hid ((K4.out.trans' hk).trans' (Kept.alloc [] v5 (.cells #[.int .i64 0, .int .i64 0, .int .i64 0, .int .i64 0, .int .u8 ((0 : Nat) : Int)] 34)))
      clear HX hk
      have HX := Lib.hid (nBelow (HN.out.kept K5.out) 0)
      go_wp2_with fail
      refine HX.out.mono ?_
      rintro e v6 ⟨rfl, hk⟩
      have K6 := Lib.hid (K5.out.trans' hk)
      clear HX hk
      have KE := Lib.hid (K6.out.trans' (Kept.alloc [] v6 (.cells #[.int .i64 1, .int .i64 1, .int .i64 1, .int .i64 1, .int .i64 1, .int .i64 1] 36)))
      have be : Blk (v6.alloc (.cells #[.int .i64 1, .int .i64 1, .int .i64 1, .int .i64 1, .int .i64 1, .int .i64 1] 36)) v6.heap.size 36 #[.int .i64 1, .int .i64 1, .int .i64 1, .int .i64 1, .int .i64 1, .int .i64 1] := Blk.new _ _ _
      go_upto_region 60 with fail
      generalize v6.alloc (.cells #[.int .i64 1, .int .i64 1, .int .i64 1, .int .i64 1, .int .i64 1, .int .i64 1] 36) = we at *
      generalize v6.heap.size = ge at *
      have BE := Lib.hid be
      clear be
      go_wp2
      go_loopw [316] (fun i wr => ∃ j : Nat, j ≤ 6 ∧ i = .int .i64 j ∧ wr = we) (fun i _ => 6 - (intOf i).toNat)
      case atStart => exact ⟨0, by omega, rfl, rfl⟩
      case round =>
        obtain ⟨j, hj, rfl, rfl⟩ := hrel
        by_cases hj6 : j < 6
        · have hj' : (j : Int) < 6 := by omega
          have ce : wr.cell? ⟨ge, j, none⟩ = some (.int .i64 1) := by
            rw [BE.out.cell]
            match j, hj6 with
            | 0, _ => rfl
            | 1, _ => rfl
            | 2, _ => rfl
            | 3, _ => rfl
            | 4, _ => rfl
            | 5, _ => rfl
          go_wp2
          go_roundw
          case rel => exact ⟨j + 1, by omega, by go_num, trivial⟩
          case measure => simp [intOf]; omega
        · obtain rfl : j = 6 := by omega
          have HX := Lib.hid (nClose (HN.out.kept KE.out) 0)
          go_wp2_with fail
          refine HX.out.mono ?_
          rintro e y1 ⟨rfl, hk⟩
          have L1 := Lib.hid (KE.out.trans' hk)
          clear HX hk
          have HX := Lib.hid (nPlaces (HN.out.kept L1.out) 0)
          go_wp2_with fail
          refine HX.out.mono ?_
          rintro e y2 ⟨rfl, hk⟩
          have L2 := Lib.hid (L1.out.trans' hk)
          clear HX hk
          have HX := Lib.hid (nAll (HN.out.kept L2.out))
          go_wp2_with fail
          refine HX.out.mono ?_
          rintro e y3 ⟨rfl, hk⟩
          have L3 := Lib.hid (L2.out.trans' hk)
          clear HX hk
          have HX := Lib.hid (nNext (HN.out.kept L3.out))
          go_wp2_with fail
          refine HX.out.mono ?_
          rintro e y4 ⟨rfl, hk⟩
          have L4 := Lib.hid (L3.out.trans' hk)
          clear HX hk
          have HX := Lib.hid (nLen (HN.out.kept L4.out))
          go_wp2_with fail
          refine HX.out.mono ?_
          rintro e y5 ⟨rfl, hk⟩
          have L5 := Lib.hid (L4.out.trans' hk)
          clear HX hk
          have HX := Lib.hid (nCopy (HN.out.kept L5.out))
          go_wp2_with fail
          refine HX.out.mono ?_
          rintro e y6 ⟨rfl, hk⟩
          have L6 := Lib.hid (L5.out.trans' hk)
          clear HX hk
          go_wp2
          go_roundw
          case rel => exact ⟨k + 1, by omega, by go_num, L6.out⟩
          case measure => simp [intOf]; omega
    · obtain rfl : k = 2 := by omega
      have K9 := Lib.hid (SZ'.out.whole.trans' hK)
      clear hK
      go_wp2_with fail
      refine (awake_calls wr).mono ?_
      rintro e wf ⟨rfl, hk⟩
      have K10 := Lib.hid (K9.out.trans' hk)
      clear hk
      go_wp2
      go_ret
      exact ⟨rfl, K10.out⟩
end Go.Proofs.Ytmndckeohfcgkaa

