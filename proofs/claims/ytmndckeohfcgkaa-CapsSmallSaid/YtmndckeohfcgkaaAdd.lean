/- The walks of Get and add of package caps. -/
import Derived.Test.YtmndckeohfcgkaaTab
import Derived.Deep.QuietTactic
import Derived.BigQuiet
import Derived.Deep.RegionLaw
namespace Go.Proofs.Ytmndckeohfcgkaa
open Go.RowKit
open Go.ChangeMaps (setBlock)

theorem info34 : (Try.prog.info? 34).map (·.size) = some 5 := by kernel_rfl
theorem load34 {w : World} {g : Nat} {e : TypeId} {a b c d f : Value} (hb : Blk w g e #[a, b, c, d, f]) : (loadVar 34 ⟨g, 0, none⟩).run Try.prog w = .ok (.agg #[a, b, c, d, f]) w :=
  run_loadVar_row w g e 34 #[a, b, c, d, f] (0, 0) _ hb Try.underlying34 rfl info34
theorem results_c34 {fn : Func} {t v : Tmp} {tmps : Array Value} {w : World} {g : Nat} {e : TypeId} {a b c d f : Value} (h : fn.results = #[.cell t 34, .tmp v]) (ht : tmps.getD t undef = .pointer (some ⟨g, 0, none⟩))
    (hb : Blk w g e #[a, b, c, d, f]) : (results fn tmps).run Try.prog w = .ok (.tuple #[.agg #[a, b, c, d, f], tmps.getD v undef]) w := by
  have hl := load34 hb
  simp only [results, h]
  simp only [Array.getD_eq_getD_getElem?] at ht
  simp [Sem.run_bind, Result.andThen, ht, asAddr, hl]

section
variable {w w' : World} {a r : Nat} {c : CT} {pv : List Value} {m : List (Int × Hd)} {F : List Nat}
set_option maxRecDepth 100000 in
theorem get_in {s : Int} {h : Hd} (h0 : w.cell? ⟨a, 0, none⟩ = some (.bool true)) (h2 : w.cell? ⟨a, 2, none⟩ = some (.map (some r))) (hm : MapIs intV Hd.val w r m) (hg : mget s m = some h) :
    Calls Try.prog 26 #[.pointer (some ⟨a, 0, none⟩), .int .i64 s] w fun e w' => e = .returned (.tuple #[h.val, .int .i64 0]) ∧ Kept [] w w' := by
  have k1 := Kept.alloc [] w (.cells #[.int .i64 0, .int .i64 0, .int .i64 0, .int .i64 0, .int .u8 0] 34)
  have hlk := run_lookup_ok int_keys Try.underlying66 (k1.map hm (by simp)) s noHd.val Try.zeroValue34
  rw [hg] at hlk
  simp only [intV, Option.map_some, Option.getD_some, Option.isSome_some, Hd.val] at hlk
  have h0' := k1.cell h0 (by simp)
  have h2' := k1.cell h2 (by simp)
  clear k1 hm h0 h2
  go_enter Try.func26, Try.ntmps26
  go_wp2_with (go_at_call 37; refine (is_yes _ _ h0').mono ?_; rintro e w' ⟨rfl, rfl⟩)
  refine bodyPost_ret (results_c34 rfl rfl ((Kept.alloc [] _ _).blk (Blk.new _ _ _) (by simp))) rfl ⟨rfl, (Kept.alloc _ _ _).trans' (Kept.alloc _ _ _)⟩
set_option maxRecDepth 100000 in
theorem get_out {s : Int} (h0 : w.cell? ⟨a, 0, none⟩ = some (.bool true)) (h2 : w.cell? ⟨a, 2, none⟩ = some (.map (some r))) (hm : MapIs intV Hd.val w r m) (hg : mget s m = none) :
    Calls Try.prog 26 #[.pointer (some ⟨a, 0, none⟩), .int .i64 s] w fun e w' => e = .returned (.tuple #[noHd.val, .int .i64 6]) ∧ Kept [] w w' := by
  have k1 := Kept.alloc [] w (.cells #[.int .i64 0, .int .i64 0, .int .i64 0, .int .i64 0, .int .u8 0] 34)
  have hlk := run_lookup_ok int_keys Try.underlying66 (k1.map hm (by simp)) s noHd.val Try.zeroValue34
  rw [hg] at hlk
  simp only [intV, Option.map_none, Option.getD_none, Option.isSome_none, Hd.val, noHd] at hlk
  have h0' := k1.cell h0 (by simp)
  have h2' := k1.cell h2 (by simp)
  clear k1 hm h0 h2
  go_enter Try.func26, Try.ntmps26
  go_wp2_with (go_at_call 37; refine (is_yes _ _ h0').mono ?_; rintro e w' ⟨rfl, rfl⟩)
  refine bodyPost_ret (results_c34 rfl rfl ((Kept.alloc [] _ _).blk (Blk.new _ _ _) (by simp))) rfl ⟨rfl, (Kept.alloc _ _ _).trans' (Kept.alloc _ _ _)⟩
def CT.getRes (c : CT) (s : Int) : Hd × Int := match c.get s with | some h => (h, 0) | none => (noHd, 6)
theorem Get_calls (h : IsTab w a c F) (s : Int) :
    Calls Try.prog 26 #[.pointer (some ⟨a, 0, none⟩), .int .i64 s] w fun e w' => e = .returned (.tuple #[(c.getRes s).1.val, .int .i64 (c.getRes s).2]) ∧ Kept [] w w' := by
  obtain ⟨r, pv, m, h, rfl⟩ := h
  have hg := h.get s
  unfold CT.getRes
  cases e : c.get s with
  | none => exact get_out h.made h.handles h.map (hg.trans e)
  | some x => exact get_in h.made h.handles h.map (hg.trans e)

/-! ### add -/
def CT.add (c : CT) (h : Hd) : CT := { next := c.next + 1, live := c.live ++ [{ h with serial := c.next }], places := c.places.modify h.holder.toNat fun l => l ++ [c.next] }
def CT.addRes (c : CT) (k : Int) : Int × Int :=
  if 256 ≤ c.live.length then (0, 5)
  else if 281474976710656 < c.next ∨ 256 ≤ (c.places[k.toNat]?.getD []).length then (0, 4)
  else (c.next, 0)
set_option maxRecDepth 100000 in
theorem add_many {p o q : Int} {t : Nat} {s0 : Int} {n : Nat} (h2 : w.cell? ⟨a, 2, none⟩ = some (.map (some r))) (hm : MapIs intV Hd.val w r m) (hl : m.length = n) (hn : 256 ≤ n) :
    Calls Try.prog 47 #[.pointer (some ⟨a, 0, none⟩), (Hd.mk s0 p o q t).val] w fun e w' => e = .returned (.tuple #[.int .i64 0, .int .i64 5]) ∧ Kept [] w w' := by
  have k1 := Kept.alloc [] w (.cells #[.int .i64 s0, .int .i64 p, .int .i64 o, .int .i64 q, .int .u8 (t : Int)] 34)
  have h2' := k1.cell h2 (by simp)
  have hl := run_len_is (P := Try.prog) Try.underlying66 (k1.map hm (by simp)) 3
  have hn' : (256 : Int) ≤ m.length := by omega
  unfold Hd.val
  clear k1 hm h2
  go_enter Try.func47, Try.ntmps47
  go_wp2
  go_ret2
  exact ⟨rfl, Kept.alloc _ _ _⟩
set_option maxRecDepth 100000 in
theorem add_full {p o q : Int} {t : Nat} {s0 : Int} {n : Nat} {next : Int} {A : Option Addr} {l cp : Nat} {j : Nat} (h1 : w.cell? ⟨a, 1, none⟩ = some (.int .i64 next)) (h2 : w.cell? ⟨a, 2, none⟩ = some (.map (some r))) (h3 : w.cell? ⟨a, 3 + j, none⟩ = some (.slice A l cp)) (hj : j < 17)
    (hm : MapIs intV Hd.val w r m) (hl : m.length = n) (hn : n < 256) (hor : 281474976710656 < next ∨ 256 ≤ l) :
    Calls Try.prog 47 #[.pointer (some ⟨a, 0, none⟩), (Hd.mk s0 p o j t).val] w fun e w' => e = .returned (.tuple #[.int .i64 0, .int .i64 4]) ∧ Kept [] w w' := by
  have k1 := Kept.alloc [] w (.cells #[.int .i64 s0, .int .i64 p, .int .i64 o, .int .i64 (j : Int), .int .u8 (t : Int)] 34)
  have h1' := k1.cell h1 (by simp)
  have h2' := k1.cell h2 (by simp)
  have h3' := k1.cell h3 (by simp)
  have hl := run_len_is (P := Try.prog) Try.underlying66 (k1.map hm (by simp)) 3
  have hn' : (m.length : Int) < 256 := by omega
  unfold Hd.val
  clear k1 hm h2 h1 h3
  by_cases hx : 281474976710656 < next
  · clear hor
    go_enter Try.func47, Try.ntmps47
    go_wp2
    go_quiet (fail)
    go_wp2
    go_ret2
    exact ⟨rfl, (Kept.alloc _ _ _).trans' (Kept.drewN _ _ _)⟩
  · have hy : (256 : Int) ≤ l := by omega
    have hx' : next ≤ 281474976710656 := by omega
    have hj' : (j : Int) < 17 := by omega
    clear hor
    go_enter Try.func47, Try.ntmps47
    go_wp2
    go_quiet (fail)
    go_wp2
    go_ret2
    exact ⟨rfl, (Kept.alloc _ _ _).trans' (Kept.drewN _ _ _)⟩
theorem grown_blk {w w' : World} {row : Option Nat} {g : Nat} {t : TypeId} {cs : Array Value} (h : w.grownBy w' row) (hb : Blk w g t cs) (hne : row ≠ some g) : Blk w' g t cs := (h.block g hb.lt (fun e => hne e.symm)).trans hb
theorem Kept.nil_new {G : List Nat} (h : Kept G w w') (hG : ∀ b ∈ G, w.heap.size ≤ b) : Kept [] w w' := h.mono fun b hb hl => by have := hG b hb; omega
theorem info3 : (Try.prog.info? 3).map (fun i => (i.zero, i.size, i.bytes)) = some (some (.int .i64 0), 1, 8) := by kernel_rfl
def tarr (next : Int) (r : Nat) (pv : List Value) : Array Value := (.bool true :: .int .i64 next :: .map (some r) :: pv).toArray
set_option maxRecDepth 100000 in
set_option maxHeartbeats 1000000 in
theorem add_new {p o : Int} {t : Nat} {s0 : Int} {next : Int} {A : Option Addr} {l cp : Nat} {j : Nat} {xs : List Value} (hb : Blk w a 69 (tarr next r pv)) (hp : pv[j]? = some (.slice A l cp)) (hj : j < 17)
    (hm : MapIs intV Hd.val w r m) (hn : m.length < 256) (hx : next ≤ 281474976710656) (hx1 : 1 ≤ next) (hl2 : l < 256) (hown : w.ownsRow 0 3 1 (.slice A l cp) l xs) :
    Calls Try.prog 47 #[.pointer (some ⟨a, 0, none⟩), (Hd.mk s0 p o j t).val] w fun e w' => e = .returned (.tuple #[.int .i64 next, .int .i64 0]) ∧
      ∃ v' W w2, Kept [a, r] w W ∧ Blk W a 69 (tarr (next + 1) r pv) ∧ MapIs intV Hd.val W r (mput next ⟨next, p, o, j, t⟩ m) ∧ W.grownBy w2 (Value.slice A l cp).ownBlock ∧
        w2.ownsRow 0 3 1 v' (l + 1) (xs ++ [.int .i64 next]) ∧ (v'.ownBlock = (Value.slice A l cp).ownBlock ∨ v'.ownBlock = some W.heap.size) ∧ w' = w2.setCell ⟨a, 3 + j, none⟩ v' := by
  have k1 := Kept.alloc [] w (.cells #[.int .i64 s0, .int .i64 p, .int .i64 o, .int .i64 (j : Int), .int .u8 (t : Int)] 34)
  have hb1 := k1.blk hb (by simp)
  have h1' := hb1.cell 1
  have h2' := hb1.cell 2
  have h3' : (w.alloc (.cells #[.int .i64 s0, .int .i64 p, .int .i64 o, .int .i64 (j : Int), .int .u8 (t : Int)] 34)).cell? ⟨a, 3 + j, none⟩ = some (.slice A l cp) := by
    rw [hb1.cell]; unfold tarr; rw [List.getElem?_toArray, show 3 + j = j + 1 + 1 + 1 by omega]; simpa using hp
  simp only [tarr, List.getElem?_toArray, List.getElem?_cons_succ, List.getElem?_cons_zero] at h1' h2'
  have hl := run_len_is (P := Try.prog) Try.underlying66 (k1.map hm (by simp)) 3
  have hn' : (m.length : Int) < 256 := by omega
  have hj' : (j : Int) < 17 := by omega
  have hl2' : (l : Int) < 256 := by omega
  have hf1 := hb1.frozen 1
  have hal := hb.lt
  have MM := Lib.hid hm
  have BB := Lib.hid hb
  have OO := Lib.hid hown
  unfold Hd.val
  clear k1 hm hb hb1 hown
  go_enter Try.func47, Try.ntmps47
  go_wp2
  go_quiet (fail)
  go_wp2
  have kH := Kept.alloc [] w (.cells #[.int .i64 s0, .int .i64 p, .int .i64 o, .int .i64 (j : Int), .int .u8 (t : Int)] 34)
  have bH : Blk (w.alloc (.cells #[.int .i64 s0, .int .i64 p, .int .i64 o, .int .i64 (j : Int), .int .u8 (t : Int)] 34)) w.heap.size 34 _ := Blk.new _ _ _
  have sz : (w.alloc (.cells #[.int .i64 s0, .int .i64 p, .int .i64 o, .int .i64 (j : Int), .int .u8 (t : Int)] 34)).heap.size = w.heap.size + 1 := by simp
  generalize (w.alloc (.cells #[.int .i64 s0, .int .i64 p, .int .i64 o, .int .i64 (j : Int), .int .u8 (t : Int)] 34)) = W0 at *
  have kD : Kept [] W0 (W0.drewN nq) := Kept.drewN _ _ _
  have kA : Kept [w.heap.size] (W0.drewN nq) ((W0.drewN nq).setCell ⟨w.heap.size, 0, none⟩ (.int .i64 next)) := Kept.setCell (by simp) _ _
  have kB : Kept [a] ((W0.drewN nq).setCell ⟨w.heap.size, 0, none⟩ (.int .i64 next)) (((W0.drewN nq).setCell ⟨w.heap.size, 0, none⟩ (.int .i64 next)).setCell ⟨a, 1, none⟩ (.int .i64 (next + 1))) := Kept.setCell (by simp) _ _
  have bA : Blk (((W0.drewN nq).setCell ⟨w.heap.size, 0, none⟩ (.int .i64 next)).setCell ⟨a, 1, none⟩ (.int .i64 (next + 1))) a 69 (tarr (next + 1) r pv) :=
    (kA.blk (kD.blk (kH.blk BB.out (by simp)) (by simp)) (by simp; omega)).set_ 1 _
  have bH2 : Blk (((W0.drewN nq).setCell ⟨w.heap.size, 0, none⟩ (.int .i64 next)).setCell ⟨a, 1, none⟩ (.int .i64 (next + 1))) w.heap.size 34 #[.int .i64 next, .int .i64 p, .int .i64 o, .int .i64 (j : Int), .int .u8 (t : Int)] :=
    kB.blk ((kD.blk bH (by simp)).set_ 0 _) (by simp; omega)
  have k1 : Kept [a, r] w (((W0.drewN nq).setCell ⟨w.heap.size, 0, none⟩ (.int .i64 next)).setCell ⟨a, 1, none⟩ (.int .i64 (next + 1))) :=
    ((((kH.trans' kD).nil_mono.trans' kA).nil_new (by simp)).nil_mono).trans' (kB.mono (by simp))
  have hM0 : MapIs intV Hd.val (((W0.drewN nq).setCell ⟨w.heap.size, 0, none⟩ (.int .i64 next)).setCell ⟨a, 1, none⟩ (.int .i64 (next + 1))).drew r m := by
    have hrl := MM.out.lt
    have hra := MM.out.not_blk BB.out
    exact (Kept.drew [] _).map (kB.map (kA.map (kD.map (kH.map MM.out (by simp)) (by simp)) (by simp; omega)) (by simp [hra])) (by simp)
  clear kH kD kA kB bH
  generalize (((W0.drewN nq).setCell ⟨w.heap.size, 0, none⟩ (.int .i64 next)).setCell ⟨a, 1, none⟩ (.int .i64 (next + 1))) = W1 at *
  clear h1' h2' h3' hf1 sz
  obtain ⟨o1, hup, hM1⟩ := run_update int_keys Try.underlying66 hM0 next ⟨next, p, o, j, t⟩
  simp only [intV, Hd.val] at hup
  have bA1 := (Kept.drew [] W1).blk bA (by simp)
  have bH1 := (Kept.drew [] W1).blk bH2 (by simp)
  have e1 : W1.drew.cell? ⟨a, 2, none⟩ = some (.map (some r)) := bA1.cell 2
  have e2 : W1.drew.cell? ⟨w.heap.size, 0, none⟩ = some (.int .i64 next) := bH1.cell 0
  have e3 : W1.drew.cell? ⟨w.heap.size, 1, none⟩ = some (.int .i64 p) := bH1.cell 1
  have e4 : W1.drew.cell? ⟨w.heap.size, 2, none⟩ = some (.int .i64 o) := bH1.cell 2
  have e5 : W1.drew.cell? ⟨w.heap.size, 3, none⟩ = some (.int .i64 (j : Int)) := bH1.cell 3
  have e6 : W1.drew.cell? ⟨w.heap.size, 4, none⟩ = some (.int .u8 (t : Int)) := bH1.cell 4
  have B1 := Lib.hid bA1
  have B2 := Lib.hid bH1
  have K1 := Lib.hid k1
  have M1 := Lib.hid hM1
  have KS := Lib.hid (Kept.setBlock (F := [r]) (r := r) (by simp) W1.drew o1)
  clear bA bH2 bA1 bH1 k1 hM0 hM1
  have hrl := MM.out.lt
  go_region
  have bA2 := KS.out.blk B1.out (by simpa using (MM.out.not_blk BB.out).symm)
  have bH3 := KS.out.blk B2.out (by simp only [List.mem_singleton]; omega)
  have k2 : Kept [a, r] w (setBlock W1.drew r o1) := (K1.out.trans' (Kept.drew _ _)).trans' (KS.out.mono (by simp))
  clear e1 e2 e3 e4 e5 e6 hup KS B1 B2 K1
  generalize setBlock W1.drew r o1 = W2 at *
  have f1 : W2.drew.cell? ⟨a, 3 + j, none⟩ = some (.slice A l cp) := by
    rw [((Kept.drew [] W2).blk bA2 (by simp)).cell]; unfold tarr; rw [List.getElem?_toArray, show 3 + j = j + 1 + 1 + 1 by omega]; simpa using hp
  have f2 : W2.drew.cell? ⟨w.heap.size, 0, none⟩ = some (.int .i64 next) := ((Kept.drew [] W2).blk bH3 (by simp)).cell 0
  have f3 : W2.drew.cell? ⟨w.heap.size, 3, none⟩ = some (.int .i64 (j : Int)) := ((Kept.drew [] W2).blk bH3 (by simp)).cell 3
  have f1a : (W2.alloc (.cells #[.int .i64 next] 3)).cell? ⟨a, 3 + j, none⟩ = some (.slice A l cp) := (Kept.alloc [] W2 _).cell f1 (by simp)
  have f3a : (W2.alloc (.cells #[.int .i64 next] 3)).cell? ⟨w.heap.size, 3, none⟩ = some (.int .i64 (j : Int)) := (Kept.alloc [] W2 _).cell f3 (by simp)
  have ow2 : W2.drew.ownsRow 0 3 1 (.slice A l cp) l xs := by
    refine (Kept.drew [] W2).own (k2.own OO.out fun k hk => ?_) (by simp)
    obtain ⟨cs, hcs⟩ := own_blk OO.out hk
    simp only [List.mem_cons, List.not_mem_nil, or_false, not_or]
    exact ⟨hcs.ne_ BB.out (by decide), (MM.out.not_blk hcs).symm⟩
  have h2l : w.heap.size < W2.heap.size := bH3.lt
  have OW := Lib.hid ow2
  have NA : Hid (∀ k, (Value.slice A l cp).ownBlock = some k → k ≠ a) := Lib.hid fun k hk => by
    obtain ⟨cs, hcs⟩ := own_blk OO.out hk
    exact hcs.ne_ BB.out (by decide)
  have NH : Hid (∀ k, (Value.slice A l cp).ownBlock = some k → k ≠ w.heap.size) := Lib.hid fun k hk => by
    have := own_lt OO.out hk
    omega
  have LX : Hid (xs.length = l) := Lib.hid (by simpa using OO.out.1)
  have TP : Hid ((tarr (next + 1) r pv)[3 + j]? = some (.slice A l cp)) := Lib.hid (by unfold tarr; rw [List.getElem?_toArray, show 3 + j = j + 1 + 1 + 1 by omega]; simpa using hp)
  have BA := Lib.hid bA2
  have BH := Lib.hid bH3
  have K2 := Lib.hid k2
  clear bA2 bH3 k2 ow2
  obtain ⟨i0, hi, hz0, hz1, hz2⟩ := info_parts info3
  have HC := Lib.hid (cell_one_new W2 (.int .i64 next) 3)
  go_wp2
  go_region_law (first
    | (refine step_append_at rfl (.tmp 58) (.tmp 61) 30 rfl 0 3 i0 (.int .i64 0) 1 8 Try.underlying30 hi hz0 hz1 hz2 rfl (by decide) (.slice A l cp) l xs (by simp [Act.eval, Act.put]) (OW.out.alloc _) ⟨W2.heap.size, 0, none⟩ 1 1 [.int .i64 next] (by simp [Act.eval, Act.put]) rfl HC.out (by simp [Value.oneCell']) (by unfold maxLen; omega) (by omega) (Nat.zero_le _) ?_
       intro v' w1 hown' hgrow hloc
       obtain ⟨g', cap', rfl, _⟩ := own_cell hown' (k := l) (u := .int .i64 next) (by simp [LX.out])
       have b1 := grown_blk hgrow (((Kept.alloc [] W2 _).trans' (Kept.drew _ _)).blk BA.out (by simp)) (fun e => NA.out _ e rfl)
       have b2 := grown_blk hgrow (((Kept.alloc [] W2 _).trans' (Kept.drew _ _)).blk BH.out (by simp)) (fun e => NH.out _ e rfl)
       have g1 : w1.cell? ⟨w.heap.size, 3, none⟩ = some (.int .i64 (j : Int)) := b2.cell 3
       have g0 : w1.cell? ⟨w.heap.size, 0, none⟩ = some (.int .i64 next) := b2.cell 0
       have g2 := b1.frozen (3 + j)
       have g3 : w1.cell? ⟨a, 3 + j, none⟩ = some (.slice A l cp) := by
         rw [b1.cell]; exact TP.out
       have X := Lib.hid hown'
       have Y := Lib.hid hgrow
       have Z := Lib.hid hloc
       clear b1 b2 hown' hgrow hloc))
  all_goals
    go_wp2
    go_ret2
    refine ⟨rfl, _, (W2.alloc (.cells #[.int .i64 next] 3)).drew, w1, (K2.out.trans' (Kept.alloc _ _ _)).trans' (Kept.drew _ _), ((Kept.alloc [] W2 _).trans' (Kept.drew _ _)).blk BA.out (by simp), ((Kept.alloc [] W2 _).trans' (Kept.drew _ _)).map M1.out (by simp), Y.out, X.out, Z.out, rfl⟩
end
end Go.Proofs.Ytmndckeohfcgkaa
