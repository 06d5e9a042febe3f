/- The walk of All of package caps. -/
import Derived.Test.YtmndckeohfcgkaaSorted
import Derived.Test.YtmndckeohfcgkaaAdd
namespace Go.Proofs.Ytmndckeohfcgkaa
open Go.RowKit
open Go.ChangeMaps (setBlock)
def flatH (l : List Hd) : List Value := l.flatMap Hd.cells
theorem flatH_len (l : List Hd) : (flatH l).length = l.length * 5 := by
  induction l with
  | nil => rfl
  | cons x l ih => simp only [flatH, List.flatMap_cons, List.length_append, List.length_cons] at ih ⊢; rw [ih]; simp [Hd.cells]; omega
theorem flatH_get {l : List Hd} {k i : Nat} {x : Hd} {u : Value} (h : l[k]? = some x) (hi : i < 5) (hu : x.cells[i]? = some u) : (flatH l)[k * 5 + i]? = some u := by
  induction l generalizing k with
  | nil => simp at h
  | cons y l ih =>
    have e : flatH (y :: l) = y.cells ++ flatH l := rfl
    rw [e]
    cases k with
    | zero =>
      simp only [List.getElem?_cons_zero, Option.some.injEq] at h
      subst h
      rw [Nat.zero_mul, Nat.zero_add, List.getElem?_append_left (by simpa [Hd.cells] using hi)]
      exact hu
    | succ k =>
      rw [List.getElem?_append_right (by simp [Hd.cells]; omega)]
      have : (k + 1) * 5 + i - y.cells.length = k * 5 + i := by simp [Hd.cells]; omega
      rw [this]
      exact ih (by simpa using h)
theorem info34' : (Try.prog.info? 34).map (fun i => (i.zero, i.size, i.bytes)) = some (some (.agg #[.int .i64 0, .int .i64 0, .int .i64 0, .int .i64 0, .int .u8 0]), 5, 40) := by kernel_rfl
theorem wf_i64 {k : Int} (h1 : -9223372036854775808 ≤ k) (h2 : k ≤ 9223372036854775807) : (Lit.int .i64 k).wf = true := by
  have e1 : IntKind.i64.min = -9223372036854775808 := by decide
  have e2 : IntKind.i64.max = 9223372036854775807 := by decide
  simp [Lit.wf, e1, e2, h1, h2]
theorem cell_row_new (w : World) (cs : List Value) (t : TypeId) : ∀ j u, cs[j]? = some u → (w.alloc (.cells cs.toArray t)).cell? ((⟨w.heap.size, 0, none⟩ : Addr).add j) = some u := by
  intro j u hj
  have e : (⟨w.heap.size, 0, none⟩ : Addr).add j = ⟨w.heap.size, j, none⟩ := by
    by_cases h : j = 0
    · subst h; rfl
    · simp [Addr.add, h]
  rw [e, (Blk.new w t cs.toArray).cell]
  simpa using hj
theorem sorted_live {c : CT} (ok : c.ok) {ss : List Int} (h : ss.Perm (c.live.map (·.serial))) : ss.mergeSort (fun x y => decide (x ≤ y)) = c.live.map (·.serial) := by
  have hp := (List.mergeSort_perm ss (fun x y => decide (x ≤ y))).trans h
  have h1 : (ss.mergeSort (fun x y => decide (x ≤ y))).Pairwise (fun a b => a ≤ b) := by
    have := List.pairwise_mergeSort (le := fun x y : Int => decide (x ≤ y)) (fun a b c h1 h2 => by simp only [decide_eq_true_eq] at *; omega) (fun a b => by simp only [Bool.or_eq_true, decide_eq_true_eq]; omega) ss
    exact this.imp fun h => by simpa using h
  have h2 : (c.live.map (·.serial)).Pairwise (fun a b => a ≤ b) := by
    rw [List.pairwise_map]
    exact ok.asc.imp fun h => by omega
  exact hp.eq_of_pairwise (fun a b _ _ h1 h2 => Int.le_antisymm h1 h2) h1 h2
section
variable {w w' : World} {a r : Nat} {c : CT} {pv : List Value} {m : List (Int × Hd)} {F : List Nat}
set_option maxRecDepth 100000 in
set_option maxHeartbeats 1000000 in
theorem All_calls (H : IsTab w a c F) :
    Calls Try.prog 14 #[.pointer (some ⟨a, 0, none⟩)] w fun e w' => ∃ A cap, e = .returned (.slice A c.live.length cap) ∧ w'.ownsRow w.heap.size 34 5 (.slice A c.live.length cap) c.live.length (flatH c.live) ∧ Kept [] w w' := by
  obtain ⟨r, pv, m, T, rfl⟩ := H
  have hwf : ∀ k ∈ m.map (·.1), (Lit.int .i64 k).wf = true := by
    intro k hk
    have h5 := (T.perm.map (·.1)).mem_iff.1 hk
    rw [ents_keys] at h5
    obtain ⟨x, hx, rfl⟩ := List.mem_map.1 h5
    have := T.ok.low x hx
    have := T.ok.n2
    exact wf_i64 (by omega) (by omega)
  have hS := sorted40 T.map hwf (by rw [T.size]; have := T.ok.few; omega)
  have hmk : (m.map (·.1)).Perm (c.live.map (·.serial)) := by
    have := T.perm.map (·.1)
    rwa [ents_keys] at this
  have hS2 : Calls Try.prog 40 #[.func (.func 57) #[] #[.pointer (some ⟨w.heap.size, 0, none⟩)]] (w.alloc (.cells #[.map (some r)] 66)) fun e w' =>
      ∃ A cap, e = .returned (.slice A c.live.length cap) ∧ w'.ownsRow w.heap.size 3 1 (.slice A c.live.length cap) c.live.length ((c.live.map (·.serial)).map intV) ∧ Below w.heap.size w w' := by
    refine hS.mono ?_
    rintro e w' ⟨v, ss, rfl, h1, h2, h3⟩
    have hp := h1.trans hmk
    rw [sorted_live T.ok hp] at h2
    have hl : ss.length = c.live.length := by have := hp.length_eq; simpa using this
    rw [hl] at h2
    obtain ⟨A, cap, rfl⟩ := own_slice h2
    exact ⟨A, cap, rfl, h2, h3⟩
  have h0 := T.made
  have hh := T.handles
  have HS := Lib.hid hS2
  have HT := Lib.hid T
  obtain ⟨i0, hi, hz0, hz1, hz2⟩ := info_parts info34'
  clear hwf hS hmk hS2 T
  go_enter Try.func14, Try.ntmps14
  go_wp2_with (first | (go_at_call 37; refine (is_yes _ _ h0).mono ?_; rintro e w' ⟨rfl, rfl⟩) | (go_at_call 41; refine (keys41 _ _).mono ?_; rintro e w' ⟨rfl, rfl⟩) | (go_at_call 40; refine HS.out.mono ?_; rintro e w1 ⟨A1, cap1, rfl, ho, hb⟩; have O1 := Lib.hid ho; have B1 := Lib.hid hb; clear ho hb))
  have few := HT.out.ok.few
  have HK1 : Hid (Kept [] w w1) := ⟨B1.out.os, B1.out.tape, B1.out.output, B1.out.size, fun b hb _ => B1.out.block b hb⟩
  go_loopw [3, 16] (fun o i wr => ∃ (k : Nat), k ≤ c.live.length ∧ i = .int .i64 k ∧ wr.ownsRow w1.heap.size 34 5 o k (flatH (c.live.take k)) ∧ Kept [] w1 wr) (fun _ i _ => c.live.length - (intOf i).toNat)
  case atStart => exact ⟨0, Nat.zero_le _, rfl, World.ownsRow_nil _ _ _ _, Kept.refl _ _⟩
  case round =>
    obtain ⟨k, hk, rfl, hO, hK⟩ := hrel
    by_cases hlt : k < c.live.length
    · obtain ⟨x, hx⟩ : ∃ x, c.live[k]? = some x := ⟨_, List.getElem?_eq_getElem hlt⟩
      obtain ⟨g1, q1, hv1, hc1, _⟩ := own_cell (hK.own O1.out (by simp)) (k := k) (u := intV x.serial) (by simp [hx])
      simp only [Value.slice.injEq, true_and] at hv1
      obtain ⟨rfl, rfl⟩ := hv1
      simp only [intV] at hc1
      have hT := (HT.out.kept (HK1.out.trans' hK) (by simp))
      have h2 := hT.handles
      have hlk := run_lookup_plain int_keys Try.underlying66 hT.map x.serial noHd.val Try.zeroValue34
      rw [HT.out.get, HT.out.ok.get_mem (List.mem_of_getElem? hx)] at hlk
      simp only [intV, Option.map_some, Option.getD_some, Hd.val] at hlk
      have hcn := cell_row_new wr x.cells 34
      obtain ⟨A, cp, rfl⟩ := own_slice hO
      have HC := Lib.hid hcn
      have X1 := Lib.hid hO
      have X2 := Lib.hid hK
      have X3 := Lib.hid hx
      have hol := hO.lt
      have X4 : Hid (∀ b, (Value.slice A k cp).ownBlock = some b → w1.heap.size ≤ b) := Lib.hid fun b hb => (hO.lt b hb).1
      have hx4 := hK.size
      clear hO hK hx hT hcn hol
      go_wp2_with (at_builtin
                   refine wpList_append_own_at _ rfl _ _ 28 rfl w1.heap.size 34 i0 (.agg #[.int .i64 0, .int .i64 0, .int .i64 0, .int .i64 0, .int .u8 0]) 5 40 Try.underlying28 hi hz0 hz1 hz2 rfl (by decide) (.slice A k cp) k (flatH (c.live.take k)) rfl (X1.out.alloc _) ⟨wr.heap.size, 0, none⟩ 1 1 x.cells rfl rfl HC.out (by simp [Hd.cells, Value.oneCell']) (by unfold maxLen; omega) (by omega) (by simp; omega) ?_
                   intro v' w2 hown' hgrow hnil hloc
                   have Y2 := Lib.hid hown'
                   have Y3 := Lib.hid hgrow
                   clear hown' hgrow hnil hloc)
      go_roundw
      case rel =>
        refine ⟨k + 1, by omega, by go_num, ?_, ?_⟩
        · rw [List.take_add_one, X3.out]
          simp only [flatH, List.flatMap_append, Option.toList_some, List.flatMap_cons, List.flatMap_nil, List.append_nil]
          exact Y2.out
        · refine X2.out.trans ((Kept.alloc (Value.slice A k cp).ownBlock.toList _ _).trans' (Kept.grown Y3.out (by simp))) fun b hb => .inr (X4.out b (by simpa using hb))
      case measure => simp [intOf]; omega
    · obtain rfl : k = c.live.length := by omega
      rw [List.take_length] at hO
      obtain ⟨A, cp, rfl⟩ := own_slice hO
      have X1 := Lib.hid hO
      have X2 := Lib.hid hK
      clear hO hK
      go_wp2
      go_ret
      exact ⟨A, cp, rfl, own_base X1.out HK1.out.size, HK1.out.trans' X2.out⟩
end
end Go.Proofs.Ytmndckeohfcgkaa
