/- The walk of Place of package caps. -/
import Derived.Test.YtmndckeohfcgkaaRoot
namespace Go.Proofs.Ytmndckeohfcgkaa
open Go.RowKit
open Go.ChangeMaps (setBlock)
section
variable {w w' : World} {a r : Nat} {c : CT} {pv : List Value} {m : List (Int × Hd)} {F : List Nat}
def CT.placeRes (c : CT) (who i : Int) : Hd × Int :=
  if holds who = false then (noHd, 2)
  else match (if 0 ≤ i then (c.places[who.toNat]?.getD [])[i.toNat]? else none) with
  | none => (noHd, 6)
  | some s => match c.get s with | some h => (h, 0) | none => (noHd, 230)
set_option maxRecDepth 100000 in
theorem place_holder {who i : Int} (h0 : w.cell? ⟨a, 0, none⟩ = some (.bool true)) (hh : holds who = false) :
    Calls Try.prog 29 #[.pointer (some ⟨a, 0, none⟩), .int .i64 who, .int .i64 i] w fun e w' => e = .returned (.tuple #[noHd.val, .int .i64 2]) ∧ Kept [] w w' := by
  have h0' := (Kept.alloc [] w (.cells #[.int .i64 0, .int .i64 0, .int .i64 0, .int .i64 0, .int .u8 0] 34)).cell h0 (by simp)
  have HC : Hid (∀ w1, Calls Try.prog 45 #[.int .i64 who] w1 fun e w' => e = .returned (.bool false) ∧ w1 = w') := Lib.hid fun w1 => by
    have hc := holder_calls w1 who
    rwa [hh] at hc
  clear hh h0
  go_enter Try.func29, Try.ntmps29
  go_wp2_with (first | (go_at_call 37; refine (is_yes _ _ h0').mono ?_; rintro e w' ⟨rfl, rfl⟩) | (go_at_call 45; refine (HC.out _).mono ?_; rintro e w' ⟨rfl, rfl⟩))
  refine bodyPost_ret (results_c34 rfl rfl (Blk.new _ _ _)) rfl ⟨rfl, Kept.alloc _ _ _⟩
set_option maxRecDepth 100000 in
theorem place_none {i : Int} {j : Nat} {A : Option Addr} {n cp : Nat} (h0 : w.cell? ⟨a, 0, none⟩ = some (.bool true)) (hj : j < 17) (h1 : w.cell? ⟨a, 3 + j, none⟩ = some (.slice A n cp)) (hi : i < 0 ∨ (n : Int) ≤ i) :
    Calls Try.prog 29 #[.pointer (some ⟨a, 0, none⟩), .int .i64 (j : Int), .int .i64 i] w fun e w' => e = .returned (.tuple #[noHd.val, .int .i64 6]) ∧ Kept [] w w' := by
  have h0' := (Kept.alloc [] w (.cells #[.int .i64 0, .int .i64 0, .int .i64 0, .int .i64 0, .int .u8 0] 34)).cell h0 (by simp)
  have h1' := (Kept.alloc [] w (.cells #[.int .i64 0, .int .i64 0, .int .i64 0, .int .i64 0, .int .u8 0] 34)).cell h1 (by simp)
  have HC : Hid (∀ w1, Calls Try.prog 45 #[.int .i64 (j : Int)] w1 fun e w' => e = .returned (.bool true) ∧ w1 = w') := Lib.hid fun w1 => by
    have hc := holder_calls w1 j
    rwa [show holds (j : Int) = true by simp [holds]; omega] at hc
  have hj' : (j : Int) < 17 := by omega
  clear h0 h1
  by_cases hx : i < 0
  · clear hi
    go_enter Try.func29, Try.ntmps29
    go_wp2_with (first | (go_at_call 37; refine (is_yes _ _ h0').mono ?_; rintro e w' ⟨rfl, rfl⟩) | (go_at_call 45; refine (HC.out _).mono ?_; rintro e w' ⟨rfl, rfl⟩))
    refine bodyPost_ret (results_c34 rfl rfl (Blk.new _ _ _)) rfl ⟨rfl, Kept.alloc _ _ _⟩
  · have hy := hi.resolve_left hx
    clear hi
    go_enter Try.func29, Try.ntmps29
    go_wp2_with (first | (go_at_call 37; refine (is_yes _ _ h0').mono ?_; rintro e w' ⟨rfl, rfl⟩) | (go_at_call 45; refine (HC.out _).mono ?_; rintro e w' ⟨rfl, rfl⟩))
    refine bodyPost_ret (results_c34 rfl rfl (Blk.new _ _ _)) rfl ⟨rfl, Kept.alloc _ _ _⟩
theorem alloc_drew_new (w : World) (cs : Array Value) (t : TypeId) : Blk (w.alloc (.cells cs t)).drew w.heap.size t cs := (Kept.drew [] _).blk (Blk.new w t cs) (by simp)
set_option maxRecDepth 100000 in
set_option maxHeartbeats 1000000 in
theorem place_some {i j : Nat} {b n cp : Nat} {s : Int} {z : Hd} {f : Bool} (h0 : w.cell? ⟨a, 0, none⟩ = some (.bool true)) (h2 : w.cell? ⟨a, 2, none⟩ = some (.map (some r))) (hm : MapIs intV Hd.val w r m) (hj : j < 17) (h1 : w.cell? ⟨a, 3 + j, none⟩ = some (.slice (some ⟨b, 0, none⟩) n cp)) (hi : i < n) (hn : n ≤ 256)
    (hs : w.cell? ⟨b, i, none⟩ = some (.int .i64 s)) (hg : ((mget s m).getD noHd, (mget s m).isSome) = (z, f)) :
    Calls Try.prog 29 #[.pointer (some ⟨a, 0, none⟩), .int .i64 (j : Int), .int .i64 (i : Int)] w fun e w' => e = .returned (.tuple #[z.val, .int .i64 (if f then 0 else 230)]) ∧ Kept [] w w' := by
  have k0 := Kept.alloc [] w (.cells #[.int .i64 0, .int .i64 0, .int .i64 0, .int .i64 0, .int .u8 0] 34)
  have h0' := k0.cell h0 (by simp)
  have k1 := k0.trans' (Kept.drew _ _)
  have h1' := k0.cell h1 (by simp)
  have h1'' := k1.cell h1 (by simp)
  have h2'' := k1.cell h2 (by simp)
  have hs'' := k1.cell hs (by simp)
  have hlk := run_lookup_ok int_keys Try.underlying66 (k1.map hm (by simp)) s noHd.val Try.zeroValue34
  have k2 := (k0.trans' (Kept.alloc [] _ (.cells #[.int .i64 0, .int .i64 0, .int .i64 0, .int .i64 0, .int .u8 0] 34))).trans' (Kept.drew _ _)
  have h1b := k2.cell h1 (by simp)
  have h2b := k2.cell h2 (by simp)
  have hsb := k2.cell hs (by simp)
  have hlkb := run_lookup_ok int_keys Try.underlying66 (k2.map hm (by simp)) s noHd.val Try.zeroValue34
  simp only [Prod.mk.injEq] at hg
  obtain ⟨hz, hf⟩ := hg
  have ez : ((mget s m).map Hd.val).getD noHd.val = z.val := by rw [← hz]; cases mget s m <;> rfl
  rw [ez, hf] at hlk hlkb
  have hzf : f = false → z = noHd := fun e => by rw [e] at hf; rw [← hz]; cases hx : mget s m <;> simp_all
  have HC : Hid (∀ w1, Calls Try.prog 45 #[.int .i64 (j : Int)] w1 fun e w' => e = .returned (.bool true) ∧ w1 = w') := Lib.hid fun w1 => by
    have hc := holder_calls w1 j
    rwa [show holds (j : Int) = true by simp [holds]; omega] at hc
  have hj' : (j : Int) < 17 := by omega
  have K0 := Lib.hid k0
  simp only [intV, Hd.val] at hlk hlkb
  unfold Hd.val
  clear h0 h1 h2 hs hm k0 k1 k2 ez hz hf
  cases f with
  | true =>
    clear hzf
    go_enter Try.func29, Try.ntmps29
    go_wp2_with (first | (go_at_call 37; refine (is_yes _ _ h0').mono ?_; rintro e w' ⟨rfl, rfl⟩) | (go_at_call 45; refine (HC.out _).mono ?_; rintro e w' ⟨rfl, rfl⟩))
    go_region
    all_goals
      go_wp2
      exact bodyPost_ret (results_c34 rfl rfl ((Kept.drew [] _).blk ((Kept.alloc [] _ _).blk (Blk.new _ _ _) (by simp)) (by simp))) rfl ⟨rfl, ((Kept.alloc _ _ _).trans' (Kept.alloc _ _ _)).trans' (Kept.drew _ _)⟩
  | false =>
    obtain rfl := hzf rfl
    simp only [noHd] at hlk hlkb ⊢
    clear hzf
    go_enter Try.func29, Try.ntmps29
    go_wp2_with (first | (go_at_call 37; refine (is_yes _ _ h0').mono ?_; rintro e w' ⟨rfl, rfl⟩) | (go_at_call 45; refine (HC.out _).mono ?_; rintro e w' ⟨rfl, rfl⟩))
    go_region
    all_goals
      go_wp2
      exact bodyPost_ret (results_c34 rfl rfl ((Kept.drew [] _).blk ((Kept.alloc [] _ _).blk (Blk.new _ _ _) (by simp)) (by simp))) rfl ⟨rfl, ((Kept.alloc _ _ _).trans' (Kept.alloc _ _ _)).trans' (Kept.drew _ _)⟩
theorem Place_calls (H : IsTab w a c F) (who i : Int) :
    Calls Try.prog 29 #[.pointer (some ⟨a, 0, none⟩), .int .i64 who, .int .i64 i] w fun e w' => e = .returned (.tuple #[(c.placeRes who i).1.val, .int .i64 (c.placeRes who i).2]) ∧ Kept [] w w' := by
  obtain ⟨r, pv, m, T, rfl⟩ := H
  cases hh : holds who with
  | false =>
    have e : c.placeRes who i = (noHd, 2) := by unfold CT.placeRes; rw [if_pos hh]
    rw [e]
    exact place_holder T.made hh
  | true =>
    have hh' : 0 ≤ who ∧ who ≤ 16 := by simpa [holds] using hh
    obtain ⟨j, rfl⟩ : ∃ j : Nat, who = (j : Int) := ⟨who.toNat, by omega⟩
    have hj : j < 17 := by omega
    obtain ⟨v, l, hv, hl, hown⟩ := T.at hj
    obtain ⟨A, cp, rfl⟩ := own_slice hown
    have hn1 : ¬ (holds (j : Int) = false) := by simp [hh]
    by_cases hi : i < 0 ∨ (l.length : Int) ≤ i
    · have e : c.placeRes (j : Int) i = (noHd, 6) := by
        unfold CT.placeRes
        rw [if_neg hn1, show ((j : Int)).toNat = j by omega, hl]
        by_cases h0 : 0 ≤ i
        · have : l[i.toNat]? = none := List.getElem?_eq_none (by omega)
          simp [h0, this]
        · simp [h0]
      rw [e]
      exact place_none T.made hj (T.cellP hv) hi
    · obtain ⟨k, rfl⟩ : ∃ k : Nat, i = (k : Int) := ⟨i.toNat, by omega⟩
      have hk : k < l.length := by omega
      have hs : l[k]? = some l[k] := List.getElem?_eq_getElem hk
      obtain ⟨g, cp', hg1, hg2, _⟩ := own_cell hown (k := k) (u := intV l[k]) (by simp [hs])
      simp only [Value.slice.injEq, true_and] at hg1
      obtain ⟨rfl, rfl⟩ := hg1
      have e : c.placeRes (j : Int) (k : Int) = ((mget l[k] m).getD noHd, if (mget l[k] m).isSome then 0 else 230) := by
        unfold CT.placeRes
        rw [if_neg hn1, show ((j : Int)).toNat = j by omega, hl, if_pos (by omega)]
        simp only [Option.getD_some, show ((k : Int)).toNat = k by omega, hs]
        rw [T.get]
        cases c.get l[k] <;> rfl
      rw [e]
      exact place_some T.made T.handles T.map hj (T.cellP hv) hk (T.ok.pfew l (List.mem_of_getElem? hl)) hg2 rfl
end
end Go.Proofs.Ytmndckeohfcgkaa
