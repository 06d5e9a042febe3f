/- The walks of slices.Clone at ints, of Places, of maps.Clone. -/
import Derived.Test.YtmndckeohfcgkaaRoot
import Derived.Shelf.SlMaps.Clone
namespace Go.Proofs.Ytmndckeohfcgkaa
open Go.RowKit
open Go.Proofs
open Go.ChangeMaps (setBlock)
theorem eql_nil30 (w : World) (a : Option Addr) (n c n' c' : Nat) : (binOp .eql 30 (.slice a n c) (.slice none n' c')).run Try.prog w = .ok (.bool a.isNone) w :=
  Lib.run_eql_slice_nil w 30 3 a n c n' c' Try.underlying30
theorem clone_nil {w : World} {n c : Nat} :
    Calls Try.prog 39 #[.slice none n c] w fun e w' => e = .returned (.slice none 0 0) ∧ w = w' := by
  have hq := eql_nil30
  go_enter Try.func39, Try.ntmps39
  go_wp2
  go_ret
  exact ⟨rfl, rfl⟩
set_option maxRecDepth 100000 in
set_option maxHeartbeats 400000 in
theorem clone_some {w : World} {b n c : Nat} {xs : List Value} (hr : w.ownsRow 0 3 1 (.slice (some ⟨b, 0, none⟩) n c) n xs) (h1 : ∀ u ∈ xs, u.oneCell' = true) (hn : n ≤ 1024) :
    Calls Try.prog 39 #[.slice (some ⟨b, 0, none⟩) n c] w fun e w' => ∃ g cap, e = .returned (.slice (some ⟨g, 0, none⟩) n cap) ∧ w'.ownsRow w.heap.size 3 1 (.slice (some ⟨g, 0, none⟩) n cap) n xs ∧ Kept [] w w' := by
  have hq := eql_nil30
  obtain ⟨i0, hi, hz0, hz1, hz2⟩ := info_parts info3
  have hcells : ∀ j u, xs[j]? = some u → (w.alloc (.cells #[] 3)).cell? ((⟨b, 0, none⟩ : Addr).add j) = some u := by
    intro j u hj
    have := (Kept.alloc [] w (.cells #[] 3)).own hr (by simp)
    exact this.cells (g := b) rfl j u hj
  have hl : xs.length = n * 1 := hr.1
  have HC := Lib.hid hcells
  have HL := Lib.hid hl
  have H1 := Lib.hid h1
  have hmade := World.ownsRow_made (size := 1) (e := 3) w #[] 0 (Nat.le_refl w.heap.size) (by unfold maxLen; omega) (by simp)
  have HM := Lib.hid hmade
  clear hcells hl hr h1 hmade
  go_enter Try.func39, Try.ntmps39
  go_wp2_with (at_builtin
               refine wpList_append_own_at _ rfl _ _ 30 rfl w.heap.size 3 i0 (.int .i64 0) 1 8 Try.underlying30 hi hz0 hz1 hz2 rfl (by decide) (.slice (some ⟨w.heap.size, 0, none⟩) 0 0) 0 [] rfl HM.out ⟨b, 0, none⟩ n c xs rfl HL.out HC.out H1.out (by unfold maxLen; omega) (by omega) (by simp) ?_
               intro v' w1 hown' hgrow hnil hloc
               have X := Lib.hid hown'
               have Y := Lib.hid hgrow
               have Z := Lib.hid hnil
               clear hown' hgrow hnil hloc)
  go_ret
  have hx := X.out
  simp only [Nat.zero_add, List.nil_append] at hx
  have hk : Kept [] w w1 := ((Kept.alloc [w.heap.size] w _).trans' (Kept.grown Y.out (by simp [Value.ownBlock]))).mono (by
    intro b hb hlt
    simp only [List.mem_singleton] at hb
    omega)
  rcases hx.2 with ⟨rfl, rfl⟩ | ⟨g, cap, cur, rfl, rest⟩
  · have := Z.out.1 rfl
    simp at this
  · exact ⟨g, cap, rfl, hx, hk⟩
theorem clone39 {w : World} {base : Nat} {v : Value} {n : Nat} {xs : List Int} (hr : w.ownsRow base 3 1 v n (xs.map intV)) (hn : n ≤ 1024) :
    Calls Try.prog 39 #[v] w fun e w' => ∃ A cap, e = .returned (.slice A n cap) ∧ w'.ownsRow w.heap.size 3 1 (.slice A n cap) n (xs.map intV) ∧ Kept [] w w' := by
  have hr0 := own_base hr (Nat.zero_le base)
  rcases hr.2 with ⟨rfl, rfl⟩ | ⟨g, cap, cur, rfl, rest⟩
  · have h0 : xs = [] := by
      have := hr.1
      simp only [List.length_map, Nat.zero_mul] at this
      exact List.eq_nil_of_length_eq_zero this
    subst h0
    refine clone_nil.mono ?_
    rintro e w' ⟨rfl, rfl⟩
    exact ⟨none, 0, rfl, World.ownsRow_nil _ _ _ _, Kept.refl _ _⟩
  · refine (clone_some hr0 (by simp [intV, Value.oneCell']) hn).mono ?_
    rintro e w' ⟨g', cap', rfl, h1, h2⟩
    exact ⟨_, _, rfl, h1, h2⟩
section
variable {w w' : World} {a r : Nat} {c : CT} {pv : List Value} {m : List (Int × Hd)} {F : List Nat}
theorem places_out {who : Int} (h0 : w.cell? ⟨a, 0, none⟩ = some (.bool true)) (hh : holds who = false) :
    Calls Try.prog 30 #[.pointer (some ⟨a, 0, none⟩), .int .i64 who] w fun e w' => e = .returned (.slice none 0 0) ∧ w = w' := by
  have hc := holder_calls w who
  rw [hh] at hc
  have HC := Lib.hid hc
  clear hh hc
  go_enter Try.func30, Try.ntmps30
  go_wp2_with (first | (go_at_call 37; refine (is_yes _ _ h0).mono ?_; rintro e w' ⟨rfl, rfl⟩) | (go_at_call 45; refine HC.out.mono ?_; rintro e w' ⟨rfl, rfl⟩))
  go_ret
  exact ⟨rfl, rfl⟩
theorem places_in {j : Nat} {A : Option Addr} {n cp : Nat} {R : Value → World → Prop} (h0 : w.cell? ⟨a, 0, none⟩ = some (.bool true)) (hj : j < 17) (h1 : w.cell? ⟨a, 3 + j, none⟩ = some (.slice A n cp))
    (hcl : Calls Try.prog 39 #[.slice A n cp] w fun e w' => ∃ v, e = .returned v ∧ R v w') :
    Calls Try.prog 30 #[.pointer (some ⟨a, 0, none⟩), .int .i64 (j : Int)] w fun e w' => ∃ v, e = .returned v ∧ R v w' := by
  have hc := holder_calls w j
  rw [show holds (j : Int) = true by simp [holds]; omega] at hc
  have HC := Lib.hid hc
  have HL := Lib.hid hcl
  have hj' : (j : Int) < 17 := by omega
  clear hc hcl
  go_enter Try.func30, Try.ntmps30
  go_wp2_with (first | (go_at_call 37; refine (is_yes _ _ h0).mono ?_; rintro e w' ⟨rfl, rfl⟩) | (go_at_call 45; refine HC.out.mono ?_; rintro e w' ⟨rfl, rfl⟩) | (go_at_call 39; refine HL.out.mono ?_; rintro e w1 ⟨v, rfl, hr⟩; have X := Lib.hid hr; clear hr))
  go_ret
  exact ⟨v, rfl, X.out⟩
def CT.at (c : CT) (who : Int) : List Int := if holds who = true then c.places[who.toNat]?.getD [] else []
theorem Places_calls (H : IsTab w a c F) (who : Int) :
    Calls Try.prog 30 #[.pointer (some ⟨a, 0, none⟩), .int .i64 who] w fun e w' => ∃ A cap, e = .returned (.slice A (c.at who).length cap) ∧ w'.ownsRow w.heap.size 3 1 (.slice A (c.at who).length cap) (c.at who).length ((c.at who).map intV) ∧ Kept [] w w' ∧ (c.at who).length ≤ 256 := by
  obtain ⟨r, pv, m, T, rfl⟩ := H
  unfold CT.at
  cases hh : holds who with
  | false =>
    simp only [Bool.false_eq_true, if_false]
    refine (places_out T.made hh).mono ?_
    rintro e w' ⟨rfl, rfl⟩
    exact ⟨none, 0, rfl, World.ownsRow_nil _ _ _ _, Kept.refl _ _, by simp⟩
  | true =>
    simp only [if_true]
    have hh' : 0 ≤ who ∧ who ≤ 16 := by simpa [holds] using hh
    obtain ⟨j, rfl⟩ : ∃ j : Nat, who = (j : Int) := ⟨who.toNat, by omega⟩
    have hj : j < 17 := by omega
    obtain ⟨v, l, hv, hl, hown⟩ := T.at hj
    obtain ⟨A, cp, rfl⟩ := own_slice hown
    rw [show ((j : Int)).toNat = j by omega, hl]
    simp only [Option.getD_some]
    have hfew := T.ok.pfew l (List.mem_of_getElem? hl)
    refine (places_in (R := fun v w' => ∃ A cap, v = .slice A l.length cap ∧ w'.ownsRow w.heap.size 3 1 (.slice A l.length cap) l.length (l.map intV) ∧ Kept [] w w') T.made hj (T.cellP hv) ((clone39 hown (by omega)).mono ?_)).mono ?_
    · rintro e w' ⟨A, cap, rfl, h1, h2⟩
      exact ⟨_, rfl, A, cap, rfl, h1, h2⟩
    · rintro e w' ⟨v, rfl, A, cap, rfl, h1, h2⟩
      exact ⟨A, cap, rfl, h1, h2, hfew⟩
end
set_option maxRecDepth 100000 in
theorem mapClone {w : World} {r : Nat} {m : List (Int × Hd)} (h : MapIs intV Hd.val w r m) :
    Calls Try.prog 38 #[.map (some r)] w fun e w' => e = .returned (.map (some w.heap.size)) ∧ MapIs intV Hd.val w' w.heap.size m ∧ Kept [] w w' := by
  obtain ⟨es, clk, hb, h1, h2, h3, h4⟩ := h
  have hq := fun w => run_eql_map_nil_sl (P := Try.prog) w 66 _ _ (some r) Try.underlying66
  go_enter Try.func38, Try.ntmps38
  go_wp2
  rw [run_callFunc_extern Try.func55 (by kernel_rfl) (by kernel_rfl) (by kernel_rfl) (e := Extern.MapsClone.clone) (by kernel_rfl), run_maps_clone_sl w 66 hb]
  simp only [Result.andThen]
  rw [Oper.upon_value]
  go_wp2
  rw [run_typeAssert_map_sl _ 66 20 _ _ _ Try.underlying66]
  simp only [Result.andThen]
  rw [Oper.upon_value]
  go_wp2
  go_ret
  refine ⟨rfl, ⟨es, clk, (MapKept.heap_alloc w _).1, h1, h2, h3, h4⟩, Kept.alloc _ _ _⟩
end Go.Proofs.Ytmndckeohfcgkaa
