/- The walk of Right of package cells; slices that are read. -/
import Derived.Test.YtlfaoibgmbbacaaKeep
namespace Go.Proofs.Ytlfaoibgmbbacaa
open Go.RowKit
open Go.ChangeMaps (setBlock)

/-- The slice value's cells, read one after the other. -/
def Reads (w : World) (A : Option Addr) (xs : List Value) : Prop :=
  xs = [] ∨ ∃ b off, A = some ⟨b, off, none⟩ ∧ ∀ j u, xs[j]? = some u → w.cell? ⟨b, off + j, none⟩ = some u
theorem Kept.reads {F : List Nat} {w w' : World} {A : Option Addr} {xs : List Value} (h : Kept F w w') (hr : Reads w A xs) (hn : ∀ b off, A = some ⟨b, off, none⟩ → b ∉ F) : Reads w' A xs := by
  rcases hr with rfl | ⟨b, off, rfl, hc⟩
  · exact .inl rfl
  · exact .inr ⟨b, off, rfl, fun j u hu => h.cell (hc j u hu) (hn b off rfl)⟩
theorem own_reads {w : World} {base n cap size : Nat} {e : TypeId} {A : Option Addr} {xs : List Value} (h : w.ownsRow base e size (.slice A n cap) n xs) : Reads w A xs := by
  rcases h.2 with ⟨hv, rfl⟩ | ⟨g, cap', cur, hv, hb, hg, h1, h2, h3, h4⟩
  · exact .inl (List.eq_nil_of_length_eq_zero (by simpa using h.1))
  · simp only [Value.slice.injEq, true_and] at hv
    obtain ⟨rfl, rfl⟩ := hv
    refine .inr ⟨g, 0, rfl, fun j u hu => ?_⟩
    rw [Nat.zero_add, (show Blk w g e cur from hg).cell j]
    rw [← h4, List.getElem?_take] at hu
    split at hu
    · simpa using hu
    · cases hu

def fits : Int → List Int → Bool
  | _, [] => true
  | left, n :: l => if n < 0 ∨ left < n then false else fits (left - n) l
def rightB (l : List Int) : Bool := fits 1024 l && decide ((l.length : Int) ≤ 16)
theorem fits_spec : ∀ (l : List Int) (left : Int), fits left l = true ↔ (∀ n ∈ l, 0 ≤ n) ∧ (l.sum ≤ left ∨ l = [])
  | [], left => by simp [fits]
  | n :: l, left => by
    have ih := fits_spec l (left - n)
    unfold fits
    have hs : (∀ n ∈ l, 0 ≤ n) → 0 ≤ l.sum := fun h => by
      clear ih
      induction l with
      | nil => simp
      | cons a l ih => simp only [List.sum_cons]; have := h a (by simp); have := ih (fun b hb => h b (by simp [hb])); omega
    split
    · rename_i h
      simp only [Bool.false_eq_true, List.mem_cons, List.sum_cons, reduceCtorEq, or_false, false_iff, not_and]
      intro hall hle
      have h1 := hall n (.inl rfl)
      have h2 := hs fun m hm => hall m (.inr hm)
      omega
    · rename_i h
      rw [ih]
      simp only [List.mem_cons, List.sum_cons, reduceCtorEq, or_false]
      constructor
      · rintro ⟨h1, h2⟩
        refine ⟨fun m hm => ?_, ?_⟩
        · rcases hm with rfl | hm
          · omega
          · exact h1 m hm
        · rcases h2 with h2 | rfl
          · omega
          · simp; omega
      · rintro ⟨h1, h2⟩
        exact ⟨fun m hm => h1 m (.inr hm), .inl (by omega)⟩

theorem fits_drop {l : List Int} {k : Nat} {n left : Int} (h : l[k]? = some n) : fits left (l.drop k) = if n < 0 ∨ left < n then false else fits (left - n) (l.drop (k + 1)) := by
  obtain ⟨hk, rfl⟩ := List.getElem?_eq_some_iff.1 h
  rw [List.drop_eq_getElem_cons hk]
  rfl

set_option maxHeartbeats 400000 in
theorem Right_calls {w : World} {A : Option Addr} {c : Nat} {l : List Int} (hr : Reads w A (l.map numV)) (hn : l.length ≤ maxLen) :
    Calls Try.prog 27 #[.slice A l.length c] w fun e w' => e = .returned (.bool (rightB l)) ∧ w = w' := by
  unfold maxLen at hn
  have HR := Lib.hid hr
  clear hr
  go_enter Try.func27, Try.ntmps27
  go_wp2
  go_loop [3, 8] (fun left i => ∃ (k : Nat) (x : Int), k ≤ l.length ∧ i = .int .i64 k ∧ left = .int .i64 x ∧ 0 ≤ x ∧ x ≤ 1024 ∧ fits 1024 l = fits x (l.drop k)) (fun _ i => l.length - (intOf i).toNat)
  case atStart => exact ⟨0, 1024, Nat.zero_le _, rfl, rfl, by omega, by omega, rfl⟩
  case round =>
    obtain ⟨k, x, hk, rfl, rfl, hx0, hx1, hf⟩ := hrel
    by_cases hlt : k < l.length
    · obtain ⟨n, hgn⟩ : ∃ n, l[k]? = some n := ⟨_, List.getElem?_eq_getElem hlt⟩
      obtain ⟨b, off, rfl, hc⟩ := HR.out.resolve_left (by intro e; simp at e; subst e; simp at hlt)
      have hck := hc k (numV n) (by simp [hgn])
      simp only [numV] at hck
      rw [fits_drop hgn] at hf
      have HF := Lib.hid hf
      have HG := Lib.hid hgn
      clear hc hf hgn
      by_cases h1 : n < 0
      · go_wp2
        go_ret
        have : rightB l = false := by
          unfold rightB
          rw [HF.out, if_pos (.inl h1)]
          rfl
        exact ⟨by rw [this]; rfl, rfl⟩
      · by_cases h2 : x < n
        · go_wp2
          go_ret
          have : rightB l = false := by
            unfold rightB
            rw [HF.out, if_pos (.inr h2)]
            rfl
          exact ⟨by rw [this]; rfl, rfl⟩
        · go_wp2
          go_round
          case rel => exact ⟨k + 1, x - n, by omega, by go_num, rfl, by omega, by omega, by rw [HF.out, if_neg (by omega)]⟩
          case measure => simp [intOf]; omega
    · go_wp2
      go_ret
      have : rightB l = decide ((l.length : Int) ≤ 16) := by
        unfold rightB
        rw [hf, List.drop_eq_nil_of_le (by omega)]
        simp [fits]
      exact ⟨by rw [this]; rfl, rfl⟩
end Go.Proofs.Ytlfaoibgmbbacaa
