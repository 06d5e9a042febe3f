/- What the laws' arguments read as: a slice of Act. -/
import Derived.Test.YtlfaoibgmbbacaaArgs
import Derived.Test.YtlfaoibgmbbacaaActsKit
namespace Go.Proofs.Ytlfaoibgmbbacaa
open Go.ChangeShapes Go.WideShapes Go.ChangeAt Go.RowKit Go.Deep
def actFields : Array Field := #[{ name := "Kind", type := 5, offset := 0, embedded := false, tag := "", pkgPath := "", byteOffset := 0 }, { name := "Owner", type := 3, offset := 1, embedded := false, tag := "", pkgPath := "", byteOffset := 8 }, { name := "Index", type := 3, offset := 2, embedded := false, tag := "", pkgPath := "", byteOffset := 16 }, { name := "Value", type := 2, offset := 3, embedded := false, tag := "", pkgPath := "", byteOffset := 24 }]
theorem act_under : Try.prog.underlying 59 = some (.struct actFields) := by kernel_rfl
theorem flatA_get' {l : List AC} {j : Nat} {u : Value} (h : (flatA l)[j]? = some u) : ∃ x, l[j / 4]? = some x ∧ (acV x)[j % 4]? = some u := by
  have hlt : j < l.length * 4 := by rw [← flatA_len]; exact (List.getElem?_eq_some_iff.1 h).1
  have hx : l[j / 4]? = some (l[j / 4]'(by omega)) := List.getElem?_eq_getElem (by omega)
  refine ⟨_, hx, ?_⟩
  have hm : j % 4 < (acV (l[j / 4]'(by omega))).length := by simp [acV]; omega
  have hu := List.getElem?_eq_getElem hm
  have := flatA_get hx (i := j % 4) (by omega) hu
  have e : j / 4 * 4 + j % 4 = j := by omega
  rw [e, h] at this
  rw [hu, ← this]

theorem open_acts {H : Type} {enc : TypeId × Value → H} {W : World} {base : Nat} {spare : Nat → Bool} {held : Bool} {A : Option Addr} {len cap : Nat} {d : DataW H} {p : List MemPlace}
    (h : DataW.Trod enc Try.prog W base spare held 56 (.slice A len cap) d p) :
    ∃ l : List AC, len = l.length ∧ Reads W A (flatA l) ∧ (∀ x ∈ l, x.ok) ∧ l.length ≤ maxLen ∧ l.length ≤ cap := by
  obtain ⟨fuel, hf⟩ := h
  rcases open_slice_fields' Try.underlying56 act_under (by kernel_rfl) (by kernel_rfl) hf with hcs | ⟨a, l, c, hcs, hl, hm, hi⟩
  · simp [Value.cells] at hcs
    obtain ⟨rfl, rfl, rfl⟩ := hcs
    exact ⟨[], rfl, .inl rfl, by simp, by simp, by simp⟩
  · simp [Value.cells] at hcs
    obtain ⟨rfl, rfl, rfl⟩ := hcs
    have hu8 : ∀ i, i < len → ∀ j, j = 0 → ∃ n : Nat, n < 256 ∧ W.cell? (a.add (i * 4 + j)) = some (.int .u8 (n : Int)) := by
      intro i hil j hj
      obtain ⟨n, hn⟩ := hi i hil
      have : ∃ f, actFields[j]? = some f ∧ f.type = 5 := by
        subst hj
        exact ⟨_, rfl, rfl⟩
      obtain ⟨f, hf1, hf2⟩ := this
      obtain ⟨v, y, hc, ht⟩ := hn j f hf1
      rw [hf2] at ht
      obtain ⟨x, hx1, hx2, wx⟩ := DataW.trod_int Try.underlying5 ht
      simp only [List.cons.injEq, and_true] at hx1
      have hb : 0 ≤ x ∧ x < 256 := by
        have := bounds_u8 wx
        omega
      refine ⟨x.toNat, by omega, ?_⟩
      rw [show ((x.toNat : Nat) : Int) = x from by omega, ← hx1]
      exact hc
    have hint : ∀ i, i < len → ∀ j, j = 1 ∨ j = 2 → ∃ n : Int, W.cell? (a.add (i * 4 + j)) = some (.int .i64 n) := by
      intro i hil j hj
      obtain ⟨n, hn⟩ := hi i hil
      have : ∃ f, actFields[j]? = some f ∧ f.type = 3 := by
        rcases hj with rfl | rfl
        · exact ⟨_, rfl, rfl⟩
        · exact ⟨_, rfl, rfl⟩
      obtain ⟨f, hf1, hf2⟩ := this
      obtain ⟨v, y, hc, ht⟩ := hn j f hf1
      rw [hf2] at ht
      obtain ⟨x, hx1, hx2, wx⟩ := DataW.trod_int Try.underlying3 ht
      simp only [List.cons.injEq, and_true] at hx1
      refine ⟨x, ?_⟩
      rw [← hx1]
      exact hc
    have h64 : ∀ i, i < len → ∃ n : Int, W.cell? (a.add (i * 4 + 3)) = some (.int .i64 n) := by
      intro i hil
      obtain ⟨n, hn⟩ := hi i hil
      obtain ⟨v, y, hc, ht⟩ := hn 3 _ rfl
      obtain ⟨x, hx1, hx2, wx⟩ := DataW.trod_int Try.underlying2 ht
      simp only [List.cons.injEq, and_true] at hx1
      refine ⟨x, ?_⟩
      rw [← hx1]
      exact hc
    have hch : ∃ f : Nat → AC, ∀ i, i < len → (f i).ok ∧ ∀ j u, (acV (f i))[j]? = some u → W.cell? (a.add (i * 4 + j)) = some u := by
      have : ∀ i, ∃ x : AC, i < len → x.ok ∧ ∀ j u, (acV x)[j]? = some u → W.cell? (a.add (i * 4 + j)) = some u := by
        intro i
        by_cases hil : i < len
        · obtain ⟨n0, b0, e0⟩ := hu8 i hil 0 rfl
          obtain ⟨n1, e1⟩ := hint i hil 1 (.inl rfl)
          obtain ⟨n2, e2⟩ := hint i hil 2 (.inr rfl)
          obtain ⟨n3, e3⟩ := h64 i hil
          refine ⟨⟨n0, n1, n2, n3⟩, fun _ => ⟨b0, fun j u hu => ?_⟩⟩
          match j, hu with
          | 0, hu => simp [acV] at hu; subst hu; exact e0
          | 1, hu => simp [acV] at hu; subst hu; exact e1
          | 2, hu => simp [acV] at hu; subst hu; exact e2
          | 3, hu => simp [acV] at hu; subst hu; exact e3
          | j + 4, hu => simp [acV] at hu
        · exact ⟨⟨0, 0, 0, 0⟩, fun h => absurd h hil⟩
      exact ⟨fun i => (this i).choose, fun i => (this i).choose_spec⟩
    obtain ⟨f, hf⟩ := hch
    refine ⟨(List.range len).map f, by simp, ?_, ?_, by simp; omega, by simpa using hl⟩
    · by_cases h0 : len = 0
      · left
        subst h0
        rfl
      · right
        obtain ⟨b, off, spot⟩ := a
        obtain ⟨n, _, hc⟩ := hu8 0 (by omega) 0 rfl
        have hspot : spot = none := by simpa [Addr.add] using World.cell?_spot hc
        subst hspot
        refine ⟨b, off, rfl, fun j u hu => ?_⟩
        obtain ⟨x, hx1, hx2⟩ := flatA_get' hu
        simp only [List.getElem?_map] at hx1
        obtain ⟨i, hi1, rfl⟩ := Option.map_eq_some_iff.1 hx1
        have hi2 := List.getElem?_eq_some_iff.1 hi1
        simp only [List.length_range, List.getElem_range] at hi2
        obtain ⟨hi3, rfl⟩ := hi2
        have := (hf _ hi3).2 _ _ hx2
        have e : j / 4 * 4 + j % 4 = j := by omega
        rw [e] at this
        have hadd : (⟨b, off, none⟩ : Addr).add j = ⟨b, off + j, none⟩ := by unfold Addr.add; split <;> simp_all
        rwa [hadd] at this
    · intro x hx
      obtain ⟨i, hi1, rfl⟩ := List.mem_map.1 hx
      exact (hf i (List.mem_range.1 hi1)).1
theorem open_nums {H : Type} {enc : TypeId × Value → H} {W : World} {base : Nat} {spare : Nat → Bool} {held : Bool} {A : Option Addr} {len cap : Nat} {d : DataW H} {p : List MemPlace}
    (h : DataW.Trod enc Try.prog W base spare held 44 (.slice A len cap) d p) :
    ∃ l : List Int, len = l.length ∧ Reads W A (l.map numV) ∧ l.length ≤ maxLen ∧ l.length ≤ cap ∧ (l = [] ∨ ∃ elems sp, d = .slice elems sp ∧ elems.length = l.length) := by
  obtain ⟨fuel, hf⟩ := h
  rcases open_ints Try.underlying44 Try.underlying3 (by kernel_rfl) hf with ⟨hcs, hx⟩ | ⟨a, len', cap', zs, hcs, _, hl, hm, hz, hx, hcell, _⟩
  · simp [Value.cells] at hcs
    obtain ⟨rfl, rfl, rfl⟩ := hcs
    exact ⟨[], rfl, .inl rfl, by simp, by simp, .inl rfl⟩
  · simp [Value.cells] at hcs
    obtain ⟨rfl, rfl, rfl⟩ := hcs
    simp only [Prod.mk.injEq] at hx
    obtain ⟨rfl, rfl⟩ := hx
    have hzl : len ≤ zs.length := by rw [hz]; split <;> omega
    have htl : (zs.take len).length = len := by rw [List.length_take]; omega
    refine ⟨zs.take len, htl.symm, ?_, by omega, by omega, .inr ⟨_, _, rfl, by simp [lits]⟩⟩
    by_cases h0 : len = 0
    · left
      subst h0
      rfl
    · right
      obtain ⟨b, off, spot⟩ := a
      have hspot : spot = none := by simpa [Addr.add] using World.cell?_spot (hcell 0 (by omega))
      subst hspot
      refine ⟨b, off, rfl, fun j u hu => ?_⟩
      rw [List.getElem?_map] at hu
      obtain ⟨y, hy, rfl⟩ := Option.map_eq_some_iff.1 hu
      have hjl : j < len := by have := (List.getElem?_eq_some_iff.1 hy).1; omega
      rw [List.getElem?_take_of_lt hjl] at hy
      have := hcell j (by omega)
      rw [List.getD_eq_getElem?_getD, hy] at this
      have hadd : (⟨b, off, none⟩ : Addr).add j = ⟨b, off + j, none⟩ := by unfold Addr.add; split <;> simp_all
      rwa [hadd] at this
end Go.Proofs.Ytlfaoibgmbbacaa
