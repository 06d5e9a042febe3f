/- What the laws' arguments read as: a slice of Small; and the rows' frame. -/
import Derived.Test.YtlfaoibgmbbacaaRows
import Derived.Test.YtlfaoibgmbbacaaDo
import Derived.WalkKit
import Derived.ProofKit
import Derived.OpenShut
import Derived.ShutString
import Derived.ChangeOld
import Derived.Below
import Derived.Deep.Slices
import Derived.Deep.Fields
import Derived.ChangeSame
namespace Go.Proofs.Ytlfaoibgmbbacaa
open Go.ChangeShapes Go.WideShapes Go.ChangeAt Go.RowKit Go.Deep
open Go.ChangeMaps (open_string shut_string)

theorem own_knob : ownKnob Try.prog.godebug = none := by kernel_rfl
theorem laid_out : laidOutB Try.prog = true := by kernel_rfl

section
variable {H : Type} {enc : TypeId × Value → H} {P : Program} {w : World} {base : Nat} {spare : Nat → Bool} {held : Bool}
theorem open_slice_fields' {t e : TypeId} {fs : Array Field} {fuel : Nat} {cs : List Value} {x : DataW H × List MemPlace} (ht : P.underlying t = some (.slice e)) (he : P.underlying e = some (.struct fs))
    (hone : oneCellFields P fs = true) (hC : P.cellsOf e = fs.size) (h : DataW.trod enc P w base spare held fuel t cs = some x) :
    (cs = [.slice none 0 0]) ∨
    ∃ (a : Addr) (len cap : Nat), cs = [.slice (some a) len cap] ∧ len ≤ cap ∧ cap ≤ maxLen ∧
      ∀ i, i < len → ∃ (n : Nat), ∀ (j : Nat) (f : Field), fs[j]? = some f → ∃ (v : Value) (y : DataW H × List MemPlace), w.cell? (a.add (i * fs.size + j)) = some v ∧ DataW.trod enc P w base spare held n f.type [v] = some y := by
  rcases open_slice ht h with h0 | ⟨a, len, cap, m, n, D, Pl, hcs, hb, hl, hm, hmm, hx, hi⟩
  · exact .inl h0.1
  · refine .inr ⟨a, len, cap, hcs, hl, hm, fun i hil => ?_⟩
    have him : i < m := by rw [hmm]; split <;> omega
    obtain ⟨cs', hc, ht'⟩ := hi i him
    rw [hC] at hc
    obtain ⟨ys, n', hn', hy, hlen, hyl, hf⟩ := DataW.trod_struct he ht'
    obtain ⟨_, hcl, hat⟩ := World.cells?_some hc
    refine ⟨n', fun j f hj => ?_⟩
    obtain ⟨ho, hk⟩ := hone_of hone j f hj
    have hjl : j < fs.size := (Array.getElem?_eq_some_iff.1 hj).1
    have hcell := hat j hjl
    have hv : cs'[j]? = some (cs'[j]'(by omega)) := List.getElem?_eq_getElem (by omega)
    have h1 := hf j f hj
    rw [ho, hk] at h1
    have hone' : (cs'.drop j).take 1 = [cs'[j]'(by omega)] := by
      rw [List.drop_eq_getElem_cons (by omega)]
      rfl
    rw [hone'] at h1
    have hys : ys[j]? = some (ys[j]'(by omega)) := List.getElem?_eq_getElem (by omega)
    refine ⟨_, _, ?_, h1.trans hys⟩
    rw [← Go.Deep.add_add, hcell, hv]
end

def smFields : Array Field := #[{ name := "Kind", type := 5, offset := 0, embedded := false, tag := "", pkgPath := "", byteOffset := 0 }, { name := "Cell", type := 5, offset := 1, embedded := false, tag := "", pkgPath := "", byteOffset := 1 }, { name := "Value", type := 5, offset := 2, embedded := false, tag := "", pkgPath := "", byteOffset := 2 }]
theorem sm_under : Try.prog.underlying 68 = some (.struct smFields) := by kernel_rfl

theorem flatS_get' {l : List Sm} {j : Nat} {u : Value} (h : (flatS l)[j]? = some u) : ∃ x, l[j / 3]? = some x ∧ (smV x)[j % 3]? = some u := by
  have hlt : j < l.length * 3 := by rw [← flatS_len]; exact (List.getElem?_eq_some_iff.1 h).1
  have hx : l[j / 3]? = some (l[j / 3]'(by omega)) := List.getElem?_eq_getElem (by omega)
  refine ⟨_, hx, ?_⟩
  have hm : j % 3 < (smV (l[j / 3]'(by omega))).length := by simp [smV]; omega
  have hu := List.getElem?_eq_getElem hm
  have := flatS_get hx (i := j % 3) (by omega) hu
  have e : j / 3 * 3 + j % 3 = j := by omega
  rw [e, h] at this
  rw [hu, ← this]

theorem open_smalls {H : Type} {enc : TypeId × Value → H} {W : World} {base : Nat} {spare : Nat → Bool} {held : Bool} {A : Option Addr} {len cap : Nat} {d : DataW H} {p : List MemPlace}
    (h : DataW.Trod enc Try.prog W base spare held 22 (.slice A len cap) d p) :
    ∃ l : List Sm, len = l.length ∧ Reads W A (flatS l) ∧ (∀ x ∈ l, x.ok) ∧ l.length ≤ maxLen ∧ l.length ≤ cap := by
  obtain ⟨fuel, hf⟩ := h
  rcases open_slice_fields' Try.underlying22 sm_under (by kernel_rfl) (by kernel_rfl) hf with hcs | ⟨a, l, c, hcs, hl, hm, hi⟩
  · simp [Value.cells] at hcs
    obtain ⟨rfl, rfl, rfl⟩ := hcs
    exact ⟨[], rfl, .inl rfl, by simp, by simp, by simp⟩
  · simp [Value.cells] at hcs
    obtain ⟨rfl, rfl, rfl⟩ := hcs
    have hcell : ∀ i, i < len → ∀ j, j < 3 → ∃ n : Nat, n < 256 ∧ W.cell? (a.add (i * 3 + j)) = some (.int .u8 (n : Int)) := by
      intro i hil j hj
      obtain ⟨n, hn⟩ := hi i hil
      have : ∃ f, smFields[j]? = some f ∧ f.type = 5 := by
        match j, hj with
        | 0, _ => exact ⟨_, rfl, rfl⟩
        | 1, _ => exact ⟨_, rfl, rfl⟩
        | 2, _ => exact ⟨_, rfl, rfl⟩
      obtain ⟨f, hf1, hf2⟩ := this
      obtain ⟨v, y, hc, ht⟩ := hn j f hf1
      rw [hf2] at ht
      obtain ⟨x, hx1, hx2, wx⟩ := DataW.trod_int Try.underlying5 ht
      simp only [List.cons.injEq, and_true] at hx1
      have hb : 0 ≤ x ∧ x < 256 := by
        have := bounds_u8 wx
        omega
      refine ⟨x.toNat, by omega, ?_⟩
      rw [show ((x.toNat : Nat) : Int) = x from by omega, ← hx1]
      exact hc
    have hch : ∃ f : Nat → Sm, ∀ i, i < len → (f i).ok ∧ ∀ j u, (smV (f i))[j]? = some u → W.cell? (a.add (i * 3 + j)) = some u := by
      have : ∀ i, ∃ x : Sm, i < len → x.ok ∧ ∀ j u, (smV x)[j]? = some u → W.cell? (a.add (i * 3 + j)) = some u := by
        intro i
        by_cases hil : i < len
        · obtain ⟨n0, b0, e0⟩ := hcell i hil 0 (by omega)
          obtain ⟨n1, b1, e1⟩ := hcell i hil 1 (by omega)
          obtain ⟨n2, b2, e2⟩ := hcell i hil 2 (by omega)
          refine ⟨⟨n0, n1, n2⟩, fun _ => ⟨⟨b0, b1, b2⟩, fun j u hu => ?_⟩⟩
          match j, hu with
          | 0, hu => simp [smV] at hu; subst hu; exact e0
          | 1, hu => simp [smV] at hu; subst hu; exact e1
          | 2, hu => simp [smV] at hu; subst hu; exact e2
          | j + 3, hu => simp [smV] at hu
        · exact ⟨⟨0, 0, 0⟩, fun h => absurd h hil⟩
      exact ⟨fun i => (this i).choose, fun i => (this i).choose_spec⟩
    obtain ⟨f, hf⟩ := hch
    refine ⟨(List.range len).map f, by simp, ?_, ?_, by simp; omega, by simpa using hl⟩
    · by_cases h0 : len = 0
      · left
        subst h0
        rfl
      · right
        obtain ⟨b, off, spot⟩ := a
        obtain ⟨n, _, hc⟩ := hcell 0 (by omega) 0 (by omega)
        have hspot : spot = none := by simpa [Addr.add] using World.cell?_spot hc
        subst hspot
        refine ⟨b, off, rfl, fun j u hu => ?_⟩
        obtain ⟨x, hx1, hx2⟩ := flatS_get' hu
        simp only [List.getElem?_map] at hx1
        obtain ⟨i, hi1, rfl⟩ := Option.map_eq_some_iff.1 hx1
        have hi2 := List.getElem?_eq_some_iff.1 hi1
        simp only [List.length_range, List.getElem_range] at hi2
        obtain ⟨hi3, rfl⟩ := hi2
        have := (hf _ hi3).2 _ _ hx2
        have e : j / 3 * 3 + j % 3 = j := by omega
        rw [e] at this
        have hadd : (⟨b, off, none⟩ : Addr).add j = ⟨b, off + j, none⟩ := by unfold Addr.add; split <;> simp_all
        rwa [hadd] at this
    · intro x hx
      obtain ⟨i, hi1, rfl⟩ := List.mem_map.1 hx
      exact (hf i (List.mem_range.1 hi1)).1
end Go.Proofs.Ytlfaoibgmbbacaa
