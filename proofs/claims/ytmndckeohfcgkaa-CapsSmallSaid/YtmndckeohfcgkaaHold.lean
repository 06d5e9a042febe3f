/- Cells that are only read: rows that several values may share. -/
import Derived.Test.YtmndckeohfcgkaaRel
namespace Go.Proofs.Ytmndckeohfcgkaa
open Go.RowKit
def Res.rds (L : List (Option Addr × List Value)) : Res where
  on w F := (∀ b ∈ F, b < w.heap.size) ∧ ∀ p ∈ L, p.2 = [] ∨ ∃ b off, p.1 = some ⟨b, off, none⟩ ∧ b ∈ F ∧ ∀ j u, p.2[j]? = some u → w.cell? ⟨b, off + j, none⟩ = some u
  framed h hk hd := ⟨fun b hb => Nat.lt_of_lt_of_le (h.1 b hb) hk.size, fun p hp => (h.2 p hp).imp id fun ⟨b, off, e, hb, hc⟩ => ⟨b, off, e, hb, fun j u hj => hk.cell (hc j u hj) (hd b hb)⟩⟩
  lt h b hb := h.1 b hb
section
variable {w0 w w' : World} {rs : List Res} {L L' : List (Option Addr × List Value)}
theorem St.rdsNil (h : St w0 w rs) : St w0 w (.rds [] :: rs) :=
  h.new (R := .rds []) (G := []) (Kept.refl _ _) ⟨by simp, by simp⟩ (by simp)
theorem St.rdsReads (h : St w0 w (.rds L :: rs)) {A : Option Addr} {xs : List Value} (hp : (A, xs) ∈ L) : Reads w A xs := by
  obtain ⟨F, _, h2⟩ := h.at
  rcases h2 _ hp with h | ⟨b, off, e, _, hc⟩
  · exact .inl h
  · exact .inr ⟨b, off, e, hc⟩
theorem St.rdsSub (h : St w0 w (.rds L :: rs)) (hs : ∀ p ∈ L', p ∈ L) : St w0 w (.rds L' :: rs) := by
  obtain ⟨F1, ⟨h1, h2⟩, h3⟩ := h.head
  exact h3 (R' := .rds L') ⟨h1, fun p hp => h2 p (hs p hp)⟩ (Kept.refl _ _) fun b hb => .inl hb
theorem St.rdsAdd {A : Option Addr} {n cap size : Nat} {e : TypeId} {xs : List Value} (h : St w0 w (.row (.slice A n cap) e size n xs :: .rds L :: rs)) : St w0 w (.rds ((A, xs) :: L) :: rs) := by
  obtain ⟨hk, F, ⟨F1, F2, h1, ⟨F3, F4, ⟨h3, h3'⟩, h4, h5, rfl⟩, h6, rfl⟩, hF⟩ := h
  refine ⟨hk, (F1 ++ F3) ++ F4, ⟨F1 ++ F3, F4, ⟨fun b hb => ?_, fun p hp => ?_⟩, h4, fun b hb hb2 => ?_, rfl⟩, fun b hb => hF b (by simpa using hb)⟩
  · rcases List.mem_append.1 hb with hb | hb
    · exact (Res.row (.slice A n cap) e size n xs).lt h1 b hb
    · exact h3 b hb
  · rcases List.mem_cons.1 hp with rfl | hp
    · obtain ⟨ho, rfl⟩ := h1
      rcases own_reads ho with h0 | ⟨b, off, rfl, hc⟩
      · exact .inl h0
      · rcases ho.2 with ⟨hv, rfl⟩ | ⟨g, cap', cur, hv, _⟩
        · simp at hv
        · simp only [Value.slice.injEq, Option.some.injEq, Addr.mk.injEq, true_and, and_true] at hv
          obtain ⟨⟨rfl, rfl⟩, rfl⟩ := hv
          exact .inr ⟨b, 0, rfl, by simp [Value.ownBlock], hc⟩
    · rcases h3' p hp with h0 | ⟨b, off, e, hb, hc⟩
      · exact .inl h0
      · exact .inr ⟨b, off, e, by simp [hb], hc⟩
  · rcases List.mem_append.1 hb with hb | hb
    · exact h6 b hb (by simp [hb2])
    · exact h5 b hb hb2
theorem St.isTab {a : Nat} {c : CT} (h : St w0 w (.tab a c :: rs)) : ∃ F, IsTab w a c F := h.at
end
end Go.Proofs.Ytmndckeohfcgkaa
