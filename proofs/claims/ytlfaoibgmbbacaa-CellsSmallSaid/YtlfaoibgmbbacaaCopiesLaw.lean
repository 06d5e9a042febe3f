/- The walk of CellsCopies. -/
import Derived.Test.YtlfaoibgmbbacaaMore
import Derived.Test.YtlfaoibgmbbacaaCopy
namespace Go.Proofs.Ytlfaoibgmbbacaa
open Go.RowKit

theorem Sep.perm {w : World} {rs rs' : List Res} (p : rs.Perm rs') : ∀ {F : List Nat}, Sep w rs F → ∃ F', Sep w rs' F' ∧ ∀ b, b ∈ F' ↔ b ∈ F := by
  induction p with
  | nil => exact fun h => ⟨_, h, fun _ => Iff.rfl⟩
  | cons x _ ih =>
    rintro F ⟨F1, F2, h1, h2, h3, rfl⟩
    obtain ⟨F', h4, h5⟩ := ih h2
    exact ⟨F1 ++ F', ⟨F1, F', h1, h4, fun b hb hb2 => h3 b hb ((h5 b).1 hb2), rfl⟩, fun b => by simp [h5]⟩
  | swap x y l =>
    rintro F ⟨F1, F2, h1, ⟨F3, F4, h3, h4, h5, rfl⟩, h6, rfl⟩
    refine ⟨F3 ++ (F1 ++ F4), ⟨F3, F1 ++ F4, h3, ⟨F1, F4, h1, h4, fun b hb hb2 => h6 b hb (by simp [hb2]), rfl⟩, fun b hb hb2 => ?_, rfl⟩, fun b => ?_⟩
    · rcases List.mem_append.1 hb2 with hb2 | hb2
      · exact h6 b hb2 (by simp [hb])
      · exact h5 b hb hb2
    · simp only [List.mem_append]
      constructor
      · rintro (h | h | h)
        · exact .inr (.inl h)
        · exact .inl h
        · exact .inr (.inr h)
      · rintro (h | h | h)
        · exact .inr (.inl h)
        · exact .inl h
        · exact .inr (.inr h)
  | trans _ _ ih1 ih2 =>
    intro F h
    obtain ⟨F', h1, h2⟩ := ih1 h
    obtain ⟨F'', h3, h4⟩ := ih2 h1
    exact ⟨F'', h3, fun b => (h4 b).trans (h2 b)⟩
theorem St.perm {w0 w : World} {rs rs' : List Res} (h : St w0 w rs) (p : rs.Perm rs') : St w0 w rs' := by
  obtain ⟨hk, F, h1, hF⟩ := h
  obtain ⟨F', h2, h3⟩ := h1.perm p
  exact ⟨hk, F', h2, fun b hb => hF b ((h3 b).1 hb)⟩
theorem perm_nth : ∀ {rs : List Res} {R : Res} (i : Nat), rs[i]? = some R → rs.Perm (R :: rs.eraseIdx i)
  | [], _, _, h => by simp at h
  | r :: rs, R, 0, h => by
    simp only [List.getElem?_cons_zero, Option.some.injEq] at h
    subst h
    exact List.Perm.refl _
  | r :: rs, R, i + 1, h => by
    simp only [List.getElem?_cons_succ] at h
    exact (List.Perm.cons r (perm_nth i h)).trans (List.Perm.swap R r _)
/-- The thing at place i comes to the head. -/
theorem St.nth {w0 w : World} {rs : List Res} {R : Res} (h : St w0 w rs) (i : Nat) (hi : rs[i]? = some R) : St w0 w (R :: rs.eraseIdx i) := h.perm (perm_nth i hi)
theorem St.copy {w0 w : World} {rs : List Res} {a : Nat} {c : CM} (h : St w0 w (.mem a c :: rs)) :
    Calls Try.prog 30 #[.pointer (some ⟨a, 0, none⟩)] w fun e w' => ∃ a', e = .returned (.pointer (some ⟨a', 0, none⟩)) ∧ St w0 w' (.mem a' c :: .mem a c :: rs) := by
  obtain ⟨F, h1⟩ := h.at
  refine (Copy_calls h1).mono ?_
  rintro e w' ⟨a', F', rfl, h2, h3, h4⟩
  exact ⟨a', rfl, h.new (R := .mem a' c) h3 h2 h4⟩
/-- Two slices of nine values held against each other. -/
theorem equal9 {w : World} {A B : Option Addr} {c d : Nat} {n : List (List Int)} (hA : Reads w A (n.flatten.map numV)) (hB : Reads w B (n.flatten.map numV)) (hn : Four n) :
    Calls Try.prog 18 #[.slice A 9 c, .slice B 9 d] w fun e w' => e = .returned (.bool true) ∧ Kept [] w w' := by
  have e9 := hn.flat9
  have h := equal18 (c := c) (d := d) hA hB (by rw [e9]; decide) (by rw [e9]; decide)
  rw [e9, decide_eq_true rfl] at h
  exact h

set_option maxRecDepth 100000 in
set_option maxHeartbeats 4000000 in
theorem cellsCopies_calls {w : World} {A B : Option Addr} {cA cB : Nat} {l more : List Sm} (hA : Reads w A (flatS l)) (hB : Reads w B (flatS more)) (lA : ∀ x ∈ l, x.ok) (lB : ∀ x ∈ more, x.ok)
    (nA : l.length ≤ maxLen) (nB : more.length ≤ maxLen) (kA : l.length ≤ cA) (kB : more.length ≤ cB) :
    Calls Try.prog 9 #[.slice A l.length cA, .slice B more.length cB] w fun e w' => e = .returned (.bool true) ∧ Kept [] w w' := by
  have HA := Lib.hid hA
  have HB := Lib.hid hB
  have LA := Lib.hid lA
  have LB := Lib.hid lB
  have NA := Lib.hid nA
  have NB := Lib.hid nB
  have KA := Lib.hid kA
  have KB := Lib.hid kB
  clear hA hB lA lB nA nB kA kB
  go_enter Try.func9, Try.ntmps9
  go_wp2_with fail
  refine (awake_calls w).mono ?_
  rintro e w1 ⟨rfl, hk⟩
  have K1 := Lib.hid hk
  clear hk
  go_wp2_with fail
  refine (Made_calls w1).mono ?_
  rintro e w2 ⟨a, rfl, hs⟩
  have S0 : Hid (St w w2 [.mem a c0]) := hs.from K1.out
  clear hs
  go_wp2_with fail
  refine (do_calls S0.out c0_ok HA.out LA.out NA.out KA.out true 0).mono ?_
  rintro e w3 ⟨rfl, hs⟩
  have ok1 := doAll_ok c0_ok true 0 (l.take 60)
  generalize doAll true 0 c0 (l.take 60) = c1 at hs ok1
  have OK1 := Lib.hid ok1
  have FR : Hid (Four c1.now) := ok1.1
  have S1 := Lib.hid hs
  clear hs ok1 S0
  go_wp2_with fail
  refine S1.out.copy.mono ?_
  rintro e w4 ⟨a2, rfl, hs⟩
  have S2 := Lib.hid hs
  clear hs S1
  -- all(c), all(m), Equal
  go_wp2_with fail
  refine (all9 S2.out FR.out).mono ?_
  rintro e w5 ⟨A1, p1, rfl, hs⟩
  have S3 := Lib.hid hs.third
  clear hs S2
  go_wp2_with fail
  refine (all9 S3.out FR.out).mono ?_
  rintro e w6 ⟨A2, p2, rfl, hs⟩
  have S4 := Lib.hid hs
  clear hs S3
  go_wp2_with fail
  refine (equal9 (own_reads S4.out.drop.drop.drop.row) (own_reads S4.out.swap.row) FR.out).mono ?_
  rintro e w7 ⟨rfl, hk⟩
  have S5 := Lib.hid ((S4.out.swap.drop.kept hk).third.drop)
  clear hk S4
  -- the marks
  go_wp2_with fail
  refine S5.out.swap.marks.mono ?_
  rintro e w' ⟨rfl, rfl⟩
  go_wp2_with fail
  refine S5.out.marks.mono ?_
  rintro e w' ⟨rfl, rfl⟩
  -- the changes
  generalize hch : c1.changes = ch
  have HCH := Lib.hid hch
  clear hch
  go_wp2_with fail
  refine (S5.out.swap.changes HCH.out).mono ?_
  rintro e w8 ⟨A3, p3, rfl, hs⟩
  have S6 := Lib.hid hs.third
  clear hs S5
  go_wp2_with fail
  refine (S6.out.changes HCH.out).mono ?_
  rintro e w9 ⟨A4, p4, rfl, hs⟩
  have S7 := Lib.hid hs
  clear hs S6
  have hle : ch.length ≤ maxLen := HCH.out ▸ S7.out.changes_le
  have HLE := Lib.hid hle
  clear hle
  go_wp2_with fail
  refine (same19 (own_reads S7.out.drop.drop.drop.row) (own_reads S7.out.swap.row) HLE.out).mono ?_
  rintro e w10 ⟨rfl, hk⟩
  have S8 := Lib.hid ((S7.out.swap.drop.kept hk).third.drop)
  clear hk S7
  -- was, marks, changes
  go_wp2_with fail
  refine (all9 S8.out FR.out).mono ?_
  rintro e w11 ⟨A5, p5, rfl, hs⟩
  have S9 := Lib.hid hs
  clear hs S8
  go_wp2_with fail
  refine S9.out.marks.mono ?_
  rintro e w' ⟨rfl, rfl⟩
  go_wp2_with fail
  refine (S9.out.changes HCH.out).mono ?_
  rintro e w12 ⟨A6, p6, rfl, hs⟩
  have S10 : Hid (St w w12 [.mem a2 c1, .mem a c1, .row (.slice A6 ch.length p6) 39 4 ch.length (flatC ch), .row (.slice A5 9 p5) 2 1 9 (c1.now.flatten.map numV)]) := hs.nth 3 rfl
  clear hs S9
  -- the copy goes its way
  go_wp2_with fail
  have ok3 := doAll_ok OK1.out true 0 (more.take 60)
  refine (do_calls S10.out OK1.out HB.out LB.out NB.out KB.out true 0).mono ?_
  rintro e w13 ⟨rfl, hs⟩
  have S11 := Lib.hid hs.swap
  clear hs S10
  go_wp2_with fail
  refine (all9 S11.out FR.out).mono ?_
  rintro e w14 ⟨A7, p7, rfl, hs⟩
  have S12 := Lib.hid hs
  clear hs S11
  go_wp2_with fail
  refine (equal9 (own_reads S12.out.swap.row) (own_reads S12.out.drop.drop.drop.drop.row) FR.out).mono ?_
  rintro e w15 ⟨rfl, hk⟩
  have S13 := Lib.hid (S12.out.swap.drop.kept hk)
  clear hk S12
  go_wp2_with fail
  refine S13.out.marks.mono ?_
  rintro e w' ⟨rfl, rfl⟩
  go_wp2_with fail
  refine (S13.out.changes HCH.out).mono ?_
  rintro e w16 ⟨A8, p8, rfl, hs⟩
  have S14 := Lib.hid hs
  clear hs S13
  go_wp2_with fail
  refine (same19 (own_reads S14.out.swap.row) (own_reads S14.out.drop.drop.drop.row) HLE.out).mono ?_
  rintro e w17 ⟨rfl, hk⟩
  have S15 := Lib.hid (((S14.out.swap.drop.kept hk).third.drop).third.drop)
  clear hk S14
  go_wp2_with fail
  refine (do_calls S15.out OK1.out HB.out LB.out NB.out KB.out true 0).mono ?_
  rintro e w18 ⟨rfl, hs⟩
  generalize doAll true 0 c1 (more.take 60) = c3 at hs ok3
  have OK3 := Lib.hid ok3
  have FR3 : Hid (Four c3.now) := ok3.1
  have S16 := Lib.hid hs.swap
  clear hs S15 ok3
  -- both are the same
  go_wp2_with fail
  refine (all9 S16.out FR3.out).mono ?_
  rintro e w19 ⟨A9, p9, rfl, hs⟩
  have S17 := Lib.hid hs.third
  clear hs S16
  go_wp2_with fail
  refine (all9 S17.out FR3.out).mono ?_
  rintro e w20 ⟨A10, p10, rfl, hs⟩
  have S18 := Lib.hid hs
  clear hs S17
  go_wp2_with fail
  refine (equal9 (own_reads S18.out.drop.drop.drop.row) (own_reads S18.out.swap.row) FR3.out).mono ?_
  rintro e w21 ⟨rfl, hk⟩
  have S19 := Lib.hid ((S18.out.swap.drop.kept hk).third.drop)
  clear hk S18
  go_wp2_with fail
  refine S19.out.swap.marks.mono ?_
  rintro e w' ⟨rfl, rfl⟩
  go_wp2_with fail
  refine S19.out.marks.mono ?_
  rintro e w' ⟨rfl, rfl⟩
  go_wp2_with fail
  refine (S19.out.swap.changes (l := c3.changes) rfl).mono ?_
  rintro e w22 ⟨A11, p11, rfl, hs⟩
  have S20 := Lib.hid hs.third
  clear hs S19
  go_wp2_with fail
  refine (S20.out.changes (l := c3.changes) rfl).mono ?_
  rintro e w23 ⟨A12, p12, rfl, hs⟩
  have S21 := Lib.hid hs
  clear hs S20
  go_wp2_with fail
  refine (same19 (own_reads S21.out.drop.drop.drop.row) (own_reads S21.out.swap.row) S21.out.changes_le).mono ?_
  rintro e w24 ⟨rfl, hk⟩
  have S22 := Lib.hid (S21.out.kept hk)
  clear hk S21
  go_wp2
  go_ret
  exact ⟨rfl, S22.out.whole⟩
end Go.Proofs.Ytlfaoibgmbbacaa
