/- The walks of Derive and Place of package caps. -/
import Derived.Test.YtmndckeohfcgkaaRoot
namespace Go.Proofs.Ytmndckeohfcgkaa
open Go.RowKit
open Go.ChangeMaps (setBlock)
section
variable {w w' : World} {a r : Nat} {c : CT} {pv : List Value} {m : List (Int × Hd)} {F : List Nat}
def CT.deriveRes (c : CT) (s to : Int) (t : Nat) : Int × Int :=
  match c.get s with
  | none => (0, 6)
  | some h => if holds to = false then (0, 2) else if handN h.rights t ≠ 0 then (0, handN h.rights t) else c.addRes to
def CT.derive (c : CT) (s to : Int) (t : Nat) : CT := if (c.deriveRes s to t).2 = 0 then c.add ⟨0, s, ((c.get s).getD noHd).port, to, t⟩ else c
set_option maxRecDepth 100000 in
theorem derive_none {s to : Int} {t : Nat} (hg : ∀ w1, Kept [] w w1 → Calls Try.prog 26 #[.pointer (some ⟨a, 0, none⟩), .int .i64 s] w1 fun e w' => e = .returned (.tuple #[noHd.val, .int .i64 6]) ∧ Kept [] w1 w') :
    Calls Try.prog 25 #[.pointer (some ⟨a, 0, none⟩), .int .i64 s, .int .i64 to, .int .u8 (t : Int)] w fun e w' => e = .returned (.tuple #[.int .i64 0, .int .i64 6]) ∧ Kept [] w w' := by
  have HG := Lib.hid (hg w (Kept.refl _ _))
  clear hg
  go_enter Try.func25, Try.ntmps25
  go_wp2_with (go_at_call 26; refine HG.out.mono ?_; rintro e w1 ⟨rfl, hk⟩; simp only [Hd.val, noHd]; have K := Lib.hid hk; clear hk)
  go_ret2
  exact ⟨rfl, K.out.trans' (Kept.alloc _ _ _)⟩
set_option maxRecDepth 100000 in
theorem derive_holder {s to : Int} {t : Nat} {h : Hd} (hg : ∀ w1, Kept [] w w1 → Calls Try.prog 26 #[.pointer (some ⟨a, 0, none⟩), .int .i64 s] w1 fun e w' => e = .returned (.tuple #[h.val, .int .i64 0]) ∧ Kept [] w1 w') (hh : holds to = false) :
    Calls Try.prog 25 #[.pointer (some ⟨a, 0, none⟩), .int .i64 s, .int .i64 to, .int .u8 (t : Int)] w fun e w' => e = .returned (.tuple #[.int .i64 0, .int .i64 2]) ∧ Kept [] w w' := by
  have HG := Lib.hid (hg w (Kept.refl _ _))
  have HC : Hid (∀ w1, Calls Try.prog 45 #[.int .i64 to] w1 fun e w' => e = .returned (.bool false) ∧ w1 = w') := Lib.hid fun w1 => by
    have hc := holder_calls w1 to
    rwa [hh] at hc
  clear hg hh
  go_enter Try.func25, Try.ntmps25
  go_wp2_with (first | (go_at_call 26; refine HG.out.mono ?_; rintro e w1 ⟨rfl, hk⟩; simp only [Hd.val]; have K := Lib.hid hk; clear hk) | (go_at_call 45; refine (HC.out _).mono ?_; rintro e w' ⟨rfl, rfl⟩))
  go_ret2
  exact ⟨rfl, K.out.trans' (Kept.alloc _ _ _)⟩
theorem handN_cases (f t : Nat) : handN f t = 0 ∨ handN f t = 220 ∨ handN f t = 221 := by
  unfold handN
  split
  · exact .inr (.inl rfl)
  · split
    · exact .inr (.inr rfl)
    · exact .inl rfl
theorem handN_zero {f t : Nat} (h : handN f t = 0) : f ≤ 15 ∧ t ≤ 15 ∧ grants f = true ∧ belowB t f = true := by
  unfold handN at h
  split at h
  · cases h
  · rename_i h1
    split at h
    · cases h
    · rename_i h2
      have h3 : f ≤ 15 ∧ t ≤ 15 := by simpa using h1
      simp only [Bool.not_eq_true, Bool.or_eq_false_iff, Bool.not_eq_false'] at h2
      exact ⟨h3.1, h3.2, h2.1, by unfold belowB; simp [h3, h2.2]⟩
set_option maxRecDepth 100000 in
theorem derive_hand {s to : Int} {t : Nat} {h : Hd} {x : Int} (hg : ∀ w1, Kept [] w w1 → Calls Try.prog 26 #[.pointer (some ⟨a, 0, none⟩), .int .i64 s] w1 fun e w' => e = .returned (.tuple #[h.val, .int .i64 0]) ∧ Kept [] w1 w') (hh : holds to = true)
    (hx : x = 220 ∨ x = 221) (hn : handN h.rights t = x) :
    Calls Try.prog 25 #[.pointer (some ⟨a, 0, none⟩), .int .i64 s, .int .i64 to, .int .u8 (t : Int)] w fun e w' => e = .returned (.tuple #[.int .i64 0, .int .i64 x]) ∧ Kept [] w w' := by
  have HG := Lib.hid (hg w (Kept.refl _ _))
  have HC : Hid (∀ w1, Calls Try.prog 45 #[.int .i64 to] w1 fun e w' => e = .returned (.bool true) ∧ w1 = w') := Lib.hid fun w1 => by
    have hc := holder_calls w1 to
    rwa [hh] at hc
  have HH : Hid (∀ w1, Calls Try.prog 46 #[.int .u8 (h.rights : Int), .int .u8 (t : Int)] w1 fun e w' => e = .returned (.int .i64 x) ∧ Kept [] w1 w') := Lib.hid fun w1 => by
    have hc := Hand_calls w1 h.rights t
    rwa [hn] at hc
  clear hg hh hn
  rcases hx with rfl | rfl
  all_goals
    go_enter Try.func25, Try.ntmps25
    go_wp2_with (first | (go_at_call 26; refine HG.out.mono ?_; rintro e w1 ⟨rfl, hk⟩; simp only [Hd.val]; have K := Lib.hid hk; clear hk) | (go_at_call 45; refine (HC.out _).mono ?_; rintro e w' ⟨rfl, rfl⟩) | (go_at_call 46; refine (HH.out _).mono ?_; rintro e w2 ⟨rfl, hk⟩; have K2 := Lib.hid hk; clear hk))
    go_ret2
    exact ⟨rfl, (K.out.trans' (Kept.alloc _ _ _)).trans' K2.out⟩
set_option maxRecDepth 100000 in
theorem derive_in {s to : Int} {t : Nat} {h : Hd} {x y : Int} {T : World → Prop} (hg : ∀ w1, Kept [] w w1 → Calls Try.prog 26 #[.pointer (some ⟨a, 0, none⟩), .int .i64 s] w1 fun e w' => e = .returned (.tuple #[h.val, .int .i64 0]) ∧ Kept [] w1 w') (hh : holds to = true)
    (hn : handN h.rights t = 0) (hadd : ∀ w1, Kept [] w w1 → Calls Try.prog 47 #[.pointer (some ⟨a, 0, none⟩), (Hd.mk 0 s h.port to t).val] w1 fun e w' => e = .returned (.tuple #[.int .i64 x, .int .i64 y]) ∧ T w') :
    Calls Try.prog 25 #[.pointer (some ⟨a, 0, none⟩), .int .i64 s, .int .i64 to, .int .u8 (t : Int)] w fun e w' => e = .returned (.tuple #[.int .i64 x, .int .i64 y]) ∧ T w' := by
  have HG := Lib.hid (hg w (Kept.refl _ _))
  have HC : Hid (∀ w1, Calls Try.prog 45 #[.int .i64 to] w1 fun e w' => e = .returned (.bool true) ∧ w1 = w') := Lib.hid fun w1 => by
    have hc := holder_calls w1 to
    rwa [hh] at hc
  have HH : Hid (∀ w1, Calls Try.prog 46 #[.int .u8 (h.rights : Int), .int .u8 (t : Int)] w1 fun e w' => e = .returned (.int .i64 0) ∧ Kept [] w1 w') := Lib.hid fun w1 => by
    have hc := Hand_calls w1 h.rights t
    rwa [hn] at hc
  have HA := Lib.hid hadd
  clear hg hh hn hadd
  go_enter Try.func25, Try.ntmps25
  go_wp2_with (first | (go_at_call 26; refine HG.out.mono ?_; rintro e w1 ⟨rfl, hk⟩; simp only [Hd.val]; have K := Lib.hid hk; clear hk; have BH := Lib.hid (Blk.new w1 34 #[.int .i64 h.serial, .int .i64 h.parent, .int .i64 h.port, .int .i64 h.holder, .int .u8 (h.rights : Int)])) | (go_at_call 45; refine (HC.out _).mono ?_; rintro e w' ⟨rfl, rfl⟩) | (go_at_call 46; refine (HH.out _).mono ?_; rintro e w2 ⟨rfl, hk⟩; have c2 := (hk.blk BH.out (by simp)).cell 2; have K2 := Lib.hid hk; clear hk) | (go_at_call 47; refine (HA.out _ ((K.out.trans' (Kept.alloc _ _ _)).trans' K2.out)).mono ?_; rintro e w' ⟨rfl, hk⟩; have K3 := Lib.hid hk; clear hk))
  go_ret2
  exact ⟨rfl, K3.out⟩
theorem Derive_calls (H : IsTab w a c F) (s to : Int) (t : Nat) :
    Calls Try.prog 25 #[.pointer (some ⟨a, 0, none⟩), .int .i64 s, .int .i64 to, .int .u8 (t : Int)] w fun e w' => e = .returned (.tuple #[.int .i64 (c.deriveRes s to t).1, .int .i64 (c.deriveRes s to t).2]) ∧ Turns w w' a F (c.derive s to t) := by
  have hg : ∀ w1, Kept [] w w1 → Calls Try.prog 26 #[.pointer (some ⟨a, 0, none⟩), .int .i64 s] w1 fun e w' => e = .returned (.tuple #[(c.getRes s).1.val, .int .i64 (c.getRes s).2]) ∧ Kept [] w1 w' := fun w1 hk => Get_calls (H.keptNil hk) s
  unfold CT.derive
  cases e0 : c.get s with
  | none =>
    have e : c.deriveRes s to t = (0, 6) := by unfold CT.deriveRes; rw [e0]
    have e1 : c.getRes s = (noHd, 6) := by unfold CT.getRes; rw [e0]
    rw [e1] at hg
    simp only [e]
    refine (derive_none hg).mono ?_
    rintro e w' ⟨rfl, hk⟩
    exact ⟨rfl, Turns.same H hk⟩
  | some h =>
    have e1 : c.getRes s = (h, 0) := by unfold CT.getRes; rw [e0]
    rw [e1] at hg
    cases hh : holds to with
    | false =>
      have e : c.deriveRes s to t = (0, 2) := by unfold CT.deriveRes; rw [e0]; simp [hh]
      simp only [e]
      refine (derive_holder hg hh).mono ?_
      rintro e w' ⟨rfl, hk⟩
      exact ⟨rfl, Turns.same H hk⟩
    | true =>
      by_cases hn : handN h.rights t = 0
      · have e : c.deriveRes s to t = c.addRes to := by unfold CT.deriveRes; rw [e0]; simp [hh, hn]
        have hh' : 0 ≤ to ∧ to ≤ 16 := by simpa [holds] using hh
        obtain ⟨n1, n2, n3, n4⟩ := handN_zero hn
        obtain ⟨g1, g2⟩ := get_some e0
        simp only [e, Option.getD_some]
        refine (derive_in hg hh hn (T := fun w' => Turns w w' a F (c.added ⟨0, s, h.port, to, t⟩)) fun w1 hk => ?_)
        refine (add_calls (H.keptNil hk) (h := ⟨0, s, h.port, to, t⟩) ⟨.inr ⟨h, g1, g2, rfl, n3, n4⟩, hh', H.ok.prt h g1, n2⟩).mono ?_
        rintro e w' ⟨rfl, ht⟩
        exact ⟨rfl, ht.from hk⟩
      · have e : c.deriveRes s to t = (0, handN h.rights t) := by unfold CT.deriveRes; rw [e0]; simp [hh, hn]
        simp only [e]
        refine (derive_hand hg hh ((handN_cases h.rights t).resolve_left hn) rfl).mono ?_
        rintro e w' ⟨rfl, hk⟩
        exact ⟨rfl, by rw [if_neg hn]; exact Turns.same H hk⟩
end
end Go.Proofs.Ytmndckeohfcgkaa
