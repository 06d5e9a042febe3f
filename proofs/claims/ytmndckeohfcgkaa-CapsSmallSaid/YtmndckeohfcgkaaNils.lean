/- Tables that are none: what package caps returns of them. -/
import Derived.Test.YtmndckeohfcgkaaActsKit
namespace Go.Proofs.Ytmndckeohfcgkaa
open Go.RowKit
/-- There is no table here, and whatever is made beside it. -/
def Nil (w : World) (A : Option Addr) : Prop := ∀ W, Kept [] w W → Calls Try.prog 37 #[.pointer A] W fun e w' => e = .returned (.bool false) ∧ W = w'
theorem nil_none (w : World) : Nil w none := fun W _ => is_none W
theorem nil_zero {w : World} {a : Nat} (h : w.cell? ⟨a, 0, none⟩ = some (.bool false)) : Nil w (some ⟨a, 0, none⟩) := fun W hW => is_no a W (hW.cell h (by simp))
theorem Nil.kept {w w' : World} {A : Option Addr} (h : Nil w A) (hk : Kept [] w w') : Nil w' A := fun W hW => h W (hk.trans' hW)
section
variable {w : World} {A : Option Addr}
theorem nRoot (h : Nil w A) (p o : Int) (t : Nat) :
    Calls Try.prog 28 #[.pointer A, .int .i64 p, .int .i64 o, .int .u8 (t : Int)] w fun e w' => e = .returned (.tuple #[.int .i64 0, .int .i64 1]) ∧ Kept [] w w' := by
  have HI := Lib.hid h
  clear h
  go_enter Try.func28, Try.ntmps28
  go_wp2_with (first | (go_at_call 37; refine (HI.out _ (Kept.refl _ _)).mono ?_; rintro e w' ⟨rfl, rfl⟩))
  go_ret2
  exact ⟨rfl, Kept.refl _ _⟩
theorem nNext (h : Nil w A) :
    Calls Try.prog 20 #[.pointer A] w fun e w' => e = .returned (.int .i64 0) ∧ Kept [] w w' := by
  have HI := Lib.hid h
  clear h
  go_enter Try.func20, Try.ntmps20
  go_wp2_with (first | (go_at_call 37; refine (HI.out _ (Kept.refl _ _)).mono ?_; rintro e w' ⟨rfl, rfl⟩))
  go_ret
  exact ⟨rfl, Kept.refl _ _⟩
theorem nLen (h : Nil w A) :
    Calls Try.prog 24 #[.pointer A] w fun e w' => e = .returned (.int .i64 0) ∧ Kept [] w w' := by
  have HI := Lib.hid h
  clear h
  go_enter Try.func24, Try.ntmps24
  go_wp2_with (first | (go_at_call 37; refine (HI.out _ (Kept.refl _ _)).mono ?_; rintro e w' ⟨rfl, rfl⟩))
  go_ret
  exact ⟨rfl, Kept.refl _ _⟩
theorem nAll (h : Nil w A) :
    Calls Try.prog 14 #[.pointer A] w fun e w' => e = .returned (.slice none 0 0) ∧ Kept [] w w' := by
  have HI := Lib.hid h
  clear h
  go_enter Try.func14, Try.ntmps14
  go_wp2_with (first | (go_at_call 37; refine (HI.out _ (Kept.refl _ _)).mono ?_; rintro e w' ⟨rfl, rfl⟩))
  go_ret
  exact ⟨rfl, Kept.refl _ _⟩
theorem nPlaces (h : Nil w A) (who : Int) :
    Calls Try.prog 30 #[.pointer A, .int .i64 who] w fun e w' => e = .returned (.slice none 0 0) ∧ Kept [] w w' := by
  have HI := Lib.hid h
  clear h
  go_enter Try.func30, Try.ntmps30
  go_wp2_with (first | (go_at_call 37; refine (HI.out _ (Kept.refl _ _)).mono ?_; rintro e w' ⟨rfl, rfl⟩))
  go_ret
  exact ⟨rfl, Kept.refl _ _⟩
theorem nCopy (h : Nil w A) :
    Calls Try.prog 13 #[.pointer A] w fun e w' => e = .returned (.pointer none) ∧ Kept [] w w' := by
  have HI := Lib.hid h
  clear h
  go_enter Try.func13, Try.ntmps13
  go_wp2_with (first | (go_at_call 37; refine (HI.out _ (Kept.refl _ _)).mono ?_; rintro e w' ⟨rfl, rfl⟩))
  go_ret
  exact ⟨rfl, Kept.refl _ _⟩
set_option maxRecDepth 100000 in
theorem nGet (h : Nil w A) (s : Int) : Calls Try.prog 26 #[.pointer A, .int .i64 s] w fun e w' => e = .returned (.tuple #[noHd.val, .int .i64 1]) ∧ Kept [] w w' := by
  have HI := Lib.hid h
  clear h
  go_enter Try.func26, Try.ntmps26
  go_wp2_with (first | (go_at_call 37; refine (HI.out _ (Kept.alloc _ _ _)).mono ?_; rintro e w' ⟨rfl, rfl⟩))
  refine bodyPost_ret (results_c34 rfl rfl (Blk.new _ _ _)) rfl ⟨rfl, Kept.alloc _ _ _⟩
set_option maxRecDepth 100000 in
theorem nPlace (h : Nil w A) (who i : Int) : Calls Try.prog 29 #[.pointer A, .int .i64 who, .int .i64 i] w fun e w' => e = .returned (.tuple #[noHd.val, .int .i64 1]) ∧ Kept [] w w' := by
  have HI := Lib.hid h
  clear h
  go_enter Try.func29, Try.ntmps29
  go_wp2_with (first | (go_at_call 37; refine (HI.out _ (Kept.alloc _ _ _)).mono ?_; rintro e w' ⟨rfl, rfl⟩))
  refine bodyPost_ret (results_c34 rfl rfl (Blk.new _ _ _)) rfl ⟨rfl, Kept.alloc _ _ _⟩
set_option maxRecDepth 100000 in
theorem nDerive (h : Nil w A) (s o : Int) (t : Nat) : Calls Try.prog 25 #[.pointer A, .int .i64 s, .int .i64 o, .int .u8 (t : Int)] w fun e w' => e = .returned (.tuple #[.int .i64 0, .int .i64 1]) ∧ Kept [] w w' := by
  have HG := Lib.hid (nGet h s)
  clear h
  go_enter Try.func25, Try.ntmps25
  go_wp2_with (go_at_call 26; refine HG.out.mono ?_; rintro e w1 ⟨rfl, hk⟩; simp only [Hd.val, noHd]; have K := Lib.hid hk; clear hk)
  go_ret2
  exact ⟨rfl, K.out.trans' (Kept.alloc _ _ _)⟩
set_option maxRecDepth 100000 in
theorem nBelow (h : Nil w A) (s : Int) : Calls Try.prog 27 #[.pointer A, .int .i64 s] w fun e w' => e = .returned (.tuple #[.slice none 0 0, .int .i64 1]) ∧ Kept [] w w' := by
  have HG := Lib.hid (nGet (h.kept (Kept.alloc [] w (.cells #[.pointer A] 24))) s)
  clear h
  go_enter Try.func27, Try.ntmps27
  go_wp2_with (go_at_call 26; refine HG.out.mono ?_; rintro e w1 ⟨rfl, hk⟩; simp only [Hd.val, noHd]; have K := Lib.hid hk; clear hk)
  go_ret2
  exact ⟨rfl, ((Kept.alloc _ _ _).trans' K.out).trans' (Kept.alloc _ _ _)⟩
set_option maxRecDepth 100000 in
theorem nRevoke (h : Nil w A) (s : Int) : Calls Try.prog 17 #[.pointer A, .int .i64 s] w fun e w' => e = .returned (.tuple #[.slice none 0 0, .int .i64 1]) ∧ Kept [] w w' := by
  have HB := Lib.hid (nBelow h s)
  clear h
  go_enter Try.func17, Try.ntmps17
  go_wp2_with (go_at_call 27; refine HB.out.mono ?_; rintro e w1 ⟨rfl, hk⟩; have K := Lib.hid hk; clear hk)
  go_loopw [18] (fun i wr => i = .int .i64 0 ∧ wr = w1) (fun _ _ => 0)
  case atStart => exact ⟨rfl, rfl⟩
  case round =>
    obtain ⟨rfl, rfl⟩ := hrel
    go_wp2
    go_ret2
    exact ⟨rfl, K.out⟩
set_option maxRecDepth 100000 in
theorem nClose (h : Nil w A) (p : Int) : Calls Try.prog 15 #[.pointer A, .int .i64 p] w fun e w' => e = .returned (.slice none 0 0) ∧ Kept [] w w' := by
  have HB := Lib.hid (nAll h)
  clear h
  go_enter Try.func15, Try.ntmps15
  go_wp2_with (go_at_call 14; refine HB.out.mono ?_; rintro e w1 ⟨rfl, hk⟩; have K := Lib.hid hk; clear hk)
  go_loopw [5, 11] (fun o i wr => o = .slice none 0 0 ∧ i = .int .i64 0 ∧ wr = w1) (fun _ _ _ => 0)
  case atStart => exact ⟨rfl, rfl, rfl⟩
  case round =>
    obtain ⟨rfl, rfl, rfl⟩ := hrel
    go_wp2
    go_ret
    exact ⟨rfl, K.out⟩
end
end Go.Proofs.Ytmndckeohfcgkaa
