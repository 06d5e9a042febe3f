/- Memories that are none: what package cells returns of them. -/
import Derived.Test.YtlfaoibgmbbacaaActsKit
namespace Go.Proofs.Ytlfaoibgmbbacaa
open Go.RowKit
/-- There is no memory here, and whatever is made beside it. -/
def Nil (w : World) (A : Option Addr) : Prop := ∀ W, Kept [] w W → Calls Try.prog 31 #[.pointer A] W fun e w' => e = .returned (.bool false) ∧ W = w'
theorem nil_none (w : World) : Nil w none := fun W _ => is_none W
theorem nil_zero {w : World} {a : Nat} (h : w.cell? ⟨a, 0, none⟩ = some (.bool false)) : Nil w (some ⟨a, 0, none⟩) := fun W hW => is_no a W (hW.cell h (by simp))
theorem Nil.kept {w w' : World} {A : Option Addr} (h : Nil w A) (hk : Kept [] w w') : Nil w' A := fun W hW => h W (hk.trans' hW)
section
variable {w : World} {A : Option Addr}
theorem nOwner (h : Nil w A) (o : Int) :
    Calls Try.prog 34 #[.pointer A, .int .i64 o] w fun e w' => e = .returned (.tuple #[.slice none 0 0, .int .i64 1]) ∧ Kept [] w w' := by
  have HI := Lib.hid h
  clear h
  go_enter Try.func34, Try.ntmps34
  go_wp2_with (first | (go_at_call 31; refine (HI.out _ (Kept.refl _ _)).mono ?_; rintro e w' ⟨rfl, rfl⟩))
  go_ret2
  exact ⟨rfl, Kept.refl _ _⟩
theorem nMarks (h : Nil w A) :
    Calls Try.prog 14 #[.pointer A] w fun e w' => e = .returned (.int .i64 0) ∧ Kept [] w w' := by
  have HI := Lib.hid h
  clear h
  go_enter Try.func14, Try.ntmps14
  go_wp2_with (first | (go_at_call 31; refine (HI.out _ (Kept.refl _ _)).mono ?_; rintro e w' ⟨rfl, rfl⟩))
  go_ret
  exact ⟨rfl, Kept.refl _ _⟩
theorem nMark (h : Nil w A) :
    Calls Try.prog 16 #[.pointer A] w fun e w' => e = .returned (.tuple #[.int .i64 0, .int .i64 1]) ∧ Kept [] w w' := by
  have HI := Lib.hid h
  clear h
  go_enter Try.func16, Try.ntmps16
  go_wp2_with (first | (go_at_call 31; refine (HI.out _ (Kept.refl _ _)).mono ?_; rintro e w' ⟨rfl, rfl⟩))
  go_ret2
  exact ⟨rfl, Kept.refl _ _⟩
theorem nPlan (h : Nil w A) :
    Calls Try.prog 22 #[.pointer A] w fun e w' => e = .returned (.slice none 0 0) ∧ Kept [] w w' := by
  have HI := Lib.hid h
  clear h
  go_enter Try.func22, Try.ntmps22
  go_wp2_with (first | (go_at_call 31; refine (HI.out _ (Kept.refl _ _)).mono ?_; rintro e w' ⟨rfl, rfl⟩))
  go_ret
  exact ⟨rfl, Kept.refl _ _⟩
theorem nCopy (h : Nil w A) :
    Calls Try.prog 30 #[.pointer A] w fun e w' => e = .returned (.pointer none) ∧ Kept [] w w' := by
  have HI := Lib.hid h
  clear h
  go_enter Try.func30, Try.ntmps30
  go_wp2_with (first | (go_at_call 31; refine (HI.out _ (Kept.refl _ _)).mono ?_; rintro e w' ⟨rfl, rfl⟩))
  go_ret
  exact ⟨rfl, Kept.refl _ _⟩
theorem nPop (h : Nil w A) : Calls Try.prog 33 #[.pointer A] w fun e w' => e = .returned (.tuple #[.agg #[.map none], .int .i64 1]) ∧ Kept [] w w' := by
  have HI := Lib.hid h
  clear h
  go_enter Try.func33, Try.ntmps33
  go_wp2_with (first | (go_at_call 31; refine (HI.out _ (Kept.alloc _ _ _)).mono ?_; rintro e w' ⟨rfl, rfl⟩))
  refine bodyPost_ret (v := .tuple #[.agg #[.map none], .int .i64 1]) (by simp [results, Try.results33, go_sem]) rfl ⟨rfl, ?_⟩
  exact (Kept.alloc _ _ _)
theorem nBack (h : Nil w A) : Calls Try.prog 17 #[.pointer A] w fun e w' => e = .returned (.tuple #[.int .i64 0, .int .i64 1]) ∧ Kept [] w w' := by
  have HP := Lib.hid (nPop h)
  clear h
  go_enter Try.func17, Try.ntmps17
  go_wp2_with (go_at_call 33; refine HP.out.mono ?_; rintro e w1 ⟨rfl, hk1⟩; have K1 := Lib.hid hk1; clear hk1)
  go_ret2
  exact ⟨rfl, K1.out.trans' (Kept.alloc _ _ _)⟩
theorem nKeep (h : Nil w A) : Calls Try.prog 20 #[.pointer A] w fun e w' => e = .returned (.tuple #[.int .i64 0, .int .i64 1]) ∧ Kept [] w w' := by
  have HP := Lib.hid (nPop h)
  clear h
  go_enter Try.func20, Try.ntmps20
  go_wp2_with (go_at_call 33; refine HP.out.mono ?_; rintro e w1 ⟨rfl, hk1⟩; have K1 := Lib.hid hk1; clear hk1)
  go_ret2
  exact ⟨rfl, K1.out.trans' (Kept.alloc _ _ _)⟩
theorem nLoad (h : Nil w A) (o i : Int) : Calls Try.prog 21 #[.pointer A, .int .i64 o, .int .i64 i] w fun e w' => e = .returned (.tuple #[.int .i64 0, .int .i64 1]) ∧ Kept [] w w' := by
  have HO := Lib.hid (nOwner h o)
  clear h
  go_enter Try.func21, Try.ntmps21
  go_wp2_with (go_at_call 34; refine HO.out.mono ?_; rintro e w1 ⟨rfl, hk1⟩; have K1 := Lib.hid hk1; clear hk1)
  go_ret2
  exact ⟨rfl, K1.out⟩
theorem nStore (h : Nil w A) (o i v : Int) : Calls Try.prog 24 #[.pointer A, .int .i64 o, .int .i64 i, .int .i64 v] w fun e w' => e = .returned (.tuple #[.int .i64 0, .int .i64 1]) ∧ Kept [] w w' := by
  have HO := Lib.hid (nLoad h o i)
  clear h
  go_enter Try.func24, Try.ntmps24
  go_wp2_with (go_at_call 21; refine HO.out.mono ?_; rintro e w1 ⟨rfl, hk1⟩; have K1 := Lib.hid hk1; clear hk1)
  go_ret2
  exact ⟨rfl, K1.out⟩
theorem nAll (h : Nil w A) (o : Int) : Calls Try.prog 25 #[.pointer A, .int .i64 o] w fun e w' => e = .returned (.tuple #[.slice none 0 0, .int .i64 1]) ∧ Kept [] w w' := by
  have HO := Lib.hid (nOwner h o)
  clear h
  go_enter Try.func25, Try.ntmps25
  go_wp2_with (first | (go_at_call 34; refine HO.out.mono ?_; rintro e w1 ⟨rfl, hk1⟩; have K1 := Lib.hid hk1; clear hk1) | (go_at_call 35; refine (clone_nil (n := 0) (c := 0)).mono ?_; rintro e w' ⟨rfl, rfl⟩))
  go_ret2
  exact ⟨rfl, K1.out⟩
theorem nChanges (h : Nil w A) : Calls Try.prog 15 #[.pointer A] w fun e w' => e = .returned (.slice none 0 0) ∧ Kept [] w w' := by
  have HI := Lib.hid h
  clear h
  refine (callsIn_wide (n := 8)).1 ?_
  refine callsIn_of_wp_marks Try.func15 rfl trivial ?_ rfl
  simp only [Try.ntmps15, List.size_toArray, List.length_cons, List.length_nil, Nat.reduceAdd, Nat.reduceSub, Array.replicate_succ, Array.replicate_zero, List.push_toArray, List.append_toArray, List.nil_append, List.cons_append]
  gi_wp2_with (first
    | (refine ⟨trivial, ?_⟩; gi_at_call 31; refine (callsIn_wide.2 (HI.out _ (Kept.alloc _ _ _))).mono ?_; rintro e w' ⟨rfl, rfl⟩))
  refine ⟨_, results_tmp rfl _ _ _, rfl, Kept.alloc _ _ _⟩
end
end Go.Proofs.Ytlfaoibgmbbacaa
