/- The laws on caps: is, mark. -/
import Derived.Test.YtmndckeohfcgkaaRefHand
namespace Go.Proofs.Ytmndckeohfcgkaa
open Go.RowKit
set_option maxRecDepth 100000 in
theorem is_calls (w : World) (x : RH) (h0 : 0 ≤ x.rights) (h1 : x.rights ≤ 15) :
    Calls Try.prog 70 #[(toH x).val, x.val] w fun e w' => e = .returned (.bool true) ∧ Kept [] w w' := by
  obtain ⟨x1, x2, x3, x4, x5, x6⟩ := x
  simp only at h0 h1
  obtain ⟨n, rfl⟩ : ∃ n : Nat, x5 = (n : Int) := ⟨x5.toNat, by omega⟩
  have h2 : (n : Int) ≤ 255 := by omega
  simp only [toH, Hd.val, RH.val, Int.toNat_natCast]
  have K1 := Lib.hid ((Kept.alloc [] w (.cells #[.int .i64 x1, .int .i64 x2, .int .i64 x3, .int .i64 x4, .int .u8 (n : Int)] 34)).trans' (Kept.alloc [] _ (.cells #[.int .i64 x1, .int .i64 x2, .int .i64 x3, .int .i64 x4, .int .i64 (n : Int), .bool x6] 104)))
  go_enter Try.func70, Try.ntmps70
  go_wp2
  go_ret
  exact ⟨by simp, K1.out⟩
theorem mark_calls (w : World) (a b : Int) : Calls Try.prog 90 #[.int .i64 a, .int .i64 b] w fun e w' => (∃ v, e = .returned (.int .i64 v)) ∧ w = w' := by
  go_enter Try.func90, Try.ntmps90
  go_wp2
  go_ret
  exact ⟨⟨_, rfl⟩, rfl⟩
end Go.Proofs.Ytmndckeohfcgkaa
