/- The reference of layer 22: Hand. -/
import Derived.Test.YtmndckeohfcgkaaRefRight
namespace Go.Proofs.Ytmndckeohfcgkaa
open Go.RowKit
theorem grants_bit : ∀ m < 16, grants m = bitR m 2 := by decide
set_option maxRecDepth 100000 in
set_option maxHeartbeats 1000000 in
theorem RHand_calls (w : World) (f t : Nat) (hf : f ≤ 255) (ht : t ≤ 255) :
    Calls Try.prog 66 #[.int .i64 (f : Int), .int .i64 (t : Int)] w fun e w' => e = .returned (.int .i64 (handN f t)) ∧ Kept [] w w' := by
  have H1 := Lib.hid (RRight_calls w f hf)
  have H2 : Hid (∀ W, Calls Try.prog 63 #[.int .i64 (t : Int)] W fun e w' => e = .returned (.bool (decide (t ≤ 15))) ∧ Kept [] W w') := Lib.hid fun W => RRight_calls W t ht
  have H3 : Hid (∀ W, Calls Try.prog 86 #[.int .i64 (f : Int)] W fun e w' => e = .returned (.tuple #[.agg (bitsTo f 4), .bool (decide (f ≤ 15))]) ∧ Kept [] W w') := Lib.hid fun W => RBits_calls W f hf
  have H4 : Hid (∀ W, Calls Try.prog 87 #[.int .i64 (t : Int), .int .i64 (f : Int)] W fun e w' => e = .returned (.bool (belowB t f)) ∧ Kept [] W w') := Lib.hid fun W => RBelowB_calls W t f ht hf
  have e1 : bitsTo f 4 = #[.bool (bitR f 0), .bool (bitR f 1), .bool (bitR f 2), .bool (bitR f 3)] := by simp [bitsTo]
  rw [e1] at H3
  clear e1
  generalize hr : handN f t = r at *
  have HR := Lib.hid hr
  clear hr
  by_cases h1 : f ≤ 15
  · rw [decide_eq_true h1] at H1 H3
    by_cases h2 : t ≤ 15
    · rw [decide_eq_true h2] at H2
      have hb : belowB t f = sub t f := by unfold belowB; simp [h1, h2]
      have hg := grants_bit f (by omega)
      cases e1 : bitR f 2 with
      | false =>
        rw [e1] at H3 hg
        have HX : Hid (r = 221) := Lib.hid (by rw [← HR.out]; unfold handN; rw [if_neg (by simp [h1, h2]), if_pos (by simp [hg])])
        clear hb hg e1 h1 h2 H4
        go_enter Try.func66, Try.ntmps66
        go_wp2_with fail
        refine H1.out.mono ?_
        rintro e w1 ⟨rfl, hk⟩
        have Y1 := Lib.hid hk
        clear hk
        go_wp2_with fail
        refine (H2.out w1).mono ?_
        rintro e w2 ⟨rfl, hk⟩
        have Y2 := Lib.hid (Y1.out.trans' hk)
        clear hk
        go_wp2_with fail
        refine (H3.out w2).mono ?_
        rintro e w3 ⟨rfl, hk⟩
        have Y3 := Lib.hid ((Y2.out.trans' hk).trans' (Kept.alloc [] w3 (.cells #[.bool (bitR f 0), .bool (bitR f 1), .bool false, .bool (bitR f 3)] 129)))
        clear hk
        go_wp2
        go_ret
        exact ⟨by rw [HX.out]; rfl, Y3.out⟩
      | true =>
        rw [e1] at H3 hg
        rw [hb] at H4
        have HX : Hid (r = if sub t f = true then 0 else 221) := Lib.hid (by
          rw [← HR.out]; unfold handN; rw [if_neg (by simp [h1, h2])]
          cases sub t f <;> simp [hg])
        generalize sub t f = sb at *
        clear hb hg e1 h1 h2
        go_enter Try.func66, Try.ntmps66
        go_wp2_with fail
        refine H1.out.mono ?_
        rintro e w1 ⟨rfl, hk⟩
        have Y1 := Lib.hid hk
        clear hk
        go_wp2_with fail
        refine (H2.out w1).mono ?_
        rintro e w2 ⟨rfl, hk⟩
        have Y2 := Lib.hid (Y1.out.trans' hk)
        clear hk
        go_wp2_with fail
        refine (H3.out w2).mono ?_
        rintro e w3 ⟨rfl, hk⟩
        have Y3 := Lib.hid ((Y2.out.trans' hk).trans' (Kept.alloc [] w3 (.cells #[.bool (bitR f 0), .bool (bitR f 1), .bool true, .bool (bitR f 3)] 129)))
        clear hk
        cases sb with
        | true =>
          go_wp2_with fail
          refine (H4.out _).mono ?_
          rintro e w4 ⟨rfl, hk⟩
          have Y4 := Lib.hid (Y3.out.trans' hk)
          clear hk
          go_wp2
          go_ret
          exact ⟨by rw [HX.out]; rfl, Y4.out⟩
        | false =>
          go_wp2_with fail
          refine (H4.out _).mono ?_
          rintro e w4 ⟨rfl, hk⟩
          have Y4 := Lib.hid (Y3.out.trans' hk)
          clear hk
          go_wp2
          go_ret
          exact ⟨by rw [HX.out]; rfl, Y4.out⟩
    · rw [decide_eq_false h2] at H2
      have HX : Hid (r = 220) := Lib.hid (by rw [← HR.out]; unfold handN; rw [if_pos (by omega)])
      clear h1 h2 H3 H4
      go_enter Try.func66, Try.ntmps66
      go_wp2_with fail
      refine H1.out.mono ?_
      rintro e w1 ⟨rfl, hk⟩
      have Y1 := Lib.hid hk
      clear hk
      go_wp2_with fail
      refine (H2.out w1).mono ?_
      rintro e w2 ⟨rfl, hk⟩
      have Y2 := Lib.hid (Y1.out.trans' hk)
      clear hk
      go_wp2
      go_ret
      exact ⟨by rw [HX.out]; rfl, Y2.out⟩
  · rw [decide_eq_false h1] at H1
    have HX : Hid (r = 220) := Lib.hid (by rw [← HR.out]; unfold handN; rw [if_pos (by omega)])
    clear h1 H2 H3 H4
    go_enter Try.func66, Try.ntmps66
    go_wp2_with fail
    refine H1.out.mono ?_
    rintro e w1 ⟨rfl, hk⟩
    have Y1 := Lib.hid hk
    clear hk
    go_wp2
    go_ret
    exact ⟨by rw [HX.out]; rfl, Y1.out⟩
end Go.Proofs.Ytmndckeohfcgkaa
