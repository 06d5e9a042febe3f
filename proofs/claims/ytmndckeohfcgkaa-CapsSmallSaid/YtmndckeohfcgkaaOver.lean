/- fermatakit's OverInts: it writes a whole own row. -/
import Derived.Test.YtmndckeohfcgkaaRefIs
namespace Go.Proofs.Ytmndckeohfcgkaa
open Go.RowKit
set_option maxRecDepth 100000 in
set_option maxHeartbeats 1000000 in
theorem Over_calls {w : World} {A : Option Addr} {cap n : Nat} {xs : List Value} (ho : w.ownsRow 0 3 1 (.slice A n cap) n xs) (hn : n ≤ 1024) :
    Calls Try.prog 71 #[.slice A n cap] w fun e w' => e = .returned (.tuple #[]) ∧ Kept (Value.slice A n cap).ownBlock.toList w w' := by
  have hm : ∃ m : Nat, m ≤ cap ∧ m ≤ 1036 ∧ min (cap : Int) (n + 12) = (m : Int) := by
    by_cases h : cap ≤ n + 12
    · exact ⟨cap, Nat.le_refl _, by omega, by omega⟩
    · exact ⟨n + 12, by omega, by omega, by omega⟩
  obtain ⟨m, hm1, hm2, hmin⟩ := hm
  have hmc : (m : Int) ≤ cap := by omega
  have hcm : cap ≤ 9223372036854775807 := by
    rcases ho.2 with ⟨e, _⟩ | ⟨g, cp, cur, e, _, _, _, h, _⟩
    · cases e; omega
    · cases e; unfold maxLen at h; omega
  have hst : Hid (∀ k, k < m → ∃ g, A = some ⟨g, 0, none⟩ ∧ ∃ cur : Array Value, cur.size = cap ∧ Blk w g 3 cur) := Lib.hid fun k hk => by
    rcases ho.2 with ⟨e, _⟩ | ⟨g, cp, cur, e, _, hg, _, _, hs, _⟩
    · cases e; omega
    · cases e; exact ⟨g, rfl, cur, by simpa using hs, hg⟩
  clear ho
  go_enter Try.func71, Try.ntmps71
  go_wp2
  go_loopw [3] (fun i wr => ∃ k : Nat, k ≤ m ∧ i = .int .i64 k ∧ Kept (Value.slice A n cap).ownBlock.toList w wr ∧ (k < m → ∃ g, A = some ⟨g, 0, none⟩ ∧ ∃ cur : Array Value, cur.size = cap ∧ Blk wr g 3 cur)) (fun i _ => m - (intOf i).toNat)
  case atStart => exact ⟨0, Nat.zero_le _, rfl, Kept.refl _ _, fun h => hst.out 0 h⟩
  case round =>
    obtain ⟨k, hk, rfl, hK, hB⟩ := hrel
    by_cases hlt : k < m
    · obtain ⟨g, rfl, cur, hc, hb⟩ := hB hlt
      have c0 : ∃ v, wr.cell? ⟨g, k, none⟩ = some v := ⟨cur[k]'(by omega), by rw [hb.cell k]; exact Array.getElem?_eq_getElem (by omega)⟩
      obtain ⟨v0, c0⟩ := c0
      have z := hb.frozen k
      have X := Lib.hid hK
      have B := Lib.hid hb
      clear hK hB hb
      go_wp2_with (first
        | (go_at_call 90
           refine (mark_calls _ _ _).mono ?_
           rintro e w' ⟨⟨v, rfl⟩, rfl⟩))
      go_roundw
      case rel =>
        refine ⟨k + 1, by omega, by go_num, X.out.trans' (Kept.setCell (by simp [Value.ownBlock]) _ _), fun _ => ⟨g, rfl, _, ?_, B.out.set_ k _⟩⟩
        simpa using hc
      case measure => simp [intOf]; omega
    · obtain rfl : k = m := by omega
      have X := Lib.hid hK
      clear hK hB
      go_wp2
      refine ⟨rfl, _, results_none rfl, ?_⟩
      exact ⟨rfl, X.out⟩
end Go.Proofs.Ytmndckeohfcgkaa
