/- The plain law of CapsSmall: 256 handles, 256 places. -/
import Derived.Test.YtmndckeohfcgkaaNils
namespace Go.Proofs.Ytmndckeohfcgkaa
def hd1 (i : Nat) : Hd := ⟨(i : Int) + 1, 0, i, ((i % 17 : Nat) : Int), 15⟩
structure Q1 (k : Nat) (c : CT) : Prop where
  next : c.next = (k : Int) + 1
  live : c.live = (List.range k).map hd1
  pl : ∀ p : Nat, p < 17 → ∃ l, c.places[p]? = some l ∧ l.length = (k + 16 - p) / 17
theorem new_places (n : Int) (p : Nat) (hp : p < 17) : (newCT n).places[p]? = some [] := by
  unfold newCT
  simp only
  rw [List.getElem?_replicate, if_pos hp]
theorem Q1.zero : Q1 0 (newCT 1) := ⟨rfl, rfl, fun p hp => ⟨[], new_places 1 p hp, by simp; omega⟩⟩
theorem add_places (c : CT) (x : Hd) (p : Nat) {l : List Int} (h : c.places[p]? = some l) : (c.add x).places[p]? = some (if x.holder.toNat = p then l ++ [c.next] else l) := by
  simp only [CT.add]
  rw [modify_get, h]
  by_cases e : x.holder.toNat = p
  · rw [if_pos e, if_pos e]; rfl
  · rw [if_neg e, if_neg e]
theorem rootRes_in {c : CT} {port holder : Int} {t : Nat} (h1 : 0 ≤ port ∧ port ≤ 4294967295) (h2 : holds holder = true) (h3 : t ≤ 15) : c.rootRes port holder t = c.addRes holder := by
  unfold CT.rootRes
  rw [if_neg (by simp [h1, h2]), if_neg (by omega)]
theorem holds_nat {p : Nat} (h : p < 17) : holds (p : Int) = true := by simp [holds]; omega
theorem Q1.step {k : Nat} {c : CT} (h : Q1 k c) (hk : k < 256) {o : Int} (ho : o = ((k % 17 : Nat) : Int)) : c.rootRes k o 15 = ((k : Int) + 1, 0) ∧ Q1 (k + 1) (c.root k o 15) := by
  subst ho
  have hp : k % 17 < 17 := Nat.mod_lt _ (by omega)
  obtain ⟨l, hl, hll⟩ := h.pl (k % 17) hp
  have h1 : c.rootRes k ((k % 17 : Nat) : Int) 15 = ((k : Int) + 1, 0) := by
    rw [rootRes_in ⟨by omega, by omega⟩ (holds_nat hp) (by omega)]
    unfold CT.addRes
    rw [h.live, h.next, show (((k % 17 : Nat) : Int)).toNat = k % 17 by omega, hl]
    simp only [List.length_map, List.length_range, Option.getD_some]
    rw [if_neg (by omega), if_neg (by omega)]
  refine ⟨h1, ?_⟩
  unfold CT.root
  rw [h1]
  simp only [if_true]
  refine ⟨by simp only [CT.add]; rw [h.next]; omega, ?_, fun p hp' => ?_⟩
  · simp only [CT.add]
    rw [h.live, h.next, List.range_succ, List.map_append]
    rfl
  · obtain ⟨lp, h3, h4⟩ := h.pl p hp'
    refine ⟨_, add_places c _ p h3, ?_⟩
    by_cases e : k % 17 = p
    · rw [if_pos (by simp only; omega), List.length_append, h4]
      simp only [List.length_cons, List.length_nil]
      omega
    · rw [if_neg (by simp only; omega), h4]
      omega
theorem below_five : below ((List.range 256).map hd1) 5 = [5] := by decide +kernel
theorem live_five : (((List.range 256).map hd1).filter fun h => !([5] : List Int).contains h.serial).length = 255 := by decide +kernel
theorem find_five : ((List.range 256).map hd1).find? (fun h => h.serial == 5) = some (hd1 4) := by decide +kernel
theorem find_one : ((List.range 256).map hd1).find? (fun h => h.serial == 1) = some (hd1 0) := by decide +kernel
theorem find_one' : (((List.range 256).map hd1).filter fun h => !([5] : List Int).contains h.serial).find? (fun h => h.serial == 1) = some (hd1 0) := by decide +kernel
theorem hand_one : handN 15 1 = 0 := by decide +kernel
theorem hand_all : handN 15 15 = 0 := by decide +kernel
theorem Q1.many {c : CT} (h : Q1 256 c) : c.rootRes 0 0 15 = (0, 5) ∧ c.root 0 0 15 = c ∧ c.deriveRes 1 0 1 = (0, 5) ∧ c.derive 1 0 1 = c ∧ c.belowRes 5 = ([5], 0) ∧ (c.revoke 5).deriveRes 1 0 1 = (257, 0) := by
  have hlen : c.live.length = 256 := by rw [h.live]; simp
  have hadd : c.addRes 0 = (0, 5) := by unfold CT.addRes; rw [if_pos (by omega)]
  have h1 : c.rootRes 0 0 15 = (0, 5) := by rw [rootRes_in ⟨by omega, by omega⟩ (by decide) (by omega), hadd]
  have g1 : c.get 1 = some (hd1 0) := by unfold CT.get; rw [h.live, find_one]
  have g5 : c.get 5 = some (hd1 4) := by unfold CT.get; rw [h.live, find_five]
  have hd : c.deriveRes 1 0 1 = (0, 5) := by
    unfold CT.deriveRes
    rw [g1]
    simp only
    rw [if_neg (by decide), if_neg (by simp only [hd1]; rw [hand_one]; simp), hadd]
  have hb : c.belowRes 5 = ([5], 0) := by unfold CT.belowRes; rw [g5, h.live, below_five]
  refine ⟨h1, ?_, hd, ?_, hb, ?_⟩
  · unfold CT.root; rw [h1]; rfl
  · unfold CT.derive; rw [hd]; rfl
  · have hrv : c.revoke 5 = c.minus [5] := by unfold CT.revoke; rw [hb]
    rw [hrv]
    have hg : (c.minus [5]).get 1 = some (hd1 0) := by
      unfold CT.get CT.minus
      simp only
      rw [h.live, find_one']
    obtain ⟨l, hl, hll⟩ := h.pl 0 (by omega)
    unfold CT.deriveRes
    rw [hg]
    simp only
    rw [if_neg (by decide), if_neg (by simp only [hd1]; rw [hand_one]; simp)]
    unfold CT.addRes CT.minus
    simp only
    rw [h.live, live_five, h.next, if_neg (by omega), show ((0 : Int)).toNat = 0 from rfl, hl]
    simp only [Option.getD_some]
    rw [if_neg (by omega)]
    rfl
structure Q2 (k : Nat) (c : CT) : Prop where
  next : c.next = 100 + (k : Int)
  live : c.live = []
  pl : ∀ p : Nat, p < 17 → ∃ l, c.places[p]? = some l ∧ l.length = if p = 3 then k else 0
theorem Q2.zero : Q2 0 (newCT 100) := ⟨rfl, rfl, fun p hp => ⟨[], new_places 100 p hp, by simp⟩⟩
theorem Q2.step {k : Nat} {c : CT} (h : Q2 k c) (hk : k < 256) : c.rootRes 1 3 15 = (100 + (k : Int), 0) ∧ ofPort (c.root 1 3 15).live 1 = [100 + (k : Int)] ∧ Q2 (k + 1) ((c.root 1 3 15).close 1) := by
  obtain ⟨l, hl, hll⟩ := h.pl 3 (by omega)
  rw [if_pos rfl] at hll
  have h1 : c.rootRes 1 3 15 = (100 + (k : Int), 0) := by
    rw [rootRes_in ⟨by omega, by omega⟩ (by decide) (by omega)]
    unfold CT.addRes
    rw [h.live, h.next, show ((3 : Int)).toNat = 3 from rfl, hl]
    simp only [List.length_nil, Option.getD_some]
    rw [if_neg (by omega), if_neg (by omega)]
  have h2 : c.root 1 3 15 = c.add ⟨0, 0, 1, 3, 15⟩ := by unfold CT.root; rw [h1]; rfl
  have h3 : (c.add ⟨0, 0, 1, 3, 15⟩).live = [⟨100 + (k : Int), 0, 1, 3, 15⟩] := by simp only [CT.add]; rw [h.live, h.next]; rfl
  have h4 : ofPort (c.root 1 3 15).live 1 = [100 + (k : Int)] := by rw [h2, h3]; rfl
  refine ⟨h1, h4, ?_⟩
  unfold CT.close
  rw [h4, h2]
  refine ⟨by simp only [CT.minus, CT.add]; rw [h.next]; omega, ?_, fun p hp => ?_⟩
  · simp only [CT.minus]
    rw [h3]
    simp
  · obtain ⟨lp, h5, h6⟩ := h.pl p hp
    refine ⟨_, by simp only [CT.minus]; exact add_places c _ p h5, ?_⟩
    by_cases e : p = 3
    · subst e
      rw [if_pos rfl] at h6
      change (lp ++ [c.next]).length = k + 1
      rw [List.length_append, h6]
      rfl
    · rw [if_neg e] at h6
      rw [if_neg (by simp only; omega), h6, if_neg e]
theorem Q2.full {c : CT} (h : Q2 256 c) : c.rootRes 1 3 15 = (0, 4) ∧ c.root 1 3 15 = c ∧ c.rootRes 1 4 15 = (356, 0) ∧ (c.root 1 4 15).deriveRes 356 3 15 = (0, 4) ∧ (c.root 1 4 15).derive 356 3 15 = c.root 1 4 15 ∧ ((c.root 1 4 15).at 3).length = 256 := by
  obtain ⟨l3, hl3, hll3⟩ := h.pl 3 (by omega)
  obtain ⟨l4, hl4, hll4⟩ := h.pl 4 (by omega)
  rw [if_pos rfl] at hll3
  rw [if_neg (by omega)] at hll4
  have h1 : c.rootRes 1 3 15 = (0, 4) := by
    rw [rootRes_in ⟨by omega, by omega⟩ (by decide) (by omega)]
    unfold CT.addRes
    rw [h.live, show ((3 : Int)).toNat = 3 from rfl, hl3]
    simp only [List.length_nil, Option.getD_some]
    rw [if_neg (by omega), if_pos (.inr (by omega))]
  have h2 : c.rootRes 1 4 15 = (356, 0) := by
    rw [rootRes_in ⟨by omega, by omega⟩ (by decide) (by omega)]
    unfold CT.addRes
    rw [h.live, h.next, show ((4 : Int)).toNat = 4 from rfl, hl4]
    simp only [List.length_nil, Option.getD_some]
    rw [if_neg (by omega), if_neg (by omega)]
    rfl
  have h3 : c.root 1 4 15 = c.add ⟨0, 0, 1, 4, 15⟩ := by unfold CT.root; rw [h2]; rfl
  have h4 : (c.add ⟨0, 0, 1, 4, 15⟩).live = [⟨356, 0, 1, 4, 15⟩] := by simp only [CT.add]; rw [h.live, h.next]; rfl
  have h5 : (c.add ⟨0, 0, 1, 4, 15⟩).places[3]? = some l3 := by
    have := add_places c ⟨0, 0, 1, 4, 15⟩ 3 hl3
    rwa [if_neg (by simp)] at this
  have h6 : (c.root 1 4 15).deriveRes 356 3 15 = (0, 4) := by
    rw [h3]
    have hg : (c.add ⟨0, 0, 1, 4, 15⟩).get 356 = some ⟨356, 0, 1, 4, 15⟩ := by unfold CT.get; rw [h4]; rfl
    unfold CT.deriveRes
    rw [hg]
    simp only
    rw [if_neg (by decide), if_neg (by rw [hand_all]; simp)]
    unfold CT.addRes
    rw [h4, show ((3 : Int)).toNat = 3 from rfl, h5]
    simp only [List.length_cons, List.length_nil, Option.getD_some]
    rw [if_neg (by omega), if_pos (.inr (by omega))]
  refine ⟨h1, by unfold CT.root; rw [h1]; rfl, h2, h6, by unfold CT.derive; rw [h6]; rfl, ?_⟩
  rw [h3]
  unfold CT.at
  rw [if_pos (by decide), show ((3 : Int)).toNat = 3 from rfl, h5]
  exact hll3
end Go.Proofs.Ytmndckeohfcgkaa
