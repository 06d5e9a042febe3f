/- The walk of CapsCloses. -/
import Derived.Test.YtmndckeohfcgkaaRevokeLaw
import Derived.Deep.QuietTactic
import Derived.BigQuiet
namespace Go.Proofs.Ytmndckeohfcgkaa
open Go.RowKit
theorem under_port {c : CT} (ok : c.ok) {h : Hd} (hh : h ∈ c.live) {x : Int} (hu : Under c.live h.serial x) : ∀ a ∈ c.live, a.serial = x → a.port = h.port := by
  induction hu with
  | self => intro a ha e; rw [ok.tree.uniq ha hh e]
  | @step b hb hu ih =>
    intro a ha e
    have := ok.tree.uniq ha hb e
    subst this
    have h1 := (ok.low h hh).1
    have h2 := hu.le ok.tree
    rcases ok.par a ha with h0 | ⟨q, hq, e1, _, e2, _⟩
    · omega
    · rw [← e2]
      exact ih q hq e1
/-- The roots of a port that have been revoked so far. -/
structure Rooted (c : CT) (ss : List Int) (p : Int) (k : Nat) : Prop where
  port : ∀ x ∈ c.live, x.serial ∈ ss → x.port = p
  done : ∀ x ∈ c.live.take k, x.port = p → x.parent = 0 → x.serial ∈ ss
  left : ∀ x ∈ c.live.drop k, x.parent = 0 → x.serial ∉ ss
theorem minus_minus (c : CT) (s t : List Int) : (c.minus s).minus t = c.minus (s ++ t) := by
  unfold CT.minus
  simp only [List.filter_filter]
  congr 1
  refine List.filter_congr fun h _ => ?_
  simp only [List.contains_eq_mem, List.mem_append]
  by_cases h1 : h.serial ∈ s <;> by_cases h2 : h.serial ∈ t <;> simp [h1, h2]
theorem mem_take_or_drop {l : List Hd} (k : Nat) {x : Hd} (h : x ∈ l) : x ∈ l.take k ∨ x ∈ l.drop k := by
  rw [← List.take_append_drop k l] at h
  exact List.mem_append.1 h
section
variable {c : CT} {ss : List Int} {p : Int} {k : Nat} {h : Hd}
theorem rooted_other (r : Rooted c ss p k) (hh : c.live[k]? = some h) (hno : h.port = p → h.parent ≠ 0) : Rooted c ss p (k + 1) := by
  refine ⟨r.port, fun x hx hp h0 => ?_, fun x hx h0 => r.left x ?_ h0⟩
  · rw [List.take_add_one, hh, List.mem_append] at hx
    rcases hx with hx | hx
    · exact r.done x hx hp h0
    · simp only [Option.toList_some, List.mem_singleton] at hx
      subst hx
      exact absurd h0 (hno hp)
  · exact (List.drop_subset_drop_left c.live (Nat.le_succ k)) hx
theorem rooted_root (ok : c.ok) (oku : (c.minus ss).ok) (r : Rooted c ss p k) (hh : c.live[k]? = some h) (hp : h.port = p) (h0 : h.parent = 0) :
    (c.minus ss).get h.serial = some h ∧ Rooted c (ss ++ below (c.minus ss).live h.serial) p (k + 1) := by
  have hm := List.mem_of_getElem? hh
  have hk := (List.getElem?_eq_some_iff.1 hh)
  have hd : h ∈ c.live.drop k := by
    rw [List.drop_eq_getElem_cons hk.1, hk.2]
    simp
  have hu : h ∈ (c.minus ss).live := mem_minus.2 ⟨hm, r.left h hd h0⟩
  have hself : h.serial ∈ below (c.minus ss).live h.serial := (mem_below oku.tree).2 ⟨⟨h, hu, rfl⟩, .self, h, hu, rfl⟩
  refine ⟨oku.get_mem hu, ⟨fun x hx hs => ?_, fun x hx hxp hx0 => ?_, fun x hx hx0 hs => ?_⟩⟩
  · rcases List.mem_append.1 hs with hs | hs
    · exact r.port x hx hs
    · obtain ⟨⟨y, hy, e⟩, hun, _⟩ := (mem_below oku.tree).1 hs
      have hxy := ok.tree.uniq (mem_minus.1 hy).1 hx e
      subst hxy
      rw [← hp]
      exact under_port oku hu hun y hy rfl
  · rw [List.take_add_one, hh, List.mem_append] at hx
    rcases hx with hx | hx
    · exact List.mem_append_left _ (r.done x hx hxp hx0)
    · simp only [Option.toList_some, List.mem_singleton] at hx
      subst hx
      exact List.mem_append_right _ hself
  · have hxd : x ∈ c.live.drop k := (List.drop_subset_drop_left c.live (Nat.le_succ k)) hx
    rcases List.mem_append.1 hs with hs | hs
    · exact r.left x hxd hx0 hs
    · obtain ⟨_, hun, _⟩ := (mem_below oku.tree).1 hs
      have hlt : h.serial < x.serial := by
        have := List.pairwise_iff_getElem.1 ok.asc
        obtain ⟨i, hi, hix⟩ := List.getElem_of_mem hx
        rw [List.getElem_drop] at hix
        rw [List.length_drop] at hi
        have := this k (k + 1 + i) hk.1 (by omega) (by omega)
        rw [hk.2, hix] at this
        exact this
      rcases hun.inv with e | ⟨a, ha, e, hua⟩
      · omega
      · have := ok.tree.uniq (mem_minus.1 ha).1 (List.mem_of_mem_drop hx) e
        subst this
        have h1 := hua.le oku.tree
        have := (ok.low h hm).1
        omega
theorem rooted_end (ok : c.ok) (oku : (c.minus ss).ok) (r : Rooted c ss p c.live.length) : (c.minus ss).live = (c.close p).live := by
  have hno : ∀ n : Nat, ∀ x ∈ (c.minus ss).live, x.serial.toNat = n → x.port ≠ p := by
    intro n
    induction n using Nat.strongRecOn with
    | ind n ih =>
      intro x hx hn hp
      have hxl := oku.low x hx
      rcases oku.par x hx with h0 | ⟨q, hq, _, e2, e3, _⟩
      · exact (mem_minus.1 hx).2 (r.done x (by rw [List.take_length]; exact (mem_minus.1 hx).1) hp h0)
      · have := oku.low q hq
        exact ih q.serial.toNat (by omega) q hq rfl (e3.trans hp)
  unfold CT.close CT.minus
  refine List.filter_congr fun x hx => ?_
  have h1 : x.serial ∈ ss ↔ x.port = p := by
    constructor
    · exact r.port x hx
    · intro hp
      by_cases hs : x.serial ∈ ss
      · exact hs
      · exact absurd hp (hno _ x (mem_minus.2 ⟨hx, hs⟩) rfl)
  have h2 : x.serial ∈ ofPort c.live p ↔ x.port = p := by
    simp only [ofPort, List.mem_map, List.mem_filter, beq_iff_eq]
    constructor
    · rintro ⟨y, ⟨hy, hyp⟩, e⟩
      rw [← ok.tree.uniq hy hx e]
      exact hyp
    · exact fun hp => ⟨x, ⟨hx, hp⟩, rfl⟩
  have h3 : x.serial ∈ ss ↔ x.serial ∈ ofPort c.live p := h1.trans h2.symm
  simp only [List.contains_eq_mem, decide_eq_decide.2 h3]
theorem port_contains (ok : c.ok) (hh : h ∈ c.live) : (ofPort c.live p).contains h.serial = (h.port == p) := by
  have h2 : h.serial ∈ ofPort c.live p ↔ h.port = p := by
    simp only [ofPort, List.mem_map, List.mem_filter, beq_iff_eq]
    constructor
    · rintro ⟨y, ⟨hy, hyp⟩, e⟩
      rw [← ok.tree.uniq hy hh e]
      exact hyp
    · exact fun hp => ⟨h, ⟨hh, hp⟩, rfl⟩
  by_cases e : h.port = p
  · rw [show (h.port == p) = true by simp [e]]; simpa using h2.2 e
  · rw [show (h.port == p) = false by simp [e]]; simpa using fun hm => e (h2.1 hm)
theorem port_sorted (ok : c.ok) (p : Int) : (ofPort c.live p).Pairwise (· ≤ ·) := by
  have : (c.live.map (·.serial)).Pairwise (fun a b => a ≤ b) := by
    rw [List.pairwise_map]
    exact ok.asc.imp fun h => by omega
  exact this.sublist (List.filter_sublist.map _)
theorem port_len (c : CT) (p : Int) : (ofPort c.live p).length ≤ c.live.length := by
  unfold ofPort
  rw [List.length_map]
  exact List.length_filter_le _ _
theorem port_again (ok : c.ok) (p : Int) : ofPort (c.close p).live p = [] ∧ (c.close p).close p = c.close p := by
  have h1 : ofPort (c.close p).live p = [] := by
    unfold ofPort
    rw [List.map_eq_nil_iff, List.filter_eq_nil_iff]
    intro x hx hp
    obtain ⟨hm, hn⟩ := mem_minus.1 hx
    have := port_contains (p := p) ok hm
    rw [hp] at this
    exact hn (by simpa using this)
  refine ⟨h1, ?_⟩
  have e : (c.close p).close p = (c.close p).minus (ofPort (c.close p).live p) := rfl
  rw [e, h1, minus_nil]
def portN (l : List Hd) (p : Int) : Nat := (l.filter fun h => h.port == p).length
end
set_option maxRecDepth 100000 in
set_option maxHeartbeats 4000000 in
theorem capsCloses_calls {w : World} {A : Option Addr} {cA : Nat} {l : List Sm} (hA : Reads w A (flatS l)) (lA : ∀ x ∈ l, x.ok) (nA : l.length ≤ maxLen) (kA : l.length ≤ cA) (x : Int) (wx : (Lit.int .u8 x).wf = true) :
    Calls Try.prog 3 #[.slice A l.length cA, .int .u8 x] w fun e w' => e = .returned (.bool true) ∧ Kept [] w w' := by
  have HA := Lib.hid hA
  have LA := Lib.hid lA
  have NA := Lib.hid nA
  have KA := Lib.hid kA
  obtain ⟨q, rfl⟩ : ∃ q : Nat, x = (q : Int) := ⟨x.toNat, by have := bounds_u8 wx; omega⟩
  have hq : (q : Int) < 256 := by have := bounds_u8 wx; omega
  clear hA lA nA kA wx
  go_enter Try.func3, Try.ntmps3
  go_wp2_with fail
  refine (awake_calls w).mono ?_
  rintro e w1 ⟨rfl, hk⟩
  have K1 := Lib.hid hk
  clear hk
  go_wp2_with fail
  refine (Made_calls ((St.nil w).kept K1.out) HA.out LA.out NA.out KA.out).mono ?_
  rintro e w2 ⟨a, rfl, hs, hf⟩
  generalize madeAll (newCT 100) (l.take 60) = c at hs hf
  have S2 := Lib.hid hs
  have few := hs.ok.few
  clear hs hf
  go_wp2_with fail
  refine S2.out.copy.mono ?_
  rintro e w3 ⟨b, rfl, hs⟩
  have S3 := Lib.hid hs.swap
  clear hs
  go_wp2_with fail
  refine S3.out.all.mono ?_
  rintro e w4 ⟨A4, p4, rfl, hs⟩
  have S4 := Lib.hid hs
  clear hs
  have hpl := port_len c ((q : Int) % 5)
  go_wp2_with fail
  refine (S4.out.close ((q : Int) % 5)).mono ?_
  rintro e w5 ⟨A5, p5, rfl, hs⟩
  have S5 := Lib.hid hs.up4
  clear hs
  generalize (q : Int) % 5 = p at *
  -- b, a, cut, all
  go_wp2
  go_loopw [11, 39] (fun o i wr => ∃ (k : Nat) (ss : List Int), k ≤ c.live.length ∧ i = .int .i64 k ∧ o = .int .i64 (portN (c.live.take k) p) ∧ Rooted c ss p k ∧
      St w wr [.tab b (c.minus ss), .tab a (c.close p), .row (.slice A5 (ofPort c.live p).length p5) 3 1 (ofPort c.live p).length ((ofPort c.live p).map intV), .row (.slice A4 c.live.length p4) 34 5 c.live.length (flatH c.live)]) (fun _ i _ => c.live.length - (intOf i).toNat)
  case atStart =>
    refine ⟨0, [], Nat.zero_le _, rfl, rfl, ⟨by simp, by simp, by simp⟩, ?_⟩
    rw [minus_nil]
    exact S5.out
  case round =>
    obtain ⟨k, ss, hk, rfl, rfl, hR, hS⟩ := hrel
    by_cases hlt : k < c.live.length
    · obtain ⟨h, hh⟩ : ∃ h, c.live[k]? = some h := ⟨_, List.getElem?_eq_getElem hlt⟩
      have hhm := List.mem_of_getElem? hh
      obtain ⟨b3, o3, rfl, hc3⟩ := (own_reads hS.drop.drop.drop.row).resolve_left (by intro e; rw [flatH_nil.1 e] at hlt; exact Nat.not_lt_zero _ hlt)
      obtain ⟨f0, f1, f2, f3, f4⟩ := hd_cells (Kept.refl [] wr) hc3 hh
      have hS1 := hS.alloc1 34 #[.int .i64 h.serial, .int .i64 h.parent, .int .i64 h.port, .int .i64 h.holder, .int .u8 (h.rights : Int)]
      have hpc := port_contains (p := p) S2.out.ok hhm
      have hcn : ∀ (W : World) (n : Nat), Reads W A5 ((ofPort c.live p).map intV) → Calls Try.prog 16 #[.slice A5 (ofPort c.live p).length p5, .int .i64 h.serial] (W.drewN n) fun e w' => e = .returned (.bool (h.port == p)) ∧ w' = W.drewN n := fun W n hW => by
        refine (contains16 (w := W.drewN n) (cp := p5) (x := h.serial) (hW.imp id fun ⟨b, o, e1, e2⟩ => ⟨b, o, e1, e2⟩) (by omega)).mono ?_
        rintro e w' ⟨rfl, rfl⟩
        exact ⟨by rw [hpc], rfl⟩
      have hpn : portN (c.live.take (k + 1)) p = portN (c.live.take k) p + if h.port == p then 1 else 0 := by
        unfold portN
        rw [List.take_add_one, hh, List.filter_append, Option.toList_some, List.filter_cons, List.filter_nil, List.length_append]
        cases (h.port == p) <;> rfl
      have hple : portN (c.live.take k) p ≤ 256 := by
        have := List.length_filter_le (fun h : Hd => h.port == p) (c.live.take k)
        rw [List.length_take] at this
        unfold portN
        omega
      have T1 := Lib.hid hS1
      have HCN := Lib.hid hcn
      have HPN := Lib.hid hpn
      have HR := Lib.hid hR
      have HH := Lib.hid hh
      clear hS hS1 hpc hcn hpn hR hh hc3 hhm
      by_cases hp : h.port = p
      · have hpb : (h.port == p) = true := by simp [hp]
        rw [hpb] at HCN HPN
        by_cases h0 : h.parent = 0
        · have h0b : (h.parent == 0) = true := by simp [h0]
          have hrr := rooted_root S2.out.ok (St.ok T1.out) HR.out HH.out hp h0
          have hbr : (c.minus ss).belowRes h.serial = (below (c.minus ss).live h.serial, 0) := by unfold CT.belowRes; rw [hrr.1]
          have hrv : (c.minus ss).revoke h.serial = c.minus (ss ++ below (c.minus ss).live h.serial) := by unfold CT.revoke; rw [hbr]; exact minus_minus _ _ _
          have HR2 := Lib.hid hrr.2
          have HBR := Lib.hid hbr
          have HRV := Lib.hid hrv
          clear hrr hbr hrv hp h0
          go_wp2
          go_quiet (first | (go_at_call 16; refine Calls.quiet_of_same (HCN.out _ _ ?_); exact own_reads T1.out.drop.drop.drop.row))
          have T2 := Lib.hid (T1.out.kept (Kept.drewN _ _ nq))
          go_wp2_with fail
          refine (T2.out.revoke' h.serial HBR.out HRV.out).mono ?_
          rintro e w6 ⟨A6, p6, rfl, hs⟩
          have T3 := Lib.hid hs.swap.drop.swap.drop
          clear hs
          go_wp2
          go_roundw
          case rel => exact ⟨k + 1, _, by omega, by go_num, by rw [HPN.out]; rfl, HR2.out, T3.out⟩
          case measure => simp [intOf]; omega
        · have h0b : (h.parent == 0) = false := by simp [h0]
          have HR2 := Lib.hid (rooted_other HR.out HH.out fun _ => h0)
          clear hp h0
          go_wp2
          go_quiet (first | (go_at_call 16; refine Calls.quiet_of_same (HCN.out _ _ ?_); exact own_reads T1.out.drop.drop.drop.row))
          have T2 := Lib.hid (T1.out.kept (Kept.drewN _ _ nq))
          go_wp2
          go_roundw
          case rel => exact ⟨k + 1, _, by omega, by go_num, by rw [HPN.out]; rfl, HR2.out, T2.out.swap.drop⟩
          case measure => simp [intOf]; omega
      · have hpb : (h.port == p) = false := by simp [hp]
        rw [hpb] at HCN HPN
        have HR2 := Lib.hid (rooted_other HR.out HH.out fun e => absurd e hp)
        clear hp
        go_wp2
        go_quiet (first | (go_at_call 16; refine Calls.quiet_of_same (HCN.out _ _ ?_); exact own_reads T1.out.drop.drop.drop.row))
        have T2 := Lib.hid (T1.out.kept (Kept.drewN _ _ nq))
        go_wp2
        go_roundw
        case rel => exact ⟨k + 1, _, by omega, by go_num, by rw [HPN.out]; rfl, HR2.out, T2.out.swap.drop⟩
        case measure => simp [intOf]; omega
    · obtain rfl : k = c.live.length := by omega
      rw [List.take_length]
      have hpn : portN c.live p = (ofPort c.live p).length := by unfold portN ofPort; rw [List.length_map]
      rw [hpn]
      have hlv := rooted_end S2.out.ok (St.ok hS) hR
      have hag := port_again S2.out.ok p
      have hcl : (c.close p).live.length ≤ 256 := (St.ok hS.swap).few
      have T1 := Lib.hid hS
      have HLV := Lib.hid hlv
      have HAG := Lib.hid hag
      have hnu : (c.minus ss).next = c.next := rfl
      have hnt : (c.close p).next = c.next := rfl
      have HSRT := Lib.hid (port_sorted S2.out.ok p)
      clear hS hR hpn hlv hag
      go_wp2_with fail
      refine (sorted18 (own_reads T1.out.drop.drop.row) (by omega) HSRT.out).mono ?_
      rintro e v1 ⟨rfl, hk1⟩
      have T2 := Lib.hid (T1.out.kept hk1).swap
      clear hk1
      go_wp2_with fail
      refine T2.out.all.mono ?_
      rintro e v2 ⟨B2, q2, rfl, hs⟩
      have T3 := Lib.hid hs.up3
      clear hs
      -- b, a, rowA, ..
      have hal := T3.out.all
      rw [HLV.out] at hal
      go_wp2_with fail
      refine hal.mono ?_
      rintro e v3 ⟨B3, q3, rfl, hs⟩
      have T4 := Lib.hid hs
      clear hs hal
      go_wp2_with fail
      refine (sameH (own_reads T4.out.drop.drop.drop.row) (own_reads T4.out.drop.row) (by omega)).mono ?_
      rintro e v4 ⟨rfl, hk1⟩
      have T5 := Lib.hid (T4.out.kept hk1).up3
      clear hk1
      go_wp2_with fail
      refine (T5.out.close' p HAG.out.1 HAG.out.2).mono ?_
      rintro e v5 ⟨B5, q5, rfl, hs⟩
      have T6 := Lib.hid hs
      clear hs
      have hn1 := T6.out.next
      rw [hnt] at hn1
      go_wp2_with fail
      refine hn1.mono ?_
      rintro e v' ⟨rfl, rfl⟩
      have hn2 := T6.out.up3.next
      rw [hnu] at hn2
      go_wp2_with fail
      refine hn2.mono ?_
      rintro e v' ⟨rfl, rfl⟩
      clear hn1 hn2 hnu hnt
      go_wp2
      go_ret
      exact ⟨rfl, T6.out.whole⟩
end Go.Proofs.Ytmndckeohfcgkaa
