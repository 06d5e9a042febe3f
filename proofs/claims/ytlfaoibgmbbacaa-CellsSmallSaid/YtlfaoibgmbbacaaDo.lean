/- The walk of do of the laws on cells. -/
import Derived.Test.YtlfaoibgmbbacaaMade
namespace Go.Proofs.Ytlfaoibgmbbacaa
open Go.RowKit

structure Sm where
  kind : Nat
  cell : Nat
  value : Nat
def Sm.ok (x : Sm) : Prop := x.kind < 256 ∧ x.cell < 256 ∧ x.value < 256
def smV (x : Sm) : List Value := [.int .u8 (x.kind : Int), .int .u8 (x.cell : Int), .int .u8 (x.value : Int)]
def flatS (l : List Sm) : List Value := l.flatMap smV
theorem flatS_len (l : List Sm) : (flatS l).length = l.length * 3 := by
  induction l with
  | nil => rfl
  | cons x l ih => simp only [flatS, List.flatMap_cons, List.length_append, List.length_cons] at ih ⊢; rw [ih]; simp [smV]; omega
theorem flatS_nil {l : List Sm} : flatS l = [] ↔ l = [] := by
  constructor
  · intro h
    have := flatS_len l
    rw [h] at this
    simp only [List.length_nil] at this
    exact List.eq_nil_of_length_eq_zero (by omega)
  · rintro rfl; rfl
theorem flatS_get {l : List Sm} {k i : Nat} {x : Sm} {u : Value} (h : l[k]? = some x) (hi : i < 3) (hu : (smV x)[i]? = some u) : (flatS l)[k * 3 + i]? = some u := by
  induction l generalizing k with
  | nil => simp at h
  | cons y l ih =>
    have e : flatS (y :: l) = smV y ++ flatS l := rfl
    rw [e]
    cases k with
    | zero =>
      simp only [List.getElem?_cons_zero, Option.some.injEq] at h
      subst h
      rw [Nat.zero_mul, Nat.zero_add, List.getElem?_append_left (by simpa [smV] using hi)]
      exact hu
    | succ k =>
      rw [List.getElem?_append_right (by simp [smV]; omega)]
      have : (k + 1) * 3 + i - (smV y).length = k * 3 + i := by simp [smV]; omega
      rw [this]
      exact ih (by simpa using h)

/-- Where the n-th of the nine cells is: owner and index. -/
def spot (n : Nat) : Nat × Nat := if 5 ≤ n then (4, n - 5) else if 2 ≤ n then (2, n - 2) else (1, n)
def doStep (marks : Bool) (floor : Int) (c : CM) (x : Sm) : CM :=
  if x.kind % 8 < 5 ∨ marks = false then c.store (spot (x.cell % 9)).1 (spot (x.cell % 9)).2 (x.value % 4 : Nat)
  else if x.kind % 8 = 5 then c.mark
  else if (c.marks.length : Int) ≤ floor then c.mark
  else if x.kind % 8 = 6 then c.back
  else c.keep
def doAll (marks : Bool) (floor : Int) (c : CM) (l : List Sm) : CM := l.foldl (doStep marks floor) c
def CM.ok (c : CM) : Prop := lens c.now = [2, 3, 0, 4] ∧ ∀ s ∈ c.marks, lens s = [2, 3, 0, 4]

theorem store_ok {c : CM} (h : c.ok) (o i v : Int) : (c.store o i v).ok := by
  unfold CM.store
  split
  · exact ⟨by simp only [lens_put]; exact h.1, h.2⟩
  · exact h
theorem mark_ok {c : CM} (h : c.ok) : c.mark.ok := by
  unfold CM.mark
  split
  · exact h
  · refine ⟨h.1, fun s hs => ?_⟩
    rcases List.mem_append.1 hs with hs | hs
    · exact h.2 s hs
    · simp only [List.mem_singleton] at hs
      subst hs
      exact h.1
theorem back_ok {c : CM} (h : c.ok) : c.back.ok := by
  unfold CM.back
  split
  · exact h
  · rename_i s hs
    exact ⟨h.2 s (List.mem_of_getLast? hs), fun t ht => h.2 t ((List.dropLast_sublist _).subset ht)⟩
theorem keep_ok {c : CM} (h : c.ok) : c.keep.ok := ⟨h.1, fun t ht => h.2 t ((List.dropLast_sublist _).subset ht)⟩
theorem doStep_ok {c : CM} (h : c.ok) (marks : Bool) (floor : Int) (x : Sm) : (doStep marks floor c x).ok := by
  unfold doStep
  repeat' split
  · exact store_ok h _ _ _
  · exact mark_ok h
  · exact mark_ok h
  · exact back_ok h
  · exact keep_ok h
theorem doAll_ok {c : CM} (h : c.ok) (marks : Bool) (floor : Int) (l : List Sm) : (doAll marks floor c l).ok := by
  induction l generalizing c with
  | nil => exact h
  | cons x l ih => exact ih (doStep_ok h _ _ _)

theorem spot_load {c : CM} (h : c.ok) {n : Nat} (hn : n < 9) : (c.load ((spot n).1 : Nat) ((spot n).2 : Nat)).2 = 0 := by
  have h1 := h.1
  have hlen : c.now.length = 4 := by have := congrArg List.length h1; simpa [lens] using this
  have hget : ∀ k : Nat, (c.now[k]?.map List.length) = [2, 3, 0, 4][k]? := fun k => by rw [← h1]; simp [lens]
  have key : ∀ o i len : Nat, 1 ≤ o → [2, 3, 0, 4][o - 1]? = some len → i < len → o ≤ 4 → (c.load (o : Int) (i : Int)).2 = 0 := by
    intro o i len h1 h2 h3 h4
    have hg := hget (o - 1)
    rw [h2] at hg
    obtain ⟨xs, hx, hxl⟩ := Option.map_eq_some_iff.1 hg
    unfold CM.load
    have e1 : ((o : Int) - 1).toNat = o - 1 := by omega
    rw [if_neg (by rw [hlen]; omega), e1, hx]
    simp only [Option.getD_some]
    rw [if_neg (by omega)]
  unfold spot
  split
  · exact key 4 (n - 5) 4 (by omega) rfl (by omega) (by omega)
  · split
    · exact key 2 (n - 2) 3 (by omega) rfl (by omega) (by omega)
    · exact key 1 n 2 (by omega) rfl (by omega) (by omega)
theorem St.spot {w0 w : World} {rs : List Res} {a : Nat} {c : CM} (h : St w0 w (.mem a c :: rs)) (hok : c.ok) {x : Sm} {marks : Bool} {floor : Int} (hA : x.kind % 8 < 5 ∨ marks = false)
    {o i v : Int} (ho : o = (spot (x.cell % 9)).1) (hi : i = (spot (x.cell % 9)).2) (hv : v = (x.value % 4 : Nat)) :
    ∃ r : Int, Calls Try.prog 24 #[.pointer (some ⟨a, 0, none⟩), .int .i64 o, .int .i64 i, .int .i64 v] w fun e w' => e = .returned (.tuple #[.int .i64 r, .int .i64 0]) ∧ St w0 w' (.mem a (doStep marks floor c x) :: rs) := by
  have h0 := spot_load hok (n := x.cell % 9) (by omega)
  rw [← ho, ← hi] at h0
  refine ⟨(c.load o i).1, (h.store o i v (r := ((c.load o i).1, 0)) (by rw [← h0]) rfl).mono ?_⟩
  rintro e w' ⟨rfl, hs⟩
  refine ⟨rfl, ?_⟩
  have : doStep marks floor c x = c.store o i v := by
    unfold doStep
    rw [if_pos hA, ho, hi, hv]
  rw [this]
  exact hs

set_option maxRecDepth 100000 in
set_option maxHeartbeats 1000000 in
theorem do_few {w0 w : World} {rs : List Res} {a : Nat} {c : CM} (h : St w0 w (.mem a c :: rs)) (hok : c.ok) {A : Option Addr} {cp : Nat} {l : List Sm} (hr : Reads w0 A (flatS l)) (hl : ∀ x ∈ l, x.ok) (hn : l.length ≤ maxLen) (hcp : l.length ≤ cp) (h60 : l.length ≤ 60) (marks : Bool) (floor : Int) :
    Calls Try.prog 12 #[.pointer (some ⟨a, 0, none⟩), .slice A l.length cp, .bool marks, .int .i64 floor] w fun e w' => e = .returned (.bool true) ∧ St w0 w' (.mem a (doAll marks floor c (l.take 60)) :: rs) := by
  have HR := Lib.hid hr
  have HL := Lib.hid hl
  have H0 := Lib.hid h
  unfold maxLen at hn
  clear hr hl h
  have hm : ¬ (60 : Int) < l.length := by omega
  go_enter Try.func12, Try.ntmps12
  go_wp2
  go_loopw [23] (fun i wr => ∃ k : Nat, k ≤ l.length ∧ i = .int .i64 k ∧ St w0 wr (.mem a (doAll marks floor c (l.take k)) :: rs)) (fun i _ => l.length - (intOf i).toNat)
  case atStart => exact ⟨0, by omega, rfl, H0.out⟩
  case round =>
    obtain ⟨k, hk, rfl, hS⟩ := hrel
    by_cases hlt : k < l.length
    · obtain ⟨x, hx⟩ : ∃ x, l[k]? = some x := ⟨_, List.getElem?_eq_getElem (by omega)⟩
      obtain ⟨x1, x2, x3⟩ := HL.out x (List.mem_of_getElem? hx)
      obtain ⟨b, off, rfl, hc⟩ := HR.out.resolve_left (by intro e; rw [flatS_nil.1 e] at hx; simp at hx)
      have hK := hS.whole
      have c0 : wr.cell? ⟨b, off + k * 3, none⟩ = _ := hK.cell (hc (k * 3 + 0) _ (flatS_get hx (by omega) rfl)) (by simp)
      have c1 : wr.cell? ⟨b, off + k * 3 + 1, none⟩ = _ := hK.cell (hc (k * 3 + 1) _ (flatS_get hx (by omega) rfl)) (by simp)
      have c2 : wr.cell? ⟨b, off + k * 3 + 2, none⟩ = _ := hK.cell (hc (k * 3 + 2) _ (flatS_get hx (by omega) rfl)) (by simp)
      have e1 : doAll marks floor c (l.take (k + 1)) = doStep marks floor (doAll marks floor c (l.take k)) x := by
        rw [List.take_add_one, hx]
        simp [doAll]
      have hok2 : (doAll marks floor c (l.take k)).ok := doAll_ok hok _ _ _
      generalize doAll marks floor c (l.take k) = d at *
      have E1 := Lib.hid e1
      have S1 := Lib.hid (hS.kept (Kept.alloc _ _ (.cells #[.int .u8 (x.kind : Int), .int .u8 (x.cell : Int), .int .u8 (x.value : Int)] 68)))
      have OK := Lib.hid hok2
      clear e1 hS hK hok2 hx hc
      by_cases hk5 : x.kind % 8 < 5
      · have HA : Hid (x.kind % 8 < 5 ∨ marks = false) := .inl hk5
        have hk5' : (x.kind : Int) % 8 < 5 := by omega
        by_cases h5 : 5 ≤ x.cell % 9
        · have h5' : (5 : Int) ≤ (x.cell : Int) % 9 := by omega
          obtain ⟨r, hst⟩ := S1.out.spot (marks := marks) (floor := floor) OK.out HA.out (o := 4) (i := (x.cell : Int) % 9 - 5) (v := (x.value : Int) % 4) (by simp [spot, h5]) (by simp [spot, h5]; omega) (by omega)
          have ST := Lib.hid hst
          clear hst
          go_wp2_with (go_at_call 24; refine ST.out.mono ?_; rintro e w' ⟨rfl, hs⟩; have S2 := Lib.hid hs; clear hs)
          go_roundw
          case rel => exact ⟨k + 1, by omega, by go_num, by rw [E1.out]; exact S2.out⟩
          case measure => simp [intOf]; omega
        · by_cases h2 : 2 ≤ x.cell % 9
          · have h5' : (x.cell : Int) % 9 < 5 := by omega
            have h2' : (2 : Int) ≤ (x.cell : Int) % 9 := by omega
            obtain ⟨r, hst⟩ := S1.out.spot (marks := marks) (floor := floor) OK.out HA.out (o := 2) (i := (x.cell : Int) % 9 - 2) (v := (x.value : Int) % 4) (by simp [spot, h5, h2]) (by simp [spot, h5, h2]; omega) (by omega)
            have ST := Lib.hid hst
            clear hst
            go_wp2_with (go_at_call 24; refine ST.out.mono ?_; rintro e w' ⟨rfl, hs⟩; have S2 := Lib.hid hs; clear hs)
            go_roundw
            case rel => exact ⟨k + 1, by omega, by go_num, by rw [E1.out]; exact S2.out⟩
            case measure => simp [intOf]; omega
          · have h5' : (x.cell : Int) % 9 < 5 := by omega
            have h2' : (x.cell : Int) % 9 < 2 := by omega
            obtain ⟨r, hst⟩ := S1.out.spot (marks := marks) (floor := floor) OK.out HA.out (o := 1) (i := (x.cell : Int) % 9) (v := (x.value : Int) % 4) (by simp [spot, h5, h2]) (by simp [spot, h5, h2]) (by omega)
            have ST := Lib.hid hst
            clear hst
            go_wp2_with (go_at_call 24; refine ST.out.mono ?_; rintro e w' ⟨rfl, hs⟩; have S2 := Lib.hid hs; clear hs)
            go_roundw
            case rel => exact ⟨k + 1, by omega, by go_num, by rw [E1.out]; exact S2.out⟩
            case measure => simp [intOf]; omega
      · have hk5' : (5 : Int) ≤ (x.kind : Int) % 8 := by omega
        cases marks with
        | false =>
          have HA : Hid (x.kind % 8 < 5 ∨ false = false) := .inr rfl
          by_cases h5 : 5 ≤ x.cell % 9
          · have h5' : (5 : Int) ≤ (x.cell : Int) % 9 := by omega
            obtain ⟨r, hst⟩ := S1.out.spot (marks := false) (floor := floor) OK.out HA.out (o := 4) (i := (x.cell : Int) % 9 - 5) (v := (x.value : Int) % 4) (by simp [spot, h5]) (by simp [spot, h5]; omega) (by omega)
            have ST := Lib.hid hst
            clear hst
            go_wp2_with (go_at_call 24; refine ST.out.mono ?_; rintro e w' ⟨rfl, hs⟩; have S2 := Lib.hid hs; clear hs)
            go_roundw
            case rel => exact ⟨k + 1, by omega, by go_num, by rw [E1.out]; exact S2.out⟩
            case measure => simp [intOf]; omega
          · by_cases h2 : 2 ≤ x.cell % 9
            · have h5' : (x.cell : Int) % 9 < 5 := by omega
              have h2' : (2 : Int) ≤ (x.cell : Int) % 9 := by omega
              obtain ⟨r, hst⟩ := S1.out.spot (marks := false) (floor := floor) OK.out HA.out (o := 2) (i := (x.cell : Int) % 9 - 2) (v := (x.value : Int) % 4) (by simp [spot, h5, h2]) (by simp [spot, h5, h2]; omega) (by omega)
              have ST := Lib.hid hst
              clear hst
              go_wp2_with (go_at_call 24; refine ST.out.mono ?_; rintro e w' ⟨rfl, hs⟩; have S2 := Lib.hid hs; clear hs)
              go_roundw
              case rel => exact ⟨k + 1, by omega, by go_num, by rw [E1.out]; exact S2.out⟩
              case measure => simp [intOf]; omega
            · have h5' : (x.cell : Int) % 9 < 5 := by omega
              have h2' : (x.cell : Int) % 9 < 2 := by omega
              obtain ⟨r, hst⟩ := S1.out.spot (marks := false) (floor := floor) OK.out HA.out (o := 1) (i := (x.cell : Int) % 9) (v := (x.value : Int) % 4) (by simp [spot, h5, h2]) (by simp [spot, h5, h2]) (by omega)
              have ST := Lib.hid hst
              clear hst
              go_wp2_with (go_at_call 24; refine ST.out.mono ?_; rintro e w' ⟨rfl, hs⟩; have S2 := Lib.hid hs; clear hs)
              go_roundw
              case rel => exact ⟨k + 1, by omega, by go_num, by rw [E1.out]; exact S2.out⟩
              case measure => simp [intOf]; omega
        | true =>
          have hA : ¬ (x.kind % 8 < 5 ∨ true = false) := by simp; omega
          by_cases k5 : x.kind % 8 = 5
          · have hd : Hid (doStep true floor d x = d.mark) := Lib.hid (by unfold doStep; rw [if_neg hA, if_pos k5])
            have k5' : ((x.kind : Int) % 8 == 5) = true := by simp; omega
            have ST := Lib.hid (S1.out.mark (r := d.markRes) rfl rfl)
            go_wp2_with (go_at_call 16; refine ST.out.mono ?_; rintro e w' ⟨rfl, hs⟩; have S2 := Lib.hid hs; clear hs)
            go_roundw
            case rel => exact ⟨k + 1, by omega, by go_num, by rw [E1.out, hd.out]; exact S2.out⟩
            case measure => simp [intOf]; omega
          · have k5' : ((x.kind : Int) % 8 == 5) = false := by simp; omega
            have HM := Lib.hid S1.out.marks
            by_cases kf : (d.marks.length : Int) ≤ floor
            · have hd : Hid (doStep true floor d x = d.mark) := Lib.hid (by unfold doStep; rw [if_neg hA, if_neg k5, if_pos kf])
              have ST := Lib.hid (S1.out.mark (r := d.markRes) rfl rfl)
              go_wp2_with (first | (go_at_call 14; refine HM.out.mono ?_; rintro e w' ⟨rfl, rfl⟩) | (go_at_call 16; refine ST.out.mono ?_; rintro e w' ⟨rfl, hs⟩; have S2 := Lib.hid hs; clear hs))
              go_roundw
              case rel => exact ⟨k + 1, by omega, by go_num, by rw [E1.out, hd.out]; exact S2.out⟩
              case measure => simp [intOf]; omega
            · have kf' : floor < (d.marks.length : Int) := by omega
              by_cases k6 : x.kind % 8 = 6
              · have hd : Hid (doStep true floor d x = d.back) := Lib.hid (by unfold doStep; rw [if_neg hA, if_neg k5, if_neg kf, if_pos k6])
                have k6' : ((x.kind : Int) % 8 == 6) = true := by simp; omega
                have ST := Lib.hid (S1.out.back (r := d.popRes) rfl rfl)
                go_wp2_with (first | (go_at_call 14; refine HM.out.mono ?_; rintro e w' ⟨rfl, rfl⟩) | (go_at_call 17; refine ST.out.mono ?_; rintro e w' ⟨rfl, hs⟩; have S2 := Lib.hid hs; clear hs))
                go_roundw
                case rel => exact ⟨k + 1, by omega, by go_num, by rw [E1.out, hd.out]; exact S2.out⟩
                case measure => simp [intOf]; omega
              · have hd : Hid (doStep true floor d x = d.keep) := Lib.hid (by unfold doStep; rw [if_neg hA, if_neg k5, if_neg kf, if_neg k6])
                have k6' : ((x.kind : Int) % 8 == 6) = false := by simp; omega
                have ST := Lib.hid (S1.out.keep (r := d.popRes) rfl rfl)
                go_wp2_with (first | (go_at_call 14; refine HM.out.mono ?_; rintro e w' ⟨rfl, rfl⟩) | (go_at_call 20; refine ST.out.mono ?_; rintro e w' ⟨rfl, hs⟩; have S2 := Lib.hid hs; clear hs))
                go_roundw
                case rel => exact ⟨k + 1, by omega, by go_num, by rw [E1.out, hd.out]; exact S2.out⟩
                case measure => simp [intOf]; omega
    · obtain rfl : k = l.length := by omega
      have S1 := Lib.hid hS
      clear hS
      go_wp2
      go_ret
      have := S1.out
      rw [List.take_length] at this
      rw [List.take_of_length_le h60]
      exact ⟨rfl, this⟩
set_option maxRecDepth 100000 in
set_option maxHeartbeats 1000000 in
theorem do_many {w0 w : World} {rs : List Res} {a : Nat} {c : CM} (h : St w0 w (.mem a c :: rs)) (hok : c.ok) {A : Option Addr} {cp : Nat} {l : List Sm} (hr : Reads w0 A (flatS l)) (hl : ∀ x ∈ l, x.ok) (hn : l.length ≤ maxLen) (hcp : l.length ≤ cp) (h60 : ¬ l.length ≤ 60) (marks : Bool) (floor : Int) :
    Calls Try.prog 12 #[.pointer (some ⟨a, 0, none⟩), .slice A l.length cp, .bool marks, .int .i64 floor] w fun e w' => e = .returned (.bool true) ∧ St w0 w' (.mem a (doAll marks floor c (l.take 60)) :: rs) := by
  have HR := Lib.hid hr
  have HL := Lib.hid hl
  have H0 := Lib.hid h
  unfold maxLen at hn
  clear hr hl h
  have hm : (60 : Int) < l.length := by omega
  have hmx : max (60 : Int) 0 = 60 := by decide
  go_enter Try.func12, Try.ntmps12
  go_wp2
  go_loopw [23] (fun i wr => ∃ k : Nat, k ≤ 60 ∧ i = .int .i64 k ∧ St w0 wr (.mem a (doAll marks floor c (l.take k)) :: rs)) (fun i _ => 60 - (intOf i).toNat)
  case atStart => exact ⟨0, by omega, rfl, H0.out⟩
  case round =>
    obtain ⟨k, hk, rfl, hS⟩ := hrel
    by_cases hlt : k < 60
    · obtain ⟨x, hx⟩ : ∃ x, l[k]? = some x := ⟨_, List.getElem?_eq_getElem (by omega)⟩
      obtain ⟨x1, x2, x3⟩ := HL.out x (List.mem_of_getElem? hx)
      obtain ⟨b, off, rfl, hc⟩ := HR.out.resolve_left (by intro e; rw [flatS_nil.1 e] at hx; simp at hx)
      have hK := hS.whole
      have c0 : wr.cell? ⟨b, off + k * 3, none⟩ = _ := hK.cell (hc (k * 3 + 0) _ (flatS_get hx (by omega) rfl)) (by simp)
      have c1 : wr.cell? ⟨b, off + k * 3 + 1, none⟩ = _ := hK.cell (hc (k * 3 + 1) _ (flatS_get hx (by omega) rfl)) (by simp)
      have c2 : wr.cell? ⟨b, off + k * 3 + 2, none⟩ = _ := hK.cell (hc (k * 3 + 2) _ (flatS_get hx (by omega) rfl)) (by simp)
      have e1 : doAll marks floor c (l.take (k + 1)) = doStep marks floor (doAll marks floor c (l.take k)) x := by
        rw [List.take_add_one, hx]
        simp [doAll]
      have hok2 : (doAll marks floor c (l.take k)).ok := doAll_ok hok _ _ _
      generalize doAll marks floor c (l.take k) = d at *
      have E1 := Lib.hid e1
      have S1 := Lib.hid (hS.kept (Kept.alloc _ _ (.cells #[.int .u8 (x.kind : Int), .int .u8 (x.cell : Int), .int .u8 (x.value : Int)] 68)))
      have OK := Lib.hid hok2
      clear e1 hS hK hok2 hx hc
      by_cases hk5 : x.kind % 8 < 5
      · have HA : Hid (x.kind % 8 < 5 ∨ marks = false) := .inl hk5
        have hk5' : (x.kind : Int) % 8 < 5 := by omega
        by_cases h5 : 5 ≤ x.cell % 9
        · have h5' : (5 : Int) ≤ (x.cell : Int) % 9 := by omega
          obtain ⟨r, hst⟩ := S1.out.spot (marks := marks) (floor := floor) OK.out HA.out (o := 4) (i := (x.cell : Int) % 9 - 5) (v := (x.value : Int) % 4) (by simp [spot, h5]) (by simp [spot, h5]; omega) (by omega)
          have ST := Lib.hid hst
          clear hst
          go_wp2_with (go_at_call 24; refine ST.out.mono ?_; rintro e w' ⟨rfl, hs⟩; have S2 := Lib.hid hs; clear hs)
          go_roundw
          case rel => exact ⟨k + 1, by omega, by go_num, by rw [E1.out]; exact S2.out⟩
          case measure => simp [intOf]; omega
        · by_cases h2 : 2 ≤ x.cell % 9
          · have h5' : (x.cell : Int) % 9 < 5 := by omega
            have h2' : (2 : Int) ≤ (x.cell : Int) % 9 := by omega
            obtain ⟨r, hst⟩ := S1.out.spot (marks := marks) (floor := floor) OK.out HA.out (o := 2) (i := (x.cell : Int) % 9 - 2) (v := (x.value : Int) % 4) (by simp [spot, h5, h2]) (by simp [spot, h5, h2]; omega) (by omega)
            have ST := Lib.hid hst
            clear hst
            go_wp2_with (go_at_call 24; refine ST.out.mono ?_; rintro e w' ⟨rfl, hs⟩; have S2 := Lib.hid hs; clear hs)
            go_roundw
            case rel => exact ⟨k + 1, by omega, by go_num, by rw [E1.out]; exact S2.out⟩
            case measure => simp [intOf]; omega
          · have h5' : (x.cell : Int) % 9 < 5 := by omega
            have h2' : (x.cell : Int) % 9 < 2 := by omega
            obtain ⟨r, hst⟩ := S1.out.spot (marks := marks) (floor := floor) OK.out HA.out (o := 1) (i := (x.cell : Int) % 9) (v := (x.value : Int) % 4) (by simp [spot, h5, h2]) (by simp [spot, h5, h2]) (by omega)
            have ST := Lib.hid hst
            clear hst
            go_wp2_with (go_at_call 24; refine ST.out.mono ?_; rintro e w' ⟨rfl, hs⟩; have S2 := Lib.hid hs; clear hs)
            go_roundw
            case rel => exact ⟨k + 1, by omega, by go_num, by rw [E1.out]; exact S2.out⟩
            case measure => simp [intOf]; omega
      · have hk5' : (5 : Int) ≤ (x.kind : Int) % 8 := by omega
        cases marks with
        | false =>
          have HA : Hid (x.kind % 8 < 5 ∨ false = false) := .inr rfl
          by_cases h5 : 5 ≤ x.cell % 9
          · have h5' : (5 : Int) ≤ (x.cell : Int) % 9 := by omega
            obtain ⟨r, hst⟩ := S1.out.spot (marks := false) (floor := floor) OK.out HA.out (o := 4) (i := (x.cell : Int) % 9 - 5) (v := (x.value : Int) % 4) (by simp [spot, h5]) (by simp [spot, h5]; omega) (by omega)
            have ST := Lib.hid hst
            clear hst
            go_wp2_with (go_at_call 24; refine ST.out.mono ?_; rintro e w' ⟨rfl, hs⟩; have S2 := Lib.hid hs; clear hs)
            go_roundw
            case rel => exact ⟨k + 1, by omega, by go_num, by rw [E1.out]; exact S2.out⟩
            case measure => simp [intOf]; omega
          · by_cases h2 : 2 ≤ x.cell % 9
            · have h5' : (x.cell : Int) % 9 < 5 := by omega
              have h2' : (2 : Int) ≤ (x.cell : Int) % 9 := by omega
              obtain ⟨r, hst⟩ := S1.out.spot (marks := false) (floor := floor) OK.out HA.out (o := 2) (i := (x.cell : Int) % 9 - 2) (v := (x.value : Int) % 4) (by simp [spot, h5, h2]) (by simp [spot, h5, h2]; omega) (by omega)
              have ST := Lib.hid hst
              clear hst
              go_wp2_with (go_at_call 24; refine ST.out.mono ?_; rintro e w' ⟨rfl, hs⟩; have S2 := Lib.hid hs; clear hs)
              go_roundw
              case rel => exact ⟨k + 1, by omega, by go_num, by rw [E1.out]; exact S2.out⟩
              case measure => simp [intOf]; omega
            · have h5' : (x.cell : Int) % 9 < 5 := by omega
              have h2' : (x.cell : Int) % 9 < 2 := by omega
              obtain ⟨r, hst⟩ := S1.out.spot (marks := false) (floor := floor) OK.out HA.out (o := 1) (i := (x.cell : Int) % 9) (v := (x.value : Int) % 4) (by simp [spot, h5, h2]) (by simp [spot, h5, h2]) (by omega)
              have ST := Lib.hid hst
              clear hst
              go_wp2_with (go_at_call 24; refine ST.out.mono ?_; rintro e w' ⟨rfl, hs⟩; have S2 := Lib.hid hs; clear hs)
              go_roundw
              case rel => exact ⟨k + 1, by omega, by go_num, by rw [E1.out]; exact S2.out⟩
              case measure => simp [intOf]; omega
        | true =>
          have hA : ¬ (x.kind % 8 < 5 ∨ true = false) := by simp; omega
          by_cases k5 : x.kind % 8 = 5
          · have hd : Hid (doStep true floor d x = d.mark) := Lib.hid (by unfold doStep; rw [if_neg hA, if_pos k5])
            have k5' : ((x.kind : Int) % 8 == 5) = true := by simp; omega
            have ST := Lib.hid (S1.out.mark (r := d.markRes) rfl rfl)
            go_wp2_with (go_at_call 16; refine ST.out.mono ?_; rintro e w' ⟨rfl, hs⟩; have S2 := Lib.hid hs; clear hs)
            go_roundw
            case rel => exact ⟨k + 1, by omega, by go_num, by rw [E1.out, hd.out]; exact S2.out⟩
            case measure => simp [intOf]; omega
          · have k5' : ((x.kind : Int) % 8 == 5) = false := by simp; omega
            have HM := Lib.hid S1.out.marks
            by_cases kf : (d.marks.length : Int) ≤ floor
            · have hd : Hid (doStep true floor d x = d.mark) := Lib.hid (by unfold doStep; rw [if_neg hA, if_neg k5, if_pos kf])
              have ST := Lib.hid (S1.out.mark (r := d.markRes) rfl rfl)
              go_wp2_with (first | (go_at_call 14; refine HM.out.mono ?_; rintro e w' ⟨rfl, rfl⟩) | (go_at_call 16; refine ST.out.mono ?_; rintro e w' ⟨rfl, hs⟩; have S2 := Lib.hid hs; clear hs))
              go_roundw
              case rel => exact ⟨k + 1, by omega, by go_num, by rw [E1.out, hd.out]; exact S2.out⟩
              case measure => simp [intOf]; omega
            · have kf' : floor < (d.marks.length : Int) := by omega
              by_cases k6 : x.kind % 8 = 6
              · have hd : Hid (doStep true floor d x = d.back) := Lib.hid (by unfold doStep; rw [if_neg hA, if_neg k5, if_neg kf, if_pos k6])
                have k6' : ((x.kind : Int) % 8 == 6) = true := by simp; omega
                have ST := Lib.hid (S1.out.back (r := d.popRes) rfl rfl)
                go_wp2_with (first | (go_at_call 14; refine HM.out.mono ?_; rintro e w' ⟨rfl, rfl⟩) | (go_at_call 17; refine ST.out.mono ?_; rintro e w' ⟨rfl, hs⟩; have S2 := Lib.hid hs; clear hs))
                go_roundw
                case rel => exact ⟨k + 1, by omega, by go_num, by rw [E1.out, hd.out]; exact S2.out⟩
                case measure => simp [intOf]; omega
              · have hd : Hid (doStep true floor d x = d.keep) := Lib.hid (by unfold doStep; rw [if_neg hA, if_neg k5, if_neg kf, if_neg k6])
                have k6' : ((x.kind : Int) % 8 == 6) = false := by simp; omega
                have ST := Lib.hid (S1.out.keep (r := d.popRes) rfl rfl)
                go_wp2_with (first | (go_at_call 14; refine HM.out.mono ?_; rintro e w' ⟨rfl, rfl⟩) | (go_at_call 20; refine ST.out.mono ?_; rintro e w' ⟨rfl, hs⟩; have S2 := Lib.hid hs; clear hs))
                go_roundw
                case rel => exact ⟨k + 1, by omega, by go_num, by rw [E1.out, hd.out]; exact S2.out⟩
                case measure => simp [intOf]; omega
    · have hk60 : k = 60 := by omega
      subst hk60
      have S1 := Lib.hid hS
      clear hS
      go_wp2
      go_ret
      exact ⟨rfl, S1.out⟩
set_option maxRecDepth 100000 in
set_option maxHeartbeats 1000000 in
theorem do_calls {w0 w : World} {rs : List Res} {a : Nat} {c : CM} (h : St w0 w (.mem a c :: rs)) (hok : c.ok) {A : Option Addr} {cp : Nat} {l : List Sm} (hr : Reads w0 A (flatS l)) (hl : ∀ x ∈ l, x.ok) (hn : l.length ≤ maxLen) (hcp : l.length ≤ cp) (marks : Bool) (floor : Int) :
    Calls Try.prog 12 #[.pointer (some ⟨a, 0, none⟩), .slice A l.length cp, .bool marks, .int .i64 floor] w fun e w' => e = .returned (.bool true) ∧ St w0 w' (.mem a (doAll marks floor c (l.take 60)) :: rs) := by
  by_cases h60 : l.length ≤ 60
  · exact do_few h hok hr hl hn hcp h60 marks floor
  · exact do_many h hok hr hl hn hcp h60 marks floor
end Go.Proofs.Ytlfaoibgmbbacaa
