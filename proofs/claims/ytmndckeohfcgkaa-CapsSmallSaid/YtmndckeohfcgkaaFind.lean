/- The walks of find and above of the laws on caps. -/
import Derived.Test.YtmndckeohfcgkaaEqual
import Derived.Test.YtmndckeohfcgkaaUnder
namespace Go.Proofs.Ytmndckeohfcgkaa
open Go.RowKit
open Go.ChangeMaps (setBlock)
def findRes (l : List Hd) (s : Int) : Hd × Bool := match l.find? (fun h => h.serial == s) with | some h => (h, true) | none => (noHd, false)
theorem find_take {l : List Hd} {k : Nat} {s : Int} {x : Hd} (h : (l.take k).find? (fun h => h.serial == s) = none) (hx : l[k]? = some x) (e : (x.serial == s) = true) : l.find? (fun h => h.serial == s) = some x := by
  have hk := (List.getElem?_eq_some_iff.1 hx).1
  have : l = l.take k ++ (x :: l.drop (k + 1)) := by
    conv => lhs; rw [← List.take_append_drop k l, List.drop_eq_getElem_cons hk]
    rw [(List.getElem?_eq_some_iff.1 hx).2]
  rw [this, List.find?_append, h]
  simp [List.find?_cons, e]
theorem find_take_none {l : List Hd} {k : Nat} {s : Int} {x : Hd} (h : (l.take k).find? (fun h => h.serial == s) = none) (hx : l[k]? = some x) (e : (x.serial == s) = false) : (l.take (k + 1)).find? (fun h => h.serial == s) = none := by
  rw [List.take_add_one, List.find?_append, h, hx]
  simp [List.find?_cons, e]
/-- The five cells of a handle in a row. -/
theorem hd_cells {w wr : World} {b o : Nat} {l : List Hd} {k : Nat} {x : Hd} (hK : Kept [] w wr) (hc : ∀ j u, (flatH l)[j]? = some u → w.cell? ⟨b, o + j, none⟩ = some u) (hx : l[k]? = some x) :
    wr.cell? ⟨b, o + k * 5, none⟩ = some (.int .i64 x.serial) ∧ wr.cell? ⟨b, o + k * 5 + 1, none⟩ = some (.int .i64 x.parent) ∧ wr.cell? ⟨b, o + k * 5 + 2, none⟩ = some (.int .i64 x.port) ∧ wr.cell? ⟨b, o + k * 5 + 3, none⟩ = some (.int .i64 x.holder) ∧ wr.cell? ⟨b, o + k * 5 + 4, none⟩ = some (.int .u8 (x.rights : Int)) :=
  ⟨hK.cell (hc (k * 5 + 0) _ (flatH_get hx (by omega) rfl)) (by simp), hK.cell (hc (k * 5 + 1) _ (flatH_get hx (by omega) rfl)) (by simp), hK.cell (hc (k * 5 + 2) _ (flatH_get hx (by omega) rfl)) (by simp),
   hK.cell (hc (k * 5 + 3) _ (flatH_get hx (by omega) rfl)) (by simp), hK.cell (hc (k * 5 + 4) _ (flatH_get hx (by omega) rfl)) (by simp)⟩
theorem set5 {W : World} {g : Nat} {t : TypeId} {x0 x1 x2 x3 x4 : Value} (hb : Blk W g t #[x0, x1, x2, x3, x4]) (y0 y1 y2 y3 y4 : Value) :
    Blk (((((W.setCell ⟨g, 0, none⟩ y0).setCell ⟨g, 1, none⟩ y1).setCell ⟨g, 2, none⟩ y2).setCell ⟨g, 3, none⟩ y3).setCell ⟨g, 4, none⟩ y4) g t #[y0, y1, y2, y3, y4] ∧
    Kept [g] W (((((W.setCell ⟨g, 0, none⟩ y0).setCell ⟨g, 1, none⟩ y1).setCell ⟨g, 2, none⟩ y2).setCell ⟨g, 3, none⟩ y3).setCell ⟨g, 4, none⟩ y4) :=
  ⟨((((hb.set_ 0 y0).set_ 1 y1).set_ 2 y2).set_ 3 y3).set_ 4 y4,
   ((((Kept.setCell (by simp) _ _).trans' (Kept.setCell (by simp) _ _)).trans' (Kept.setCell (by simp) _ _)).trans' (Kept.setCell (by simp) _ _)).trans' (Kept.setCell (by simp) _ _)⟩
set_option maxRecDepth 100000 in
set_option maxHeartbeats 1000000 in
theorem find22 {w : World} {A : Option Addr} {cp : Nat} {l : List Hd} {s : Int} (hA : Reads w A (flatH l)) (hn : l.length ≤ 1024) :
    Calls Try.prog 22 #[.slice A l.length cp, .int .i64 s] w fun e w' => e = .returned (.tuple #[(findRes l s).1.val, .bool (findRes l s).2]) ∧ Kept [] w w' := by
  have HA := Lib.hid hA
  clear hA
  go_enter Try.func22, Try.ntmps22
  go_wp2
  have b0 : Blk (w.alloc (.cells #[.int .i64 0, .int .i64 0, .int .i64 0, .int .i64 0, .int .u8 0] 34)) w.heap.size 34 #[.int .i64 0, .int .i64 0, .int .i64 0, .int .i64 0, .int .u8 0] := Blk.new _ _ _
  have B0 := Lib.hid b0
  have K0 := Lib.hid (Kept.alloc [] w (.cells #[.int .i64 0, .int .i64 0, .int .i64 0, .int .i64 0, .int .u8 0] 34))
  clear b0
  go_loopw [7, 10] (fun _ i wr => ∃ k : Nat, k ≤ l.length ∧ i = .int .i64 k ∧ (l.take k).find? (fun h => h.serial == s) = none ∧ Kept [] (w.alloc (.cells #[.int .i64 0, .int .i64 0, .int .i64 0, .int .i64 0, .int .u8 0] 34)) wr) (fun _ i _ => l.length - (intOf i).toNat)
  case atStart => exact ⟨0, Nat.zero_le _, rfl, rfl, Kept.refl _ _⟩
  case round =>
    obtain ⟨k, hk, rfl, hF, hK⟩ := hrel
    by_cases hlt : k < l.length
    · obtain ⟨x, hx⟩ : ∃ x, l[k]? = some x := ⟨_, List.getElem?_eq_getElem hlt⟩
      obtain ⟨b1, o1, rfl, hc1⟩ := HA.out.resolve_left (by intro e; rw [flatH_nil.1 e] at hx; simp at hx)
      obtain ⟨c0, c1, c2, c3, c4⟩ := hd_cells (K0.out.trans' hK) hc1 hx
      have b1' := hK.blk B0.out (by simp)
      have f0 := b1'.cell 0
      have f1 := b1'.cell 1
      have f2 := b1'.cell 2
      have f3 := b1'.cell 3
      have f4 := b1'.cell 4
      have fl := b1'.lt
      have z := b1'.frozen
      have B1 := Lib.hid b1'
      have X1 := Lib.hid hF
      have X2 := Lib.hid hK
      have X3 := Lib.hid hx
      clear hF hK hx hc1 b1'
      by_cases e : x.serial = s
      · have he : (x.serial == s) = true := by simp [e]
        have R : Hid (findRes l s = (x, true)) := Lib.hid (by unfold findRes; rw [find_take X1.out X3.out he])
        clear e
        go_wp2
        obtain ⟨q1, q2⟩ := set5 B1.out (.int .i64 x.serial) (.int .i64 x.parent) (.int .i64 x.port) (.int .i64 x.holder) (.int .u8 (x.rights : Int))
        refine bodyPost_ret (results_c34 rfl rfl ((Kept.alloc [] _ _).blk q1 (by simp))) rfl ?_
        rw [R.out]
        exact ⟨rfl, (((K0.out.trans' X2.out).nil_mono.trans' q2).nil_new (by simp)).trans' (Kept.alloc _ _ _)⟩
      · have he : (x.serial == s) = false := by simp [e]
        clear e
        go_wp2
        go_roundw
        case rel => exact ⟨k + 1, by omega, by go_num, find_take_none X1.out X3.out he, X2.out.trans' (Kept.alloc _ _ _)⟩
        case measure => simp [intOf]; omega
    · obtain rfl : k = l.length := by omega
      rw [List.take_length] at hF
      have R : Hid (findRes l s = (noHd, false)) := Lib.hid (by unfold findRes; rw [hF])
      have b1' := hK.blk B0.out (by simp)
      have f0 := b1'.cell 0
      have f1 := b1'.cell 1
      have f2 := b1'.cell 2
      have f3 := b1'.cell 3
      have f4 := b1'.cell 4
      have fl := b1'.lt
      have z := b1'.frozen
      have B1 := Lib.hid b1'
      have X2 := Lib.hid hK
      clear hF hK b1'
      go_wp2
      obtain ⟨q1, q2⟩ := set5 B1.out (.int .i64 0) (.int .i64 0) (.int .i64 0) (.int .i64 0) (.int .u8 0)
      refine bodyPost_ret (results_c34 rfl rfl q1) rfl ?_
      rw [R.out]
      exact ⟨rfl, ((K0.out.trans' X2.out).nil_mono.trans' q2).nil_new (by simp)⟩

/-! ### above -/
def rank (l : List Hd) (x : Int) : Nat := (l.filter fun h => decide (h.serial < x)).length
theorem rank_le (l : List Hd) (x : Int) : rank l x ≤ l.length := List.length_filter_le _ _
theorem rank_lt {l : List Hd} {h : Hd} {x : Int} (hh : h ∈ l) (hx : h.serial < x) : rank l h.serial < rank l x := by
  unfold rank
  induction l with
  | nil => cases hh
  | cons a l ih =>
    have hmono : (l.filter fun b => decide (b.serial < h.serial)).length ≤ (l.filter fun b => decide (b.serial < x)).length := by
      have : (l.filter fun b => decide (b.serial < h.serial)) = (l.filter fun b => decide (b.serial < x)).filter (fun b => decide (b.serial < h.serial)) := by
        rw [List.filter_filter]
        refine List.filter_congr fun b _ => ?_
        by_cases e : b.serial < h.serial
        · have : b.serial < x := by omega
          simp [e, this]
        · simp [e]
      rw [this]
      exact List.length_filter_le _ _
    simp only [List.filter_cons]
    rcases List.mem_cons.1 hh with rfl | hh
    · have h1 : ¬ h.serial < h.serial := by omega
      simp only [h1, hx, decide_false, decide_true, if_true, Bool.false_eq_true, if_false, List.length_cons]
      omega
    · have := ih hh
      by_cases e1 : a.serial < h.serial
      · have e2 : a.serial < x := by omega
        simp only [e1, e2, decide_true, if_true, List.length_cons]
        omega
      · by_cases e2 : a.serial < x
        · simp only [e1, e2, decide_true, decide_false, if_true, Bool.false_eq_true, if_false, List.length_cons]
          omega
        · simp only [e1, e2, decide_false, Bool.false_eq_true, if_false]
          exact this
open Classical in
theorem under_parent {l : List Hd} (t : Tree l) {s : Int} {h : Hd} (hh : h ∈ l) (hne : h.serial ≠ s) : Under l s h.serial ↔ Under l s h.parent := by
  constructor
  · intro hu
    rcases hu.inv with e | ⟨a, ha, e, hu'⟩
    · exact absurd e hne
    · have := t.uniq ha hh e
      subst this
      exact hu'
  · exact fun hu => .step hh hu
set_option maxRecDepth 100000 in
set_option maxHeartbeats 1000000 in
theorem above35 {w : World} {A : Option Addr} {cp : Nat} {l : List Hd} {s : Int} {h : Hd} (hA : Reads w A (flatH l)) (hn : l.length ≤ 256) (t : Tree l) (hs : ∃ x ∈ l, x.serial = s) (hh : h ∈ l) :
    Calls Try.prog 35 #[.slice A l.length cp, h.val, .int .i64 s] w fun e w' => e = .returned (.bool ((below l s).contains h.serial)) ∧ Kept [] w w' := by
  have HF : Hid (∀ (w1 : World) (p : Int), Kept [] w w1 → Calls Try.prog 22 #[.slice A l.length cp, .int .i64 p] w1 fun e w' => e = .returned (.tuple #[(findRes l p).1.val, .bool (findRes l p).2]) ∧ Kept [] w1 w') := Lib.hid fun w1 p hk => find22 (by
    rcases hA with e | ⟨b, o, rfl, hc⟩
    · exact .inl e
    · exact .inr ⟨b, o, rfl, fun j u hu => hk.cell (hc j u hu) (by simp)⟩) (by omega)
  have hcont : ∀ (b : Bool), (b = true ↔ Under l s h.serial) → (below l s).contains h.serial = b := by
    intro b hb
    have h1 := mem_below t (x := h.serial) (s := s)
    have h2 : h.serial ∈ below l s ↔ Under l s h.serial := by
      rw [h1]
      exact ⟨fun h => h.2.1, fun hu => ⟨⟨h, hh, rfl⟩, hu, hs⟩⟩
    cases b with
    | true => simpa using h2.2 (hb.1 rfl)
    | false =>
      simp only [List.contains_eq_mem, decide_eq_false_iff_not]
      exact fun hm => by have := hb.2 (h2.1 hm); cases this
  have HC := Lib.hid hcont
  have HS := Lib.hid hs
  have HH := Lib.hid hh
  have b0 := Blk.new w 34 #[.int .i64 h.serial, .int .i64 h.parent, .int .i64 h.port, .int .i64 h.holder, .int .u8 (h.rights : Int)]
  have B0 := Lib.hid b0
  clear hA hcont hs hh b0
  unfold Hd.val
  go_enter Try.func35, Try.ntmps35
  go_wp2
  go_loopw [7, 8, 9] (fun _ _ i wr => ∃ (k : Nat) (x : Hd), k ≤ 300 ∧ i = .int .i64 k ∧ x ∈ l ∧ k + rank l x.serial ≤ 256 ∧ (Under l s h.serial ↔ Under l s x.serial) ∧ Blk wr w.heap.size 34 #[.int .i64 x.serial, .int .i64 x.parent, .int .i64 x.port, .int .i64 x.holder, .int .u8 (x.rights : Int)] ∧ Kept [] w wr) (fun _ _ i _ => 300 - (intOf i).toNat)
  case atStart => exact ⟨0, h, by omega, rfl, HH.out, by have := rank_le l h.serial; omega, Iff.rfl, B0.out, Kept.alloc _ _ _⟩
  case round =>
    obtain ⟨k, x, hk, rfl, hx, hr, hu, hB, hK⟩ := hrel
    have hk3 : (k : Int) < 300 := by omega
    have f0 := hB.cell 0
    have f1 := hB.cell 1
    have fl := hB.lt
    have B1 := Lib.hid hB
    have X1 := Lib.hid hx
    have X2 := Lib.hid hr
    have X3 := Lib.hid hu
    have X4 := Lib.hid hK
    have hf := HF.out wr x.parent hK
    clear hB hx hr hu hK
    by_cases e : x.serial = s
    · have he : (x.serial == s) = true := by simp [e]
      have R := Lib.hid (HC.out true ⟨fun _ => X3.out.2 (e ▸ .self), fun _ => rfl⟩)
      clear e hf
      go_wp2
      go_ret
      exact ⟨by rw [R.out]; rfl, X4.out⟩
    · have he : (x.serial == s) = false := by simp [e]
      have hup := under_parent t X1.out e
      cases hfd : l.find? (fun h => h.serial == x.parent) with
      | none =>
        have hfr : findRes l x.parent = (noHd, false) := by unfold findRes; rw [hfd]
        rw [hfr] at hf
        simp only [Hd.val, noHd] at hf
        have hnot : ¬ Under l s h.serial := by
          intro hu
          have hno := List.find?_eq_none.1 hfd
          rcases (hup.1 (X3.out.1 hu)).inv with e1 | ⟨a, ha, e1, _⟩
          · obtain ⟨y, hy, hys⟩ := HS.out
            exact hno y hy (by simp [hys, e1])
          · exact hno a ha (by simp [e1])
        have R := Lib.hid (HC.out false ⟨fun h => (by cases h), fun hu => absurd hu hnot⟩)
        clear hnot
        have HFF := Lib.hid hf
        clear e hf hup hfd hfr
        go_wp2_with (go_at_call 22; refine HFF.out.mono ?_; rintro e w' ⟨rfl, hk⟩; have Y := Lib.hid hk; clear hk)
        go_ret
        exact ⟨by rw [R.out]; rfl, (X4.out.trans' Y.out).trans' (Kept.alloc _ _ _)⟩
      | some y =>
        have hfr : findRes l x.parent = (y, true) := by unfold findRes; rw [hfd]
        rw [hfr] at hf
        simp only [Hd.val] at hf
        have hym := List.mem_of_find?_eq_some hfd
        have hys : y.serial = x.parent := by simpa using List.find?_some hfd
        have hrk := rank_lt hym (x := x.serial) (by rw [hys]; exact t.up x X1.out)
        rw [← hys] at hup
        have Z1 := Lib.hid hym
        have Z2 := Lib.hid hrk
        have Z3 := Lib.hid hup
        have HFF := Lib.hid hf
        clear e hf hup hfd hfr hym hys hrk
        go_wp2_with (go_at_call 22; refine HFF.out.mono ?_; rintro e w2 ⟨rfl, hk⟩; have b2 := hk.blk B1.out (by simp); have g0 := b2.cell 0; have g1 := b2.cell 1; have g2 := b2.cell 2; have g3 := b2.cell 3; have g4 := b2.cell 4; have z := b2.frozen; have fl2 := b2.lt; have B2 := Lib.hid b2; have Y := Lib.hid hk; clear hk b2)
        go_roundw
        case rel =>
          obtain ⟨q1, q2⟩ := set5 B2.out (.int .i64 y.serial) (.int .i64 y.parent) (.int .i64 y.port) (.int .i64 y.holder) (.int .u8 (y.rights : Int))
          exact ⟨k + 1, y, by have := X2.out; omega, by go_num, Z1.out, by have := X2.out; have := Z2.out; omega, X3.out.trans Z3.out, (Kept.alloc [] _ _).blk q1 (by simp), (((X4.out.trans' Y.out).nil_mono.trans' q2).nil_new (by simp)).trans' (Kept.alloc _ _ _)⟩
        case measure => simp [intOf]; have := X2.out; omega
end Go.Proofs.Ytmndckeohfcgkaa
