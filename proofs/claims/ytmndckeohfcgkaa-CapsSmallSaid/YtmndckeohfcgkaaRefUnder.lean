/- The reference of layer 23: under. -/
import Derived.Test.YtmndckeohfcgkaaRefTake
namespace Go.Proofs.Ytmndckeohfcgkaa
open Go.RowKit
def toH (h : RH) : Hd := ⟨h.serial, h.parent, h.port, h.holder, h.rights.toNat⟩
def liveH (l : List RH) : List Hd := (liveR l).map toH
def cellI (w : World) (a : Addr) : Int := match w.cell? a with | some (.int _ n) => n | _ => 0
theorem liveH_mem {l : List RH} {h : RH} (hh : h ∈ liveR l) : toH h ∈ liveH l := List.mem_map.2 ⟨h, hh, rfl⟩
theorem liveH_of {l : List RH} {x : Hd} (hx : x ∈ liveH l) : ∃ h ∈ liveR l, toH h = x := List.mem_map.1 hx
set_option maxRecDepth 100000 in
set_option maxHeartbeats 1000000 in
theorem RUnder_calls {w : World} {A : Option Addr} {cap : Nat} {nx : Int} {l : List RH} {s : Int} {h : RH} (hA : Reads w A (flatR l)) (hn : l.length ≤ 1024) (t : Tree (liveH l)) (hs : ∃ x ∈ liveR l, x.serial = s) (hh : h ∈ liveR l) :
    Calls Try.prog 88 #[.agg #[.int .i64 nx, .slice A l.length cap], h.val, .int .i64 s] w fun e w' => e = .returned (.bool ((below (liveH l) s).contains h.serial)) ∧ Kept [] w w' := by
  have HF : Hid (∀ (w1 : World) (p : Int), Kept [] w w1 → Calls Try.prog 65 #[.agg #[.int .i64 nx, .slice A l.length cap], .int .i64 p] w1 fun e w' => e = .returned (.tuple #[(getR l p).1.val, .int .i64 (getR l p).2]) ∧ Kept [] w1 w') := Lib.hid fun w1 p hk => RGet_calls p (hk.reads hA (by simp)) hn
  have hcont : ∀ (b : Bool), (b = true ↔ Under (liveH l) s h.serial) → (below (liveH l) s).contains h.serial = b := by
    intro b hb
    have h1 := mem_below t (x := h.serial) (s := s)
    have h2 : h.serial ∈ below (liveH l) s ↔ Under (liveH l) s h.serial := by
      rw [h1]
      exact ⟨fun h => h.2.1, fun hu => ⟨⟨toH h, liveH_mem hh, rfl⟩, hu, by obtain ⟨x, hx, e⟩ := hs; exact ⟨toH x, liveH_mem hx, e⟩⟩⟩
    cases b with
    | true => simpa using h2.2 (hb.1 rfl)
    | false =>
      simp only [List.contains_eq_mem, decide_eq_false_iff_not]
      exact fun hm => by have := hb.2 (h2.1 hm); cases this
  generalize hv : (w.alloc (.cells #[.int .i64 nx, .slice A l.length cap] 88)) = w1
  generalize hv2 : (w1.alloc (.cells #[.int .i64 h.serial, .int .i64 h.parent, .int .i64 h.port, .int .i64 h.holder, .int .i64 h.rights, .bool h.gone] 104)) = w2
  have HSZ : Hid (w1.heap.size = w.heap.size + 1 ∧ w2.heap.size = w.heap.size + 2) := Lib.hid (by rw [← hv2, ← hv]; simp)
  have hk1 : Kept [] w w1 := by rw [← hv]; exact Kept.alloc _ _ _
  have hk2 : Kept [] w1 w2 := by rw [← hv2]; exact Kept.alloc _ _ _
  have hb1 : Blk w1 w.heap.size 88 #[.int .i64 nx, .slice A l.length cap] := by rw [← hv]; exact Blk.new _ _ _
  have hb2 : Blk w2 w1.heap.size 104 #[.int .i64 h.serial, .int .i64 h.parent, .int .i64 h.port, .int .i64 h.holder, .int .i64 h.rights, .bool h.gone] := by rw [← hv2]; exact Blk.new _ _ _
  have B1 := Lib.hid (hk2.blk hb1 (by simp))
  have B2 := Lib.hid hb2
  have K2 := Lib.hid (hk1.trans' hk2)
  have HC := Lib.hid hcont
  have HS := Lib.hid hs
  have HH := Lib.hid hh
  clear hA hcont hs hh hk1 hk2 hb1 hb2
  unfold RH.val
  go_enter Try.func88, Try.ntmps88
  go_wp2
  clear hv hv2
  go_loopw [7, 8] (fun _ _ wr => ∃ (x : RH), x ∈ liveR l ∧ (Under (liveH l) s h.serial ↔ Under (liveH l) s x.serial) ∧ Blk wr w.heap.size 88 #[.int .i64 nx, .slice A l.length cap] ∧ Blk wr w1.heap.size 104 #[.int .i64 x.serial, .int .i64 x.parent, .int .i64 x.port, .int .i64 x.holder, .int .i64 x.rights, .bool x.gone] ∧ Kept [] w wr) (fun _ _ wr => rank (liveH l) (cellI wr ⟨w1.heap.size, 0, none⟩))
  case atStart => exact ⟨h, HH.out, Iff.rfl, B1.out, B2.out, K2.out⟩
  case round =>
    obtain ⟨x, hx, hu, hB1, hB, hK⟩ := hrel
    have d0 : wr.cell? ⟨w.heap.size, 0, none⟩ = some (.int .i64 nx) := hB1.cell 0
    have d1 : wr.cell? ⟨w.heap.size, 1, none⟩ = some (.slice A l.length cap) := hB1.cell 1
    have f0 := hB.cell 0
    have f1 := hB.cell 1
    have fl := hB.lt
    have hme : cellI wr ⟨w1.heap.size, 0, none⟩ = x.serial := by
      unfold cellI
      rw [show wr.cell? ⟨w1.heap.size, 0, none⟩ = some (.int .i64 x.serial) from f0]
    have HME := Lib.hid hme
    have BB := Lib.hid hB1
    have X0 := Lib.hid hB
    have X1 := Lib.hid hx
    have X3 := Lib.hid hu
    have X4 := Lib.hid hK
    have hf := HF.out wr x.parent hK
    clear hB hB1 hx hu hK hme
    by_cases e : x.serial = s
    · have he : (x.serial == s) = true := by simp [e]
      have R := Lib.hid (HC.out true ⟨fun _ => X3.out.2 (e ▸ .self), fun _ => rfl⟩)
      clear hf
      go_wp2
      go_ret
      exact ⟨by rw [R.out]; rfl, X4.out⟩
    · have he : (x.serial == s) = false := by simp [e]
      have hup := under_parent t (liveH_mem X1.out) e
      have hfm : (liveH l).find? (fun h => h.serial == x.parent) = ((liveR l).find? (fun h => h.serial == x.parent)).map toH := by
        unfold liveH
        rw [List.find?_map]; rfl
      cases hfd : (liveR l).find? (fun h => h.serial == x.parent) with
      | none =>
        have hfr : getR l x.parent = (noRH, 6) := by unfold getR; rw [hfd]
        rw [hfr] at hf
        simp only [RH.val, noRH] at hf
        have hnot : ¬ Under (liveH l) s h.serial := by
          intro hu
          have hno := List.find?_eq_none.1 hfd
          rcases (hup.1 (X3.out.1 hu)).inv with e1 | ⟨a, ha, e1, _⟩
          · obtain ⟨y, hy, hys⟩ := HS.out
            refine hno y hy ?_
            simp only [beq_iff_eq]
            rw [hys, ← e1]; rfl
          · obtain ⟨y, hy, rfl⟩ := liveH_of ha
            refine hno y hy ?_
            simp only [beq_iff_eq]
            exact e1
        have R := Lib.hid (HC.out false ⟨fun h => (by cases h), fun hu => absurd hu hnot⟩)
        clear hnot
        have HFF := Lib.hid hf
        clear hf hup hfd hfr hfm
        go_wp2_with (go_at_call 65; refine HFF.out.mono ?_; rintro e w' ⟨rfl, hk⟩; have Y := Lib.hid hk; clear hk)
        go_ret
        exact ⟨by rw [R.out]; rfl, (X4.out.trans' Y.out).trans' (Kept.alloc _ _ _)⟩
      | some y =>
        have hfr : getR l x.parent = (y, 0) := by unfold getR; rw [hfd]
        rw [hfr] at hf
        simp only [RH.val] at hf
        have hym := List.mem_of_find?_eq_some hfd
        have hys : y.serial = x.parent := by simpa using List.find?_some hfd
        have hrk : rank (liveH l) y.serial < rank (liveH l) x.serial := rank_lt (liveH_mem hym) (x := x.serial) (by
          have := t.up (toH x) (liveH_mem X1.out)
          show y.serial < x.serial
          rw [hys]; exact this)
        have hup2 : Under (liveH l) s x.serial ↔ Under (liveH l) s y.serial := by rw [hys]; exact hup
        have Z1 := Lib.hid hym
        have Z2 := Lib.hid hrk
        have Z3 := Lib.hid hup2
        have HFF := Lib.hid hf
        clear hf hup hfd hfr hym hys hrk hup2 hfm
        go_wp2_with (go_at_call 65; refine HFF.out.mono ?_; rintro e w2 ⟨rfl, hk⟩; have b2 := hk.blk X0.out (by simp); have g0 := b2.cell 0; have g1 := b2.cell 1; have g2 := b2.cell 2; have g3 := b2.cell 3; have g4 := b2.cell 4; have g5 := b2.cell 5; have z := b2.frozen; have fl2 := b2.lt; have B2 := Lib.hid b2; have Y := Lib.hid hk; clear hk b2)
        go_roundw
        case rel =>
          obtain ⟨q1, q2⟩ := set6 B2.out (.int .i64 y.serial) (.int .i64 y.parent) (.int .i64 y.port) (.int .i64 y.holder) (.int .i64 y.rights) (.bool y.gone)
          exact ⟨y, Z1.out, X3.out.trans Z3.out, (Kept.alloc [] _ _).blk (q2.blk (Y.out.blk BB.out (by simp)) (by have := HSZ.out; simp; omega)) (by simp), (Kept.alloc [] _ _).blk q1 (by simp), (((X4.out.trans' Y.out).nil_mono.trans' q2).nil_new (by have := HSZ.out; simp; omega)).trans' (Kept.alloc _ _ _)⟩
        case measure =>
          obtain ⟨q1, q2⟩ := set6 B2.out (.int .i64 y.serial) (.int .i64 y.parent) (.int .i64 y.port) (.int .i64 y.holder) (.int .i64 y.rights) (.bool y.gone)
          have hme : ∀ W : World, W.cell? ⟨w1.heap.size, 0, none⟩ = some (.int .i64 y.serial) → cellI W ⟨w1.heap.size, 0, none⟩ = y.serial := fun W h => by unfold cellI; rw [h]
          have q3 := (Kept.alloc [] _ (.cells #[.int .i64 y.serial, .int .i64 y.parent, .int .i64 y.port, .int .i64 y.holder, .int .i64 y.rights, .bool y.gone] 104)).blk q1 (by simp)
          have q4 := hme _ (q3.cell 0)
          rw [HME.out, q4]
          exact Z2.out
end Go.Proofs.Ytmndckeohfcgkaa
