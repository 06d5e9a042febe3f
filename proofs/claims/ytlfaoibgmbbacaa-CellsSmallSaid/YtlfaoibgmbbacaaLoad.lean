/- The walks of is, owner and Load of package cells. -/
import Derived.Test.YtlfaoibgmbbacaaMem
import Derived.Lib.Hide
namespace Go.Proofs.Ytlfaoibgmbbacaa
open Go.RowKit
open Go.ChangeMaps (setBlock)

theorem is_yes (a : Nat) (w : World) (h0 : w.cell? ⟨a, 0, none⟩ = some (.bool true)) :
    Calls Try.prog 31 #[.pointer (some ⟨a, 0, none⟩)] w fun e w' => e = .returned (.bool true) ∧ w = w' := by
  go_enter Try.func31, Try.ntmps31
  go_wp2
  go_ret
  exact ⟨rfl, rfl⟩
theorem is_none (w : World) :
    Calls Try.prog 31 #[.pointer none] w fun e w' => e = .returned (.bool false) ∧ w = w' := by
  go_enter Try.func31, Try.ntmps31
  go_wp2
  go_ret
  exact ⟨rfl, rfl⟩
theorem is_no (a : Nat) (w : World) (h0 : w.cell? ⟨a, 0, none⟩ = some (.bool false)) :
    Calls Try.prog 31 #[.pointer (some ⟨a, 0, none⟩)] w fun e w' => e = .returned (.bool false) ∧ w = w' := by
  go_enter Try.func31, Try.ntmps31
  go_wp2
  go_ret
  exact ⟨rfl, rfl⟩

theorem owner_out (a : Nat) (w : World) (R : Option Addr) (nr cr : Nat) (o : Int) (h0 : w.cell? ⟨a, 0, none⟩ = some (.bool true))
   (h1 : w.cell? ⟨a, 1, none⟩ = some (.slice R nr cr)) (ho : o < 1 ∨ (nr : Int) < o) :
    Calls Try.prog 34 #[.pointer (some ⟨a, 0, none⟩), .int .i64 o] w fun e w' => e = .returned (.tuple #[.slice none 0 0, .int .i64 211]) ∧ w = w' := by
  by_cases h : o < 1
  · clear ho
    go_enter Try.func34, Try.ntmps34
    go_wp2_with (go_at_call 31; refine (is_yes _ _ h0).mono ?_; rintro e w' ⟨rfl, rfl⟩)
    go_ret2
    exact ⟨rfl, rfl⟩
  · have ho : (nr : Int) < o := ho.resolve_left h
    go_enter Try.func34, Try.ntmps34
    go_wp2_with (go_at_call 31; refine (is_yes _ _ h0).mono ?_; rintro e w' ⟨rfl, rfl⟩)
    go_ret2
    exact ⟨rfl, rfl⟩
theorem owner_in (a g : Nat) (w : World) (nr cr k : Nat) (x : Value) (h0 : w.cell? ⟨a, 0, none⟩ = some (.bool true))
   (h1 : w.cell? ⟨a, 1, none⟩ = some (.slice (some ⟨g, 0, none⟩) nr cr)) (hk : k < nr) (hnr : nr ≤ 16) (hx : w.cell? ⟨g, k, none⟩ = some x) :
    Calls Try.prog 34 #[.pointer (some ⟨a, 0, none⟩), .int .i64 ((k : Int) + 1)] w fun e w' => e = .returned (.tuple #[x, .int .i64 0]) ∧ w = w' := by
  go_enter Try.func34, Try.ntmps34
  go_wp2_with (go_at_call 31; refine (is_yes _ _ h0).mono ?_; rintro e w' ⟨rfl, rfl⟩)
  go_ret2
  exact ⟨rfl, rfl⟩
theorem load_out (a : Nat) (w : World) (R : Option Addr) (nr cr : Nat) (o i : Int) (h0 : w.cell? ⟨a, 0, none⟩ = some (.bool true))
   (h1 : w.cell? ⟨a, 1, none⟩ = some (.slice R nr cr)) (ho : o < 1 ∨ (nr : Int) < o) :
    Calls Try.prog 21 #[.pointer (some ⟨a, 0, none⟩), .int .i64 o, .int .i64 i] w fun e w' => e = .returned (.tuple #[.int .i64 0, .int .i64 211]) ∧ w = w' := by
  go_enter Try.func21, Try.ntmps21
  go_wp2_with (go_at_call 34; refine (owner_out _ _ R nr cr _ h0 h1 ho).mono ?_; rintro e w' ⟨rfl, rfl⟩)
  go_ret2
  exact ⟨rfl, rfl⟩
theorem load_cell (a g : Nat) (w : World) (nr cr k : Nat) (A : Option Addr) (n cp : Nat) (i : Int) (h0 : w.cell? ⟨a, 0, none⟩ = some (.bool true))
   (h1 : w.cell? ⟨a, 1, none⟩ = some (.slice (some ⟨g, 0, none⟩) nr cr)) (hk : k < nr) (hnr : nr ≤ 16) (hx : w.cell? ⟨g, k, none⟩ = some (.slice A n cp))
   (hi : i < 0 ∨ (n : Int) ≤ i) :
    Calls Try.prog 21 #[.pointer (some ⟨a, 0, none⟩), .int .i64 ((k : Int) + 1), .int .i64 i] w fun e w' => e = .returned (.tuple #[.int .i64 0, .int .i64 212]) ∧ w = w' := by
  by_cases h : i < 0
  · clear hi
    go_enter Try.func21, Try.ntmps21
    go_wp2_with (go_at_call 34; refine (owner_in _ _ _ _ _ _ _ h0 h1 hk hnr hx).mono ?_; rintro e w' ⟨rfl, rfl⟩)
    go_ret2
    exact ⟨rfl, rfl⟩
  · have hi := hi.resolve_left h
    go_enter Try.func21, Try.ntmps21
    go_wp2_with (go_at_call 34; refine (owner_in _ _ _ _ _ _ _ h0 h1 hk hnr hx).mono ?_; rintro e w' ⟨rfl, rfl⟩)
    go_ret2
    exact ⟨rfl, rfl⟩
theorem load_in (a g b : Nat) (w : World) (nr cr k : Nat) (n cp j : Nat) (x : Int) (h0 : w.cell? ⟨a, 0, none⟩ = some (.bool true))
   (h1 : w.cell? ⟨a, 1, none⟩ = some (.slice (some ⟨g, 0, none⟩) nr cr)) (hk : k < nr) (hnr : nr ≤ 16) (hx : w.cell? ⟨g, k, none⟩ = some (.slice (some ⟨b, 0, none⟩) n cp))
   (hj : j < n) (hn : n ≤ 1024) (hc : w.cell? ⟨b, j, none⟩ = some (.int .i64 x)) :
    Calls Try.prog 21 #[.pointer (some ⟨a, 0, none⟩), .int .i64 ((k : Int) + 1), .int .i64 (j : Int)] w fun e w' => e = .returned (.tuple #[.int .i64 x, .int .i64 0]) ∧ w = w' := by
  go_enter Try.func21, Try.ntmps21
  go_wp2_with (go_at_call 34; refine (owner_in _ _ _ _ _ _ _ h0 h1 hk hnr hx).mono ?_; rintro e w' ⟨rfl, rfl⟩)
  go_ret2
  exact ⟨rfl, rfl⟩

/-- What Load returns: the value, and the number of the error. -/
def CM.load (c : CM) (o i : Int) : Int × Int :=
  if o < 1 ∨ (c.now.length : Int) < o then (0, 211)
  else if i < 0 ∨ ((c.now[(o - 1).toNat]?.getD []).length : Int) ≤ i then (0, 212)
  else (look c.now ((o - 1).toNat, i.toNat), 0)

section
variable {w : World} {a : Nat} {rv mv : Value} {rows : List RowL} {tops : List TopL} {F : List Nat} {c : CM}
theorem own_slice {base n size : Nat} {e : TypeId} {v : Value} {xs : List Value} (h : w.ownsRow base e size v n xs) : ∃ A cap, v = .slice A n cap := by
  rcases h.2 with ⟨rfl, rfl⟩ | ⟨g, cap, cur, rfl, _⟩
  · exact ⟨_, _, rfl⟩
  · exact ⟨_, _, rfl⟩
theorem MemB.made (h : MemB w a rv rows mv tops) : w.cell? ⟨a, 0, none⟩ = some (.bool true) := by rw [h.blk.cell]; rfl
theorem MemB.cells (h : MemB w a rv rows mv tops) : w.cell? ⟨a, 1, none⟩ = some rv := by rw [h.blk.cell]; rfl
theorem MemB.marks (h : MemB w a rv rows mv tops) : w.cell? ⟨a, 2, none⟩ = some mv := by rw [h.blk.cell]; rfl
theorem nowOf_get {k : Nat} : (nowOf rows)[k]? = rows[k]?.map RowL.xs := by simp [nowOf]
theorem MemB.rowAt (h : MemB w a rv rows mv tops) {k : Nat} {r : RowL} (hr : rows[k]? = some r) :
    ∃ g cap, rv = .slice (some ⟨g, 0, none⟩) rows.length cap ∧ w.cell? ⟨g, k, none⟩ = some r.val := by
  obtain ⟨g, cap, h1, h2, _⟩ := own_cell h.rown (k := k) (u := r.val) (by simp [hr])
  exact ⟨g, cap, h1, h2⟩
theorem MemB.cellAt (h : MemB w a rv rows mv tops) {r : RowL} (hr : r ∈ rows) {j : Nat} {x : Int} (hx : r.xs[j]? = some x) :
    w.cell? ⟨r.b, j, none⟩ = some (.int .i64 x) ∧ w.frozen? ⟨r.b, j, none⟩ = false := by
  obtain ⟨g, cap, h1, h2, h3, _⟩ := own_cell (h.row r hr) (k := j) (u := numV x) (by simp [hx])
  simp only [RowL.val, Value.slice.injEq, Option.some.injEq, Addr.mk.injEq] at h1
  obtain ⟨⟨rfl, _⟩, _⟩ := h1
  exact ⟨h2, h3⟩

theorem Load_calls (h : IsMem w a c F) (o i : Int) :
    Calls Try.prog 21 #[.pointer (some ⟨a, 0, none⟩), .int .i64 o, .int .i64 i] w fun e w' => e = .returned (.tuple #[.int .i64 (c.load o i).1, .int .i64 (c.load o i).2]) ∧ w = w' := by
  obtain ⟨rv, rows, mv, tops, h, h2, h3, rfl⟩ := h
  have hl : c.now.length = rows.length := by rw [← h2]; simp [nowOf]
  by_cases ho : o < 1 ∨ (c.now.length : Int) < o
  · obtain ⟨A, cap, hrv⟩ := own_slice h.rown
    have h1 := h.cells
    rw [hrv] at h1
    rw [hl] at ho
    have e : c.load o i = (0, 211) := by unfold CM.load; rw [hl, if_pos ho]
    rw [e]
    exact load_out a w A rows.length cap o i h.made h1 ho
  · have ho' : 1 ≤ o ∧ o ≤ rows.length := by omega
    obtain ⟨k, rfl⟩ : ∃ k : Nat, o = (k : Int) + 1 := ⟨(o - 1).toNat, by omega⟩
    have hk : k < rows.length := by omega
    obtain ⟨r, hr⟩ : ∃ r, rows[k]? = some r := ⟨_, List.getElem?_eq_getElem hk⟩
    obtain ⟨g, cap, hrv, hg⟩ := h.rowAt hr
    have h1 := h.cells
    rw [hrv] at h1
    have hmem := List.mem_of_getElem? hr
    have hnow : c.now[k]? = some r.xs := by rw [← h2, nowOf_get, hr]; rfl
    have ek : ((k : Int) + 1 - 1).toNat = k := by omega
    by_cases hi : i < 0 ∨ (r.xs.length : Int) ≤ i
    · have e : c.load ((k : Int) + 1) i = (0, 212) := by
        unfold CM.load
        rw [if_neg ho, ek, hnow]
        exact if_pos hi
      rw [e]
      exact load_cell a g w rows.length cap k _ _ _ i h.made h1 hk h.few hg hi
    · obtain ⟨j, rfl⟩ : ∃ j : Nat, i = (j : Int) := ⟨i.toNat, by omega⟩
      have hj : j < r.xs.length := by omega
      have hx : r.xs[j]? = some r.xs[j] := List.getElem?_eq_getElem hj
      have e : c.load ((k : Int) + 1) j = (r.xs[j], 0) := by
        unfold CM.load
        rw [if_neg ho, ek, hnow]
        simp only [Option.getD_some]
        rw [if_neg hi]
        simp [look, hnow, hx]
      rw [e]
      exact load_in a g r.b w rows.length cap k _ _ j _ h.made h1 hk h.few hg hj (h.short r hmem) (h.cellAt hmem hx).1
end
end Go.Proofs.Ytlfaoibgmbbacaa
