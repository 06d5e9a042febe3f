/- The walks of slices.Clone, All and Plan. -/
import Derived.Test.YtlfaoibgmbbacaaNew
namespace Go.Proofs.Ytlfaoibgmbbacaa
open Go.RowKit
open Go.ChangeMaps (setBlock)
theorem eql_nil28 (w : World) (a : Option Addr) (n c n' c' : Nat) : (binOp .eql 28 (.slice a n c) (.slice none n' c')).run Try.prog w = .ok (.bool a.isNone) w :=
  Lib.run_eql_slice_nil w 28 2 a n c n' c' Try.underlying28
theorem clone_nil {w : World} {n c : Nat} :
    Calls Try.prog 35 #[.slice none n c] w fun e w' => e = .returned (.slice none 0 0) ∧ w = w' := by
  have hq := eql_nil28
  go_enter Try.func35, Try.ntmps35
  go_wp2
  go_ret
  exact ⟨rfl, rfl⟩
set_option maxRecDepth 100000 in
set_option maxHeartbeats 400000 in
theorem clone_some {w : World} {b n c : Nat} {xs : List Value} (hr : w.ownsRow 0 2 1 (.slice (some ⟨b, 0, none⟩) n c) n xs) (h1 : ∀ u ∈ xs, u.oneCell' = true) (hn : n ≤ 1024) :
    Calls Try.prog 35 #[.slice (some ⟨b, 0, none⟩) n c] w fun e w' => ∃ g cap, e = .returned (.slice (some ⟨g, 0, none⟩) n cap) ∧ w'.ownsRow w.heap.size 2 1 (.slice (some ⟨g, 0, none⟩) n cap) n xs ∧ Kept [] w w' := by
  have hq := eql_nil28
  obtain ⟨i0, hi, hz0, hz1, hz2⟩ := info_parts info2
  have hcells : ∀ j u, xs[j]? = some u → (w.alloc (.cells #[] 2)).cell? ((⟨b, 0, none⟩ : Addr).add j) = some u := by
    intro j u hj
    have := (Kept.alloc [] w (.cells #[] 2)).own hr (by simp)
    exact this.cells (g := b) rfl j u hj
  have hl : xs.length = n * 1 := hr.1
  have HC := Lib.hid hcells
  have HL := Lib.hid hl
  have H1 := Lib.hid h1
  have hmade := World.ownsRow_made (size := 1) (e := 2) w #[] 0 (Nat.le_refl w.heap.size) (by unfold maxLen; omega) (by simp)
  have HM := Lib.hid hmade
  clear hcells hl hr h1 hmade
  go_enter Try.func35, Try.ntmps35
  go_wp2_with (at_builtin
               refine wpList_append_own_at _ rfl _ _ 28 rfl w.heap.size 2 i0 (.int .i64 0) 1 8 Try.underlying28 hi hz0 hz1 hz2 rfl (by decide) (.slice (some ⟨w.heap.size, 0, none⟩) 0 0) 0 [] rfl HM.out ⟨b, 0, none⟩ n c xs rfl HL.out HC.out H1.out (by unfold maxLen; omega) (by omega) (by simp) ?_
               intro v' w1 hown' hgrow hnil hloc
               have X := Lib.hid hown'
               have Y := Lib.hid hgrow
               have Z := Lib.hid hnil
               clear hown' hgrow hnil hloc)
  go_ret
  have hx := X.out
  simp only [Nat.zero_add, List.nil_append] at hx
  have hk : Kept [] w w1 := ((Kept.alloc [w.heap.size] w _).trans' (Kept.grown Y.out (by simp [Value.ownBlock]))).mono (by
    intro b hb hlt
    simp only [List.mem_singleton] at hb
    omega)
  rcases hx.2 with ⟨rfl, rfl⟩ | ⟨g, cap, cur, rfl, rest⟩
  · have := Z.out.1 rfl
    simp at this
  · exact ⟨g, cap, rfl, hx, hk⟩

theorem own_base {w : World} {base base' : Nat} {e : TypeId} {size n : Nat} {v : Value} {xs : List Value} (h : w.ownsRow base e size v n xs) (hb : base' ≤ base) : w.ownsRow base' e size v n xs := by
  refine ⟨h.1, ?_⟩
  rcases h.2 with h | ⟨g, cap, cur, h1, h2, rest⟩
  · exact .inl h
  · exact .inr ⟨g, cap, cur, h1, by omega, rest⟩

/-- owner, of a memory. -/
theorem Owner_in {w : World} {a : Nat} {rv mv : Value} {rows : List RowL} {tops : List TopL} (h : MemB w a rv rows mv tops) {k : Nat} {r : RowL} (hr : rows[k]? = some r) :
    Calls Try.prog 34 #[.pointer (some ⟨a, 0, none⟩), .int .i64 ((k : Int) + 1)] w fun e w' => e = .returned (.tuple #[r.val, .int .i64 0]) ∧ w = w' := by
  obtain ⟨g, cap, hrv, hg⟩ := h.rowAt hr
  have h1 := h.cells
  rw [hrv] at h1
  exact owner_in a g w rows.length cap k _ h.made h1 (List.getElem?_eq_some_iff.1 hr).1 h.few hg
theorem Owner_out {w : World} {a : Nat} {rv mv : Value} {rows : List RowL} {tops : List TopL} (h : MemB w a rv rows mv tops) {o : Int} (ho : o < 1 ∨ (rows.length : Int) < o) :
    Calls Try.prog 34 #[.pointer (some ⟨a, 0, none⟩), .int .i64 o] w fun e w' => e = .returned (.tuple #[.slice none 0 0, .int .i64 211]) ∧ w = w' := by
  obtain ⟨A, cap, hrv⟩ := own_slice h.rown
  have h1 := h.cells
  rw [hrv] at h1
  exact owner_out a w A rows.length cap o h.made h1 ho

/-- All of an owner that there is. -/
theorem All_in {w : World} {a : Nat} {F : List Nat} {c : CM} (h : IsMem w a c F) {k : Nat} {xs : List Int} (hx : c.now[k]? = some xs) :
    Calls Try.prog 25 #[.pointer (some ⟨a, 0, none⟩), .int .i64 ((k : Int) + 1)] w fun e w' => ∃ g cap, e = .returned (.tuple #[.slice (some ⟨g, 0, none⟩) xs.length cap, .int .i64 0]) ∧
      w'.ownsRow w.heap.size 2 1 (.slice (some ⟨g, 0, none⟩) xs.length cap) xs.length (xs.map numV) ∧ Kept [] w w' ∧ xs.length ≤ 1024 := by
  obtain ⟨rv, rows, mv, tops, h, h2, h3, rfl⟩ := h
  rw [← h2, nowOf_get] at hx
  obtain ⟨r, hr, rfl⟩ := Option.map_eq_some_iff.1 hx
  have hmem := List.mem_of_getElem? hr
  have HO := Lib.hid (Owner_in h.toMemB hr)
  have hsh := h.short r hmem
  have HC := Lib.hid (clone_some (n := r.xs.length) (c := r.cap) (h.row r hmem) (by simp [numV, Value.oneCell']) hsh)
  simp only [RowL.val] at HO
  clear h h2 h3 hx
  go_enter Try.func25, Try.ntmps25
  go_wp2_with (first | (go_at_call 34; refine HO.out.mono ?_; rintro e w' ⟨rfl, rfl⟩) | (go_at_call 35; refine HC.out.mono ?_; rintro e w' ⟨g, cap, rfl, ho, hk⟩; have X := Lib.hid ho; have Y := Lib.hid hk; clear ho hk))
  go_ret2
  exact ⟨g, cap, rfl, X.out, Y.out, hsh⟩
theorem All_out {w : World} {a : Nat} {F : List Nat} {c : CM} (h : IsMem w a c F) {o : Int} (ho : o < 1 ∨ (c.now.length : Int) < o) :
    Calls Try.prog 25 #[.pointer (some ⟨a, 0, none⟩), .int .i64 o] w fun e w' => e = .returned (.tuple #[.slice none 0 0, .int .i64 211]) ∧ w = w' := by
  obtain ⟨rv, rows, mv, tops, h, h2, h3, rfl⟩ := h
  have hl : c.now.length = rows.length := by rw [← h2]; simp [nowOf]
  rw [hl] at ho
  have HO := Lib.hid (Owner_out h.toMemB ho)
  have HC := Lib.hid (clone_nil (w := w) (n := 0) (c := 0))
  clear h h2 h3 ho
  go_enter Try.func25, Try.ntmps25
  go_wp2_with (first | (go_at_call 34; refine HO.out.mono ?_; rintro e w' ⟨rfl, rfl⟩) | (go_at_call 35; refine HC.out.mono ?_; rintro e w' ⟨rfl, rfl⟩))
  go_ret2
  exact ⟨rfl, rfl⟩

theorem info3 : (Try.prog.info? 3).map (fun i => (i.zero, i.size, i.bytes)) = some (some (.int .i64 0), 1, 8) := by kernel_rfl
def natV (n : Nat) : Value := .int .i64 (n : Int)
set_option maxRecDepth 100000 in
set_option maxHeartbeats 1000000 in
theorem Plan_calls {w : World} {a : Nat} {F : List Nat} {c : CM} (h : IsMem w a c F) :
    Calls Try.prog 22 #[.pointer (some ⟨a, 0, none⟩)] w fun e w' => ∃ A cap, e = .returned (.slice A c.now.length cap) ∧ w'.ownsRow w.heap.size 3 1 (.slice A c.now.length cap) c.now.length ((lens c.now).map natV) ∧ Kept [] w w' ∧ c.now.length ≤ 16 := by
  obtain ⟨rv, rows, mv, tops, h, h2, h3, rfl⟩ := h
  have hl : c.now.length = rows.length := by rw [← h2]; simp [nowOf]
  obtain ⟨R, rc, hrv⟩ := own_slice h.rown
  have hm := h.made
  have h1 := h.cells
  rw [hrv] at h1
  have hfew := h.few
  obtain ⟨i0, hi, hz0, hz1, hz2⟩ := info_parts info3
  rw [hl]
  have H := Lib.hid h.toMemB
  have H2 := Lib.hid h2
  have H3 := Lib.hid hrv
  clear h hl h2 h3 hrv
  go_enter Try.func22, Try.ntmps22
  go_wp2_with (go_at_call 31; refine (is_yes _ _ hm).mono ?_; rintro e w' ⟨rfl, rfl⟩)
  go_loopw [3, 13] (fun v i wr => ∃ (k : Nat) (A0 : Option Addr) (cap0 : Nat), k ≤ rows.length ∧ i = .int .i64 k ∧ v = .slice A0 k cap0 ∧ wr.ownsRow w.heap.size 3 1 (.slice A0 k cap0) k ((lens (nowOf (rows.take k))).map natV) ∧ Kept [] w wr) (fun _ i _ => rows.length - (intOf i).toNat)
  case atStart => exact ⟨0, none, 0, Nat.zero_le _, rfl, rfl, World.ownsRow_nil _ _ _ _, Kept.refl _ _⟩
  case round =>
    obtain ⟨k, A0, cap0, hk, rfl, rfl, hown, hK⟩ := hrel
    by_cases hlt : k < rows.length
    · obtain ⟨r, hr⟩ : ∃ r, rows[k]? = some r := ⟨_, List.getElem?_eq_getElem hlt⟩
      have hB := H.out.kept hK (by simp)
      obtain ⟨g, cap, hrv, hgc⟩ := hB.rowAt hr
      have := H3.out.symm.trans hrv
      simp only [Value.slice.injEq, true_and] at this
      obtain ⟨rfl, rfl⟩ := this
      have hsh := hB.short r (List.mem_of_getElem? hr)
      simp only [RowL.val] at hgc
      have hsz := hK.size
      have X := Lib.hid hown
      have Y := Lib.hid hK
      have Z := Lib.hid hr
      clear hown hK hr hB hrv
      go_wp2_with (at_builtin
                   refine wpList_append_own_at _ rfl _ _ 44 rfl w.heap.size 3 i0 (.int .i64 0) 1 8 Try.underlying44 hi hz0 hz1 hz2 rfl (by decide) (.slice A0 k cap0) k _ rfl (X.out.alloc _) ⟨wr.heap.size, 0, none⟩ 1 1 [.int .i64 (r.xs.length : Int)] rfl rfl (cell_one_new _ _ _) (by simp [Value.oneCell']) (by unfold maxLen; omega) (by omega) (by simp; omega) ?_
                   intro v' w1 hown' hgrow hnil hloc
                   have X1 := Lib.hid hown'
                   have Y1 := Lib.hid hgrow
                   clear hown' hgrow hnil hloc)
      obtain ⟨A1, cap1, hv1⟩ := own_slice X1.out
      have hx := X1.out
      have kg : Kept [] w w1 := Y.out.trans ((Kept.alloc _ _ _).trans' (Kept.grown (F := (Value.slice A0 k cap0).ownBlock.toList) Y1.out (by simp))) (fun b hb => .inr (X.out.lt b (by simpa using hb)).1)
      have e : (lens (nowOf (rows.take (k + 1)))).map natV = (lens (nowOf (rows.take k))).map natV ++ [.int .i64 (r.xs.length : Int)] := by
        rw [List.take_add_one, Z.out]
        simp [lens, nowOf, natV]
      rw [hv1] at hx ⊢
      go_roundw
      case rel => exact ⟨k + 1, A1, cap1, by omega, by go_num, rfl, by rw [e]; exact hx, kg⟩
      case measure => simp [intOf]; omega
    · obtain rfl : k = rows.length := by omega
      have X := Lib.hid hown
      have Y := Lib.hid hK
      clear hown hK
      go_wp2
      go_ret
      have hx := X.out
      rw [List.take_length, H2.out] at hx
      exact ⟨A0, cap0, rfl, hx, Y.out, hfew⟩
end Go.Proofs.Ytlfaoibgmbbacaa
