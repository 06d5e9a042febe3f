/- The table of package caps in the model's heap: IsTab says that a pointer leads to a table with these handles and these places. -/
import Derived.Test.YtmndckeohfcgkaaRights
namespace Go.Proofs.Ytmndckeohfcgkaa
open Go.RowKit
open Go.ChangeMaps (setBlock)

def intV (n : Int) : Value := .int .i64 n
theorem int_check (n : Nat) (b : Bool) (k : Int) (w : World) : (Instr.checkKey b (n + 1) 3 (intV k)).run Try.prog w = .ok () w := by
  unfold intV
  simp only [Instr.checkKey, Sem.run_bind, run_underlying Try.underlying3, Result.andThen_ok]
  rfl
theorem int_bits (n : Nat) (k : Int) : Instr.sameBits (n + 1) (intV k) (intV k) = true := by simp [intV, Instr.sameBits]
theorem int_keys : Keys Try.prog 3 intV where
  check := fun b k w => int_check 9999 b k w
  same := fun k => int_bits 9999 k
  find := fun {V} encV k m es w h => by
    have hn : ∀ (es : List MapEntry) (m : List (Int × V)) (i : Nat), es.map (fun e => (e.key, e.val)) = m.map (fun p => (intV p.1, encV p.2)) →
        Instr.findNow (.int .i64) (intV k) es i = some ((mix k m i).map fun p => (p.1, encV p.2)) := by
      intro es
      induction es with
      | nil =>
        intro m i h
        have : m = [] := by simpa using h.symm
        subst this
        rfl
      | cons e es ih =>
        intro m i h
        cases m with
        | nil => simp at h
        | cons p m =>
          simp only [List.map_cons, List.cons.injEq, Prod.mk.injEq] at h
          unfold Instr.findNow mix
          rw [h.1.1]
          by_cases hk : k = p.1
          · subst hk
            simp [Instr.sameNow, intV, h.1.2]
          · have hk' : ¬ p.1 = k := fun e => hk e.symm
            have := ih m (i + 1) h.2
            simp only [intV] at this
            have hb : (k == p.1) = false := by simp [hk]
            simp [Instr.sameNow, intV, hb, hk', this]
    unfold Instr.findKey
    simp only [Sem.run_bind, run_underlying Try.underlying3, Result.andThen_ok]
    rw [hn es m 0 h]
    rfl

/-! ### the table -/
structure Hd where
  serial : Int
  parent : Int
  port : Int
  holder : Int
  rights : Nat
deriving DecidableEq
def Hd.cells (h : Hd) : List Value := [.int .i64 h.serial, .int .i64 h.parent, .int .i64 h.port, .int .i64 h.holder, .int .u8 (h.rights : Int)]
def Hd.val (h : Hd) : Value := .agg #[.int .i64 h.serial, .int .i64 h.parent, .int .i64 h.port, .int .i64 h.holder, .int .u8 (h.rights : Int)]
def noHd : Hd := ⟨0, 0, 0, 0, 0⟩
/-- The next serial, the handles in the order of their serials, and the places of each holder. -/
structure CT where
  next : Int
  live : List Hd
  places : List (List Int)
def CT.ents (c : CT) : List (Int × Hd) := c.live.map fun h => (h.serial, h)

structure CT.ok (c : CT) : Prop where
  n1 : 1 ≤ c.next
  n2 : c.next ≤ 281474976710657
  asc : c.live.Pairwise (fun a b => a.serial < b.serial)
  low : ∀ h ∈ c.live, 1 ≤ h.serial ∧ h.serial < c.next
  par : ∀ h ∈ c.live, h.parent = 0 ∨ ∃ p ∈ c.live, p.serial = h.parent ∧ p.serial < h.serial ∧ p.port = h.port ∧ grants p.rights = true ∧ belowB h.rights p.rights = true
  hol : ∀ h ∈ c.live, 0 ≤ h.holder ∧ h.holder ≤ 16
  prt : ∀ h ∈ c.live, 0 ≤ h.port ∧ h.port ≤ 4294967295
  rts : ∀ h ∈ c.live, h.rights ≤ 15
  few : c.live.length ≤ 256
  p17 : c.places.length = 17
  pfew : ∀ l ∈ c.places, l.length ≤ 256
  pasc : ∀ l ∈ c.places, l.Pairwise (· < ·)
  plow : ∀ l ∈ c.places, ∀ s ∈ l, 1 ≤ s ∧ s < c.next
  pin : ∀ h ∈ c.live, ∃ l, c.places[h.holder.toNat]? = some l ∧ h.serial ∈ l
  pwho : ∀ h ∈ c.live, ∀ (k : Nat) (l : List Int), c.places[k]? = some l → h.serial ∈ l → h.holder = (k : Int)

structure TabB (w : World) (a r : Nat) (c : CT) (pv : List Value) (m : List (Int × Hd)) : Prop where
  blk : Blk w a 69 (.bool true :: .int .i64 c.next :: .map (some r) :: pv).toArray
  map : MapIs intV Hd.val w r m
  perm : m.Perm c.ents
  plen : pv.length = 17
  own : ∀ (k : Nat) (v : Value) (l : List Int), pv[k]? = some v → c.places[k]? = some l → w.ownsRow 0 3 1 v l.length (l.map intV)
  pnd : ∀ (i j : Nat) (u v : Value) (b : Nat), pv[i]? = some u → pv[j]? = some v → u.ownBlock = some b → v.ownBlock = some b → i = j
  ok : c.ok
def tfoot (a r : Nat) (pv : List Value) : List Nat := a :: r :: pv.filterMap Value.ownBlock
def IsTab (w : World) (a : Nat) (c : CT) (F : List Nat) : Prop := ∃ r pv m, TabB w a r c pv m ∧ F = tfoot a r pv

section
variable {w w' : World} {a r : Nat} {c : CT} {pv : List Value} {m : List (Int × Hd)} {F : List Nat}
theorem mem_tfoot {b : Nat} : b ∈ tfoot a r pv ↔ b = a ∨ b = r ∨ ∃ v ∈ pv, v.ownBlock = some b := by
  simp [tfoot]
theorem own_lt {base n size : Nat} {e : TypeId} {v : Value} {xs : List Value} (h : w.ownsRow base e size v n xs) {k : Nat} (hk : v.ownBlock = some k) : k < w.heap.size := (h.lt k hk).2
theorem own_blk {base n size : Nat} {e : TypeId} {v : Value} {xs : List Value} (h : w.ownsRow base e size v n xs) {k : Nat} (hk : v.ownBlock = some k) : ∃ cs, Blk w k e cs := by
  rcases h.2 with ⟨rfl, _⟩ | ⟨g, cap, cur, rfl, hb, hg, rest⟩
  · simp [Value.ownBlock] at hk
  · simp only [Value.ownBlock, Option.some.injEq] at hk
    subst hk
    exact ⟨cur, hg⟩
theorem own_cell {base n : Nat} {e : TypeId} {v : Value} {xs : List Value} (h : w.ownsRow base e 1 v n xs) {k : Nat} {u : Value} (hk : xs[k]? = some u) :
    ∃ g cap, v = .slice (some ⟨g, 0, none⟩) n cap ∧ w.cell? ⟨g, k, none⟩ = some u ∧ w.frozen? ⟨g, k, none⟩ = false ∧ n ≤ cap ∧ cap ≤ maxLen := by
  rcases h.2 with ⟨rfl, rfl⟩ | ⟨g, cap, cur, rfl, hb, hg, hnc, hcm, hcs, ht⟩
  · have : xs = [] := List.eq_nil_of_length_eq_zero (by simpa using h.1)
    subst this
    simp at hk
  · refine ⟨g, cap, rfl, ?_, (show Blk w g e cur from hg).frozen k, hnc, hcm⟩
    rw [(show Blk w g e cur from hg).cell k]
    rw [← ht, List.getElem?_take] at hk
    split at hk
    · simpa using hk
    · cases hk
theorem own_slice {base n size : Nat} {e : TypeId} {v : Value} {xs : List Value} (h : w.ownsRow base e size v n xs) : ∃ A cap, v = .slice A n cap := by
  rcases h.2 with ⟨rfl, rfl⟩ | ⟨g, cap, cur, rfl, _⟩
  · exact ⟨_, _, rfl⟩
  · exact ⟨_, _, rfl⟩
theorem own_base {base base' n size : Nat} {e : TypeId} {v : Value} {xs : List Value} (h : w.ownsRow base e size v n xs) (hb : base' ≤ base) : w.ownsRow base' e size v n xs := by
  refine ⟨h.1, ?_⟩
  rcases h.2 with h0 | ⟨g, cap, cur, rfl, hg, rest⟩
  · exact .inl h0
  · exact .inr ⟨g, cap, cur, rfl, Nat.le_trans hb hg, rest⟩
theorem TabB.place (h : TabB w a r c pv m) {k : Nat} {v : Value} (hv : pv[k]? = some v) : ∃ l, c.places[k]? = some l ∧ w.ownsRow 0 3 1 v l.length (l.map intV) := by
  have h1 := (List.getElem?_eq_some_iff.1 hv).1
  have h2 : k < c.places.length := by rw [h.ok.p17, ← h.plen]; exact h1
  exact ⟨_, List.getElem?_eq_getElem h2, h.own k v _ hv (List.getElem?_eq_getElem h2)⟩
theorem TabB.at (h : TabB w a r c pv m) {k : Nat} (hk : k < 17) : ∃ v l, pv[k]? = some v ∧ c.places[k]? = some l ∧ w.ownsRow 0 3 1 v l.length (l.map intV) := by
  have hv : pv[k]? = some (pv[k]'(by rw [h.plen]; exact hk)) := List.getElem?_eq_getElem _
  obtain ⟨l, h1, h2⟩ := h.place hv
  exact ⟨_, l, hv, h1, h2⟩
theorem TabB.made (h : TabB w a r c pv m) : w.cell? ⟨a, 0, none⟩ = some (.bool true) := by rw [h.blk.cell]; rfl
theorem TabB.next (h : TabB w a r c pv m) : w.cell? ⟨a, 1, none⟩ = some (.int .i64 c.next) := by rw [h.blk.cell]; rfl
theorem TabB.handles (h : TabB w a r c pv m) : w.cell? ⟨a, 2, none⟩ = some (.map (some r)) := by rw [h.blk.cell]; rfl
theorem TabB.cellP (h : TabB w a r c pv m) {k : Nat} {v : Value} (hv : pv[k]? = some v) : w.cell? ⟨a, 3 + k, none⟩ = some v := by
  rw [h.blk.cell]
  rw [List.getElem?_toArray]
  have : 3 + k = k + 1 + 1 + 1 := by omega
  rw [this]
  simpa using hv
theorem TabB.kept (h : TabB w a r c pv m) (hk : Kept F w w') (hd : ∀ b ∈ tfoot a r pv, b ∉ F) : TabB w' a r c pv m where
  blk := hk.blk h.blk (hd _ (by simp [mem_tfoot]))
  map := hk.map h.map (hd _ (by simp [mem_tfoot]))
  perm := h.perm
  plen := h.plen
  own := fun k v l hv hl => hk.own (h.own k v l hv hl) fun b hb => hd b (mem_tfoot.2 (.inr (.inr ⟨v, List.mem_of_getElem? hv, hb⟩)))
  pnd := h.pnd
  ok := h.ok
theorem IsTab.kept (h : IsTab w a c F) {G : List Nat} (hk : Kept G w w') (hd : ∀ b ∈ F, b ∉ G) : IsTab w' a c F := by
  obtain ⟨r, pv, m, h1, rfl⟩ := h
  exact ⟨r, pv, m, h1.kept hk hd, rfl⟩
theorem IsTab.keptNil (h : IsTab w a c F) (hk : Kept [] w w') : IsTab w' a c F := h.kept hk (by simp)
theorem TabB.lt (h : TabB w a r c pv m) : ∀ b ∈ tfoot a r pv, b < w.heap.size := by
  intro b hb
  rcases mem_tfoot.1 hb with rfl | rfl | ⟨v, hv, hb⟩
  · exact h.blk.lt
  · exact h.map.lt
  · obtain ⟨k, hk⟩ := List.mem_iff_getElem?.1 hv
    obtain ⟨l, _, h2⟩ := h.place hk
    exact own_lt h2 hb
theorem IsTab.lt (h : IsTab w a c F) : ∀ b ∈ F, b < w.heap.size := by
  obtain ⟨r, pv, m, h1, rfl⟩ := h
  exact h1.lt
theorem IsTab.ok (h : IsTab w a c F) : c.ok := by
  obtain ⟨r, pv, m, h1, rfl⟩ := h
  exact h1.ok
theorem TabB.ra (h : TabB w a r c pv m) : r ≠ a := h.map.not_blk h.blk
theorem TabB.pa (h : TabB w a r c pv m) {v : Value} (hv : v ∈ pv) {b : Nat} (hb : v.ownBlock = some b) : b ≠ a ∧ b ≠ r := by
  obtain ⟨k, hk⟩ := List.mem_iff_getElem?.1 hv
  obtain ⟨l, _, h2⟩ := h.place hk
  obtain ⟨cs, hcs⟩ := own_blk h2 hb
  exact ⟨hcs.ne_ h.blk (by decide), (h.map.not_blk hcs).symm⟩

/-! the map's entries are the handles -/
theorem ents_keys (c : CT) : c.ents.map (·.1) = c.live.map (·.serial) := by simp [CT.ents, Function.comp_def]
theorem CT.ok.nodup (h : c.ok) : (c.live.map (·.serial)).Nodup := by
  unfold List.Nodup
  rw [List.pairwise_map]
  exact h.asc.imp fun h => by omega
def CT.get (c : CT) (s : Int) : Option Hd := c.live.find? fun h => h.serial == s
theorem mget_perm {K V : Type} [DecidableEq K] {m m' : List (K × V)} (h : m.Perm m') (hn : (m.map (·.1)).Nodup) (k : K) : mget k m = mget k m' := by
  induction h with
  | nil => rfl
  | cons x _ ih =>
    simp only [List.map_cons, List.nodup_cons] at hn
    simp only [mget, ih hn.2]
  | swap x y l =>
    simp only [List.map_cons, List.nodup_cons, List.mem_cons, not_or] at hn
    simp only [mget]
    by_cases h1 : y.1 = k
    · by_cases h2 : x.1 = k
      · exact absurd (h1.trans h2.symm) hn.1.1
      · simp [h1, h2]
    · simp [h1]
  | trans h1 _ ih1 ih2 => exact (ih1 hn).trans (ih2 ((h1.map _).nodup_iff.1 hn))
theorem mget_ents (c : CT) (s : Int) : mget s c.ents = c.get s := by
  unfold CT.ents CT.get
  induction c.live with
  | nil => rfl
  | cons h l ih =>
    simp only [List.map_cons, mget, List.find?_cons]
    by_cases hs : h.serial = s
    · simp [hs]
    · have hb : (h.serial == s) = false := by simp [hs]
      simp [hs, ih, hb]
theorem TabB.get (h : TabB w a r c pv m) (s : Int) : mget s m = c.get s := by
  rw [mget_perm h.perm h.map.nodup, mget_ents]
theorem get_some {s : Int} {h : Hd} (e : c.get s = some h) : h ∈ c.live ∧ h.serial = s := by
  unfold CT.get at e
  exact ⟨List.mem_of_find?_eq_some e, by simpa using List.find?_some e⟩
theorem get_none {s : Int} (e : c.get s = none) : ∀ h ∈ c.live, h.serial ≠ s := by
  unfold CT.get at e
  intro h hh
  have := List.find?_eq_none.1 e h hh
  simpa using this
theorem CT.ok.get_mem (ok : c.ok) {h : Hd} (hh : h ∈ c.live) : c.get h.serial = some h := by
  cases e : c.get h.serial with
  | none => exact absurd rfl (get_none e h hh)
  | some h' =>
    obtain ⟨h1, h2⟩ := get_some e
    have hn := ok.asc
    rw [List.pairwise_iff_getElem] at hn
    obtain ⟨i, hi, rfl⟩ := List.getElem_of_mem hh
    obtain ⟨j, hj, rfl⟩ := List.getElem_of_mem h1
    rcases Nat.lt_trichotomy i j with hij | rfl | hij
    · have := hn i j hi hj hij; omega
    · rfl
    · have := hn j i hj hi hij; omega
theorem TabB.size (h : TabB w a r c pv m) : m.length = c.live.length := by rw [h.perm.length_eq]; simp [CT.ents]
end

/-! ### is, holder, Next, Len, New -/
theorem is_yes (a : Nat) (w : World) (h0 : w.cell? ⟨a, 0, none⟩ = some (.bool true)) :
    Calls Try.prog 37 #[.pointer (some ⟨a, 0, none⟩)] w fun e w' => e = .returned (.bool true) ∧ w = w' := by
  go_enter Try.func37, Try.ntmps37
  go_wp2
  go_ret
  exact ⟨rfl, rfl⟩
theorem is_none (w : World) :
    Calls Try.prog 37 #[.pointer none] w fun e w' => e = .returned (.bool false) ∧ w = w' := by
  go_enter Try.func37, Try.ntmps37
  go_wp2
  go_ret
  exact ⟨rfl, rfl⟩
theorem is_no (a : Nat) (w : World) (h0 : w.cell? ⟨a, 0, none⟩ = some (.bool false)) :
    Calls Try.prog 37 #[.pointer (some ⟨a, 0, none⟩)] w fun e w' => e = .returned (.bool false) ∧ w = w' := by
  go_enter Try.func37, Try.ntmps37
  go_wp2
  go_ret
  exact ⟨rfl, rfl⟩
def holds (n : Int) : Bool := decide (0 ≤ n ∧ n ≤ 16)
theorem holder_calls (w : World) (n : Int) : Calls Try.prog 45 #[.int .i64 n] w fun e w' => e = .returned (.bool (holds n)) ∧ w = w' := by
  by_cases h : 0 ≤ n
  · by_cases h2 : n ≤ 16
    · have e : holds n = true := by simp [holds, h, h2]
      rw [e]
      clear e
      go_enter Try.func45, Try.ntmps45
      go_wp2
      go_ret
      exact ⟨by simp [h2], rfl⟩
    · have e : holds n = false := by simp [holds, h2]
      rw [e]
      clear e
      go_enter Try.func45, Try.ntmps45
      go_wp2
      go_ret
      exact ⟨by simp [h2], rfl⟩
  · have e : holds n = false := by simp [holds, h]
    have h' : n < 0 := by omega
    rw [e]
    clear e h
    go_enter Try.func45, Try.ntmps45
    go_wp2
    go_ret
    exact ⟨rfl, rfl⟩
section
variable {w w' : World} {a r : Nat} {c : CT} {pv : List Value} {m : List (Int × Hd)} {F : List Nat}
theorem Next_calls (h : IsTab w a c F) : Calls Try.prog 20 #[.pointer (some ⟨a, 0, none⟩)] w fun e w' => e = .returned (.int .i64 c.next) ∧ w = w' := by
  obtain ⟨r, pv, m, h, rfl⟩ := h
  have h0 := h.made
  have h1 := h.next
  clear h
  go_enter Try.func20, Try.ntmps20
  go_wp2_with (go_at_call 37; refine (is_yes _ _ h0).mono ?_; rintro e w' ⟨rfl, rfl⟩)
  go_ret
  exact ⟨rfl, rfl⟩
theorem Len_calls (h : IsTab w a c F) : Calls Try.prog 24 #[.pointer (some ⟨a, 0, none⟩)] w fun e w' => e = .returned (.int .i64 c.live.length) ∧ w = w' := by
  obtain ⟨r, pv, m, h, rfl⟩ := h
  have h0 := h.made
  have h1 := h.handles
  have hl := run_len_is (P := Try.prog) Try.underlying66 h.map
  rw [h.size] at hl
  clear h
  go_enter Try.func24, Try.ntmps24
  go_wp2_with (go_at_call 37; refine (is_yes _ _ h0).mono ?_; rintro e w' ⟨rfl, rfl⟩)
  go_ret
  exact ⟨rfl, rfl⟩
end
end Go.Proofs.Ytmndckeohfcgkaa
