/- What a law holds in the heap: things that lie apart (memories, slices), each kept while another one turns. -/
import Derived.Test.YtlfaoibgmbbacaaEqual
namespace Go.Proofs.Ytlfaoibgmbbacaa
open Go.RowKit

/-- A thing in the heap: it holds of a world and of the blocks that it lies in. -/
structure Res where
  on : World → List Nat → Prop
  framed : ∀ {F G : List Nat} {w w' : World}, on w F → Kept G w w' → (∀ b ∈ F, b ∉ G) → on w' F
  lt : ∀ {F : List Nat} {w : World}, on w F → ∀ b ∈ F, b < w.heap.size

def Res.mem (a : Nat) (c : CM) : Res where
  on w F := IsMem w a c F
  framed h hk hd := h.kept hk hd
  lt h := h.lt
def Res.row (v : Value) (e : TypeId) (size n : Nat) (xs : List Value) : Res where
  on w F := w.ownsRow 0 e size v n xs ∧ F = v.ownBlock.toList
  framed h hk hd := ⟨hk.own h.1 fun k e => hd k (by rw [h.2]; simpa using e), h.2⟩
  lt h b hb := own_lt h.1 (by rw [h.2] at hb; simpa using hb)

def Sep (w : World) : List Res → List Nat → Prop
  | [], F => F = []
  | R :: rs, F => ∃ F1 F2, R.on w F1 ∧ Sep w rs F2 ∧ (∀ b ∈ F1, b ∉ F2) ∧ F = F1 ++ F2
def St (w0 w : World) (rs : List Res) : Prop := Kept [] w0 w ∧ ∃ F, Sep w rs F ∧ ∀ b ∈ F, w0.heap.size ≤ b

section
variable {w0 w w' : World} {rs : List Res} {R R' : Res} {F G : List Nat}
theorem Sep.kept : ∀ {rs : List Res} {F : List Nat}, Sep w rs F → Kept G w w' → (∀ b ∈ F, b ∉ G) → Sep w' rs F
  | [], _, h, _, _ => h
  | R :: rs, _, ⟨F1, F2, h1, h2, h3, rfl⟩, hk, hd =>
    ⟨F1, F2, R.framed h1 hk fun b hb => hd b (by simp [hb]), Sep.kept h2 hk fun b hb => hd b (by simp [hb]), h3, rfl⟩
theorem Sep.lt : ∀ {rs : List Res} {F : List Nat}, Sep w rs F → ∀ b ∈ F, b < w.heap.size
  | [], _, h, b, hb => by rw [h] at hb; simp at hb
  | R :: rs, _, ⟨F1, F2, h1, h2, h3, rfl⟩, b, hb => by
    rcases List.mem_append.1 hb with hb | hb
    · exact R.lt h1 b hb
    · exact Sep.lt h2 b hb
theorem St.nil (w : World) : St w w [] := ⟨Kept.refl _ _, [], rfl, by simp⟩
theorem St.from {w1 : World} (h : St w1 w rs) (hk : Kept [] w0 w1) : St w0 w rs := by
  obtain ⟨hk1, F, h1, hF⟩ := h
  exact ⟨hk.trans' hk1, F, h1, fun b hb => Nat.le_trans hk.size (hF b hb)⟩
/-- The thing at the head turns. -/
theorem St.head (h : St w0 w (R :: rs)) : ∃ F1, R.on w F1 ∧ ∀ {w' : World} {R' : Res} {F' : List Nat}, R'.on w' F' → Kept F1 w w' → (∀ b ∈ F', b ∈ F1 ∨ w.heap.size ≤ b) → St w0 w' (R' :: rs) := by
  obtain ⟨hk, F, ⟨F1, F2, h1, h2, h3, rfl⟩, hF⟩ := h
  refine ⟨F1, h1, fun {w' R' F'} h1' hk' hF' => ?_⟩
  refine ⟨hk.trans hk' fun b hb => .inr (hF b (by simp [hb])), F' ++ F2, ⟨F', F2, h1', Sep.kept h2 hk' fun b hb hb1 => h3 b hb1 hb, fun b hb hb2 => ?_, rfl⟩, fun b hb => ?_⟩
  · rcases hF' b hb with h | h
    · exact h3 b h hb2
    · have := Sep.lt h2 b hb2
      omega
  · rcases List.mem_append.1 hb with hb | hb
    · rcases hF' b hb with h | h
      · exact hF b (by simp [h])
      · have := hk.size; omega
    · exact hF b (by simp [hb])
/-- Nothing of these turns. -/
theorem St.kept (h : St w0 w rs) (hk : Kept [] w w') : St w0 w' rs := by
  obtain ⟨hk0, F, h1, hF⟩ := h
  exact ⟨hk0.trans' hk, F, Sep.kept h1 hk (by simp), hF⟩
/-- A new thing. -/
theorem St.new (h : St w0 w rs) (hk : Kept [] w w') (hn : R.on w' G) (hG : ∀ b ∈ G, w.heap.size ≤ b) : St w0 w' (R :: rs) := by
  obtain ⟨hk0, F, h1, hF⟩ := h
  refine ⟨hk0.trans' hk, G ++ F, ⟨G, F, hn, Sep.kept h1 hk (by simp), fun b hb hb2 => ?_, rfl⟩, fun b hb => ?_⟩
  · have := Sep.lt h1 b hb2
    have := hG b hb
    omega
  · rcases List.mem_append.1 hb with hb | hb
    · have := hG b hb
      have := hk0.size
      omega
    · exact hF b hb
theorem St.swap (h : St w0 w (R :: R' :: rs)) : St w0 w (R' :: R :: rs) := by
  obtain ⟨hk, F, ⟨F1, F2, h1, ⟨F3, F4, h3, h4, h5, rfl⟩, h6, rfl⟩, hF⟩ := h
  refine ⟨hk, F3 ++ (F1 ++ F4), ⟨F3, F1 ++ F4, h3, ⟨F1, F4, h1, h4, fun b hb hb2 => h6 b hb (by simp [hb2]), rfl⟩, fun b hb hb2 => ?_, rfl⟩, fun b hb => hF b ?_⟩
  · rcases List.mem_append.1 hb2 with hb2 | hb2
    · exact h6 b hb2 (by simp [hb])
    · exact h5 b hb hb2
  · simp only [List.mem_append] at hb ⊢
    rcases hb with hb | hb | hb
    · exact .inr (.inl hb)
    · exact .inl hb
    · exact .inr (.inr hb)
theorem St.drop (h : St w0 w (R :: rs)) : St w0 w rs := by
  obtain ⟨hk, F, ⟨F1, F2, h1, h2, h3, rfl⟩, hF⟩ := h
  exact ⟨hk, F2, h2, fun b hb => hF b (by simp [hb])⟩
theorem St.whole (h : St w0 w rs) : Kept [] w0 w := h.1
theorem St.at (h : St w0 w (R :: rs)) : ∃ F1, R.on w F1 := by
  obtain ⟨hk, F, ⟨F1, F2, h1, h2, h3, rfl⟩, hF⟩ := h
  exact ⟨F1, h1⟩
theorem St.row {v : Value} {e : TypeId} {size n : Nat} {xs : List Value} (h : St w0 w (Res.row v e size n xs :: rs)) : w.ownsRow 0 e size v n xs := by
  obtain ⟨F1, h1, _⟩ := h.at
  exact h1
end

/-! ### the calls of a memory at the head -/
section
variable {w0 w : World} {rs : List Res} {a : Nat} {c : CM}
theorem St.load (h : St w0 w (.mem a c :: rs)) (o i : Int) {r : Int × Int} (hr : c.load o i = r) :
    Calls Try.prog 21 #[.pointer (some ⟨a, 0, none⟩), .int .i64 o, .int .i64 i] w fun e w' => e = .returned (.tuple #[.int .i64 r.1, .int .i64 r.2]) ∧ w = w' := by
  obtain ⟨F, h1⟩ := h.at
  subst hr
  exact Load_calls h1 o i
theorem St.store (h : St w0 w (.mem a c :: rs)) (o i v : Int) {r : Int × Int} {c' : CM} (hr : c.load o i = r) (hc : c.store o i v = c') :
    Calls Try.prog 24 #[.pointer (some ⟨a, 0, none⟩), .int .i64 o, .int .i64 i, .int .i64 v] w fun e w' => e = .returned (.tuple #[.int .i64 r.1, .int .i64 r.2]) ∧ St w0 w' (.mem a c' :: rs) := by
  obtain ⟨F, h1, h2⟩ := h.head
  subst hr
  subst hc
  refine (Store_calls h1 o i v).mono ?_
  rintro e w' ⟨rfl, h3, h4⟩
  exact ⟨rfl, h2 (R' := .mem a _) h3 h4 fun b hb => .inl hb⟩
theorem St.mark (h : St w0 w (.mem a c :: rs)) {r : Int × Int} {c' : CM} (hr : c.markRes = r) (hc : c.mark = c') :
    Calls Try.prog 16 #[.pointer (some ⟨a, 0, none⟩)] w fun e w' => e = .returned (.tuple #[.int .i64 r.1, .int .i64 r.2]) ∧ St w0 w' (.mem a c' :: rs) := by
  obtain ⟨F, h1, h2⟩ := h.head
  subst hr
  subst hc
  refine (Mark_calls h1).mono ?_
  rintro e w' ⟨rfl, F', h3, h4, h5⟩
  exact ⟨rfl, h2 (R' := .mem a _) h3 h4 h5⟩
theorem St.back (h : St w0 w (.mem a c :: rs)) {r : Int × Int} {c' : CM} (hr : c.popRes = r) (hc : c.back = c') :
    Calls Try.prog 17 #[.pointer (some ⟨a, 0, none⟩)] w fun e w' => e = .returned (.tuple #[.int .i64 r.1, .int .i64 r.2]) ∧ St w0 w' (.mem a c' :: rs) := by
  obtain ⟨F, h1, h2⟩ := h.head
  subst hr
  subst hc
  refine (Back_calls h1).mono ?_
  rintro e w' ⟨rfl, F', h3, h4, h5⟩
  exact ⟨rfl, h2 (R' := .mem a _) h3 h4 h5⟩
theorem St.keep (h : St w0 w (.mem a c :: rs)) {r : Int × Int} {c' : CM} (hr : c.popRes = r) (hc : c.keep = c') :
    Calls Try.prog 20 #[.pointer (some ⟨a, 0, none⟩)] w fun e w' => e = .returned (.tuple #[.int .i64 r.1, .int .i64 r.2]) ∧ St w0 w' (.mem a c' :: rs) := by
  obtain ⟨F, h1, h2⟩ := h.head
  subst hr
  subst hc
  refine (Keep_calls h1).mono ?_
  rintro e w' ⟨rfl, F', h3, h4, h5⟩
  exact ⟨rfl, h2 (R' := .mem a _) h3 h4 h5⟩
theorem St.marks (h : St w0 w (.mem a c :: rs)) :
    Calls Try.prog 14 #[.pointer (some ⟨a, 0, none⟩)] w fun e w' => e = .returned (.int .i64 c.marks.length) ∧ w = w' := by
  obtain ⟨F, h1⟩ := h.at
  exact Marks_calls h1
theorem row_on {w : World} {base : Nat} {e : TypeId} {size n : Nat} {v : Value} {xs : List Value} (h : w.ownsRow base e size v n xs) : (Res.row v e size n xs).on w v.ownBlock.toList := ⟨own_base h (Nat.zero_le _), rfl⟩
theorem St.changes (h : St w0 w (.mem a c :: rs)) {l : List Ch} (hl : c.changes = l) :
    Calls Try.prog 15 #[.pointer (some ⟨a, 0, none⟩)] w fun e w' => ∃ A cap, e = .returned (.slice A l.length cap) ∧ St w0 w' (.mem a c :: .row (.slice A l.length cap) 39 4 l.length (flatC l) :: rs) := by
  obtain ⟨F, h1⟩ := h.at
  subst hl
  refine (Changes_calls h1).mono ?_
  rintro e w' ⟨A, cap, rfl, h2, h3⟩
  exact ⟨A, cap, rfl, (h.new (R := .row _ _ _ _ _) h3 (row_on h2) fun b hb => (h2.lt b (by simpa using hb)).1).swap⟩
theorem St.plan (h : St w0 w (.mem a c :: rs)) :
    Calls Try.prog 22 #[.pointer (some ⟨a, 0, none⟩)] w fun e w' => ∃ A cap, e = .returned (.slice A c.now.length cap) ∧ St w0 w' (.mem a c :: .row (.slice A c.now.length cap) 3 1 c.now.length ((lens c.now).map natV) :: rs) ∧ c.now.length ≤ 16 := by
  obtain ⟨F, h1⟩ := h.at
  refine (Plan_calls h1).mono ?_
  rintro e w' ⟨A, cap, rfl, h2, h3, h4⟩
  exact ⟨A, cap, rfl, (h.new (R := .row _ _ _ _ _) h3 (row_on h2) fun b hb => (h2.lt b (by simpa using hb)).1).swap, h4⟩
theorem St.all (h : St w0 w (.mem a c :: rs)) {k : Nat} {xs : List Int} (hx : c.now[k]? = some xs) :
    Calls Try.prog 25 #[.pointer (some ⟨a, 0, none⟩), .int .i64 ((k : Int) + 1)] w fun e w' => ∃ g cap, e = .returned (.tuple #[.slice (some ⟨g, 0, none⟩) xs.length cap, .int .i64 0]) ∧
      St w0 w' (.mem a c :: .row (.slice (some ⟨g, 0, none⟩) xs.length cap) 2 1 xs.length (xs.map numV) :: rs) ∧ xs.length ≤ 1024 := by
  obtain ⟨F, h1⟩ := h.at
  refine (All_in h1 hx).mono ?_
  rintro e w' ⟨g, cap, rfl, h2, h3, h4⟩
  exact ⟨g, cap, rfl, (h.new (R := .row _ _ _ _ _) h3 (row_on h2) fun b hb => (h2.lt b (by simpa using hb)).1).swap, h4⟩
theorem St.allOut (h : St w0 w (.mem a c :: rs)) {o : Int} (ho : o < 1 ∨ (c.now.length : Int) < o) :
    Calls Try.prog 25 #[.pointer (some ⟨a, 0, none⟩), .int .i64 o] w fun e w' => e = .returned (.tuple #[.slice none 0 0, .int .i64 211]) ∧ w = w' := by
  obtain ⟨F, h1⟩ := h.at
  exact All_out h1 ho
end
end Go.Proofs.Ytlfaoibgmbbacaa
