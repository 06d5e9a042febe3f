/- What a law holds in the heap: things that lie apart (tables, slices), each kept while another one turns. -/
import Derived.Test.YtmndckeohfcgkaaClose
import Derived.Test.YtmndckeohfcgkaaNew
import Derived.Test.YtmndckeohfcgkaaPlace
import Derived.Test.YtmndckeohfcgkaaDerive
namespace Go.Proofs.Ytmndckeohfcgkaa
open Go.RowKit
/-- A thing in the heap: it holds of a world and of the blocks that it lies in. -/
structure Res where
  on : World → List Nat → Prop
  framed : ∀ {F G : List Nat} {w w' : World}, on w F → Kept G w w' → (∀ b ∈ F, b ∉ G) → on w' F
  lt : ∀ {F : List Nat} {w : World}, on w F → ∀ b ∈ F, b < w.heap.size

def Res.tab (a : Nat) (c : CT) : Res where
  on w F := IsTab w a c F
  framed h hk hd := h.kept hk hd
  lt h := h.lt
def Res.row (v : Value) (e : TypeId) (size n : Nat) (xs : List Value) : Res where
  on w F := w.ownsRow 0 e size v n xs ∧ F = v.ownBlock.toList
  framed h hk hd := ⟨hk.own h.1 fun k e => hd k (by rw [h.2]; simpa using e), h.2⟩
  lt h b hb := own_lt h.1 (by rw [h.2] at hb; simpa using hb)

def Res.blk (g : Nat) (t : TypeId) (cs : Array Value) : Res where
  on w F := Blk w g t cs ∧ F = [g]
  framed h hk hd := ⟨hk.blk h.1 (hd g (by rw [h.2]; simp)), h.2⟩
  lt h b hb := by rw [h.2] at hb; simp only [List.mem_singleton] at hb; subst hb; exact h.1.lt

def Sep (w : World) : List Res → List Nat → Prop
  | [], F => F = []
  | R :: rs, F => ∃ F1 F2, R.on w F1 ∧ Sep w rs F2 ∧ (∀ b ∈ F1, b ∉ F2) ∧ F = F1 ++ F2
def St (w0 w : World) (rs : List Res) : Prop := Kept [] w0 w ∧ ∃ F, Sep w rs F ∧ ∀ b ∈ F, w0.heap.size ≤ b

section
variable {w0 w w' : World} {rs : List Res} {R R' : Res} {F G : List Nat}
theorem Sep.kept : ∀ {rs : List Res} {F : List Nat}, Sep w rs F → Kept G w w' → (∀ b ∈ F, b ∉ G) → Sep w' rs F
  | [], _, h, _, _ => h
  | R :: rs, _, ⟨F1, F2, h1, h2, h3, rfl⟩, hk, hd =>
    ⟨F1, F2, R.framed h1 hk fun b hb => hd b (by simp [hb]), Sep.kept h2 hk fun b hb => hd b (by simp [hb]), h3, rfl⟩
theorem Sep.lt : ∀ {rs : List Res} {F : List Nat}, Sep w rs F → ∀ b ∈ F, b < w.heap.size
  | [], _, h, b, hb => by rw [h] at hb; simp at hb
  | R :: rs, _, ⟨F1, F2, h1, h2, h3, rfl⟩, b, hb => by
    rcases List.mem_append.1 hb with hb | hb
    · exact R.lt h1 b hb
    · exact Sep.lt h2 b hb
theorem St.nil (w : World) : St w w [] := ⟨Kept.refl _ _, [], rfl, by simp⟩
theorem St.from {w1 : World} (h : St w1 w rs) (hk : Kept [] w0 w1) : St w0 w rs := by
  obtain ⟨hk1, F, h1, hF⟩ := h
  exact ⟨hk.trans' hk1, F, h1, fun b hb => Nat.le_trans hk.size (hF b hb)⟩
/-- The thing at the head turns. -/
theorem St.head (h : St w0 w (R :: rs)) : ∃ F1, R.on w F1 ∧ ∀ {w' : World} {R' : Res} {F' : List Nat}, R'.on w' F' → Kept F1 w w' → (∀ b ∈ F', b ∈ F1 ∨ w.heap.size ≤ b) → St w0 w' (R' :: rs) := by
  obtain ⟨hk, F, ⟨F1, F2, h1, h2, h3, rfl⟩, hF⟩ := h
  refine ⟨F1, h1, fun {w' R' F'} h1' hk' hF' => ?_⟩
  refine ⟨hk.trans hk' fun b hb => .inr (hF b (by simp [hb])), F' ++ F2, ⟨F', F2, h1', Sep.kept h2 hk' fun b hb hb1 => h3 b hb1 hb, fun b hb hb2 => ?_, rfl⟩, fun b hb => ?_⟩
  · rcases hF' b hb with h | h
    · exact h3 b h hb2
    · have := Sep.lt h2 b hb2
      omega
  · rcases List.mem_append.1 hb with hb | hb
    · rcases hF' b hb with h | h
      · exact hF b (by simp [h])
      · have := hk.size; omega
    · exact hF b (by simp [hb])
/-- Nothing of these turns. -/
theorem St.kept (h : St w0 w rs) (hk : Kept [] w w') : St w0 w' rs := by
  obtain ⟨hk0, F, h1, hF⟩ := h
  exact ⟨hk0.trans' hk, F, Sep.kept h1 hk (by simp), hF⟩
/-- A new thing. -/
theorem St.new (h : St w0 w rs) (hk : Kept [] w w') (hn : R.on w' G) (hG : ∀ b ∈ G, w.heap.size ≤ b) : St w0 w' (R :: rs) := by
  obtain ⟨hk0, F, h1, hF⟩ := h
  refine ⟨hk0.trans' hk, G ++ F, ⟨G, F, hn, Sep.kept h1 hk (by simp), fun b hb hb2 => ?_, rfl⟩, fun b hb => ?_⟩
  · have := Sep.lt h1 b hb2
    have := hG b hb
    omega
  · rcases List.mem_append.1 hb with hb | hb
    · have := hG b hb
      have := hk0.size
      omega
    · exact hF b hb
theorem St.swap (h : St w0 w (R :: R' :: rs)) : St w0 w (R' :: R :: rs) := by
  obtain ⟨hk, F, ⟨F1, F2, h1, ⟨F3, F4, h3, h4, h5, rfl⟩, h6, rfl⟩, hF⟩ := h
  refine ⟨hk, F3 ++ (F1 ++ F4), ⟨F3, F1 ++ F4, h3, ⟨F1, F4, h1, h4, fun b hb hb2 => h6 b hb (by simp [hb2]), rfl⟩, fun b hb hb2 => ?_, rfl⟩, fun b hb => hF b ?_⟩
  · rcases List.mem_append.1 hb2 with hb2 | hb2
    · exact h6 b hb2 (by simp [hb])
    · exact h5 b hb hb2
  · simp only [List.mem_append] at hb ⊢
    rcases hb with hb | hb | hb
    · exact .inr (.inl hb)
    · exact .inl hb
    · exact .inr (.inr hb)
theorem St.drop (h : St w0 w (R :: rs)) : St w0 w rs := by
  obtain ⟨hk, F, ⟨F1, F2, h1, h2, h3, rfl⟩, hF⟩ := h
  exact ⟨hk, F2, h2, fun b hb => hF b (by simp [hb])⟩
theorem St.whole (h : St w0 w rs) : Kept [] w0 w := h.1
theorem St.at (h : St w0 w (R :: rs)) : ∃ F1, R.on w F1 := by
  obtain ⟨hk, F, ⟨F1, F2, h1, h2, h3, rfl⟩, hF⟩ := h
  exact ⟨F1, h1⟩
theorem St.row {v : Value} {e : TypeId} {size n : Nat} {xs : List Value} (h : St w0 w (Res.row v e size n xs :: rs)) : w.ownsRow 0 e size v n xs := by
  obtain ⟨F1, h1, _⟩ := h.at
  exact h1
end


theorem Sep.perm {w : World} {rs rs' : List Res} (p : rs.Perm rs') : ∀ F, Sep w rs F → ∃ F', Sep w rs' F' ∧ F'.Perm F := by
  induction p with
  | nil => intro F h; exact ⟨F, h, List.Perm.refl _⟩
  | cons R _ ih =>
    rintro F ⟨F1, F2, h1, h2, h3, rfl⟩
    obtain ⟨F', g1, g2⟩ := ih F2 h2
    exact ⟨F1 ++ F', ⟨F1, F', h1, g1, fun b hb hb2 => h3 b hb (g2.mem_iff.1 hb2), rfl⟩, g2.append_left F1⟩
  | swap R R' l =>
    rintro F ⟨F1, F2, h1, ⟨F3, F4, h3, h4, h5, rfl⟩, h6, rfl⟩
    refine ⟨F3 ++ (F1 ++ F4), ⟨F3, F1 ++ F4, h3, ⟨F1, F4, h1, h4, fun b hb hb2 => h6 b hb (by simp [hb2]), rfl⟩, fun b hb hb2 => ?_, rfl⟩, ?_⟩
    · rcases List.mem_append.1 hb2 with hb2 | hb2
      · exact h6 b hb2 (by simp [hb])
      · exact h5 b hb hb2
    · rw [← List.append_assoc, ← List.append_assoc]
      exact List.perm_append_comm.append_right F4
  | trans _ _ ih1 ih2 =>
    intro F h
    obtain ⟨F1, g1, g2⟩ := ih1 F h
    obtain ⟨F2, g3, g4⟩ := ih2 F1 g1
    exact ⟨F2, g3, g4.trans g2⟩
theorem St.perm {w0 w : World} {rs rs' : List Res} (h : St w0 w rs) (p : rs.Perm rs') : St w0 w rs' := by
  obtain ⟨hk, F, h1, h2⟩ := h
  obtain ⟨F', g1, g2⟩ := Sep.perm p F h1
  exact ⟨hk, F', g1, fun b hb => h2 b (g2.mem_iff.1 hb)⟩
section
variable {w0 w : World} {R1 R2 R3 R4 R5 R6 R7 R8 : Res} {rs : List Res}
theorem St.up3 (h : St w0 w (R1 :: R2 :: R3 :: rs)) : St w0 w (R3 :: R1 :: R2 :: rs) := h.perm (List.perm_middle (l₁ := [R1, R2]))
theorem St.up4 (h : St w0 w (R1 :: R2 :: R3 :: R4 :: rs)) : St w0 w (R4 :: R1 :: R2 :: R3 :: rs) := h.perm (List.perm_middle (l₁ := [R1, R2, R3]))
theorem St.up5 (h : St w0 w (R1 :: R2 :: R3 :: R4 :: R5 :: rs)) : St w0 w (R5 :: R1 :: R2 :: R3 :: R4 :: rs) := h.perm (List.perm_middle (l₁ := [R1, R2, R3, R4]))
theorem St.up6 (h : St w0 w (R1 :: R2 :: R3 :: R4 :: R5 :: R6 :: rs)) : St w0 w (R6 :: R1 :: R2 :: R3 :: R4 :: R5 :: rs) := h.perm (List.perm_middle (l₁ := [R1, R2, R3, R4, R5]))
theorem St.up7 (h : St w0 w (R1 :: R2 :: R3 :: R4 :: R5 :: R6 :: R7 :: rs)) : St w0 w (R7 :: R1 :: R2 :: R3 :: R4 :: R5 :: R6 :: rs) := h.perm (List.perm_middle (l₁ := [R1, R2, R3, R4, R5, R6]))
theorem St.up8 (h : St w0 w (R1 :: R2 :: R3 :: R4 :: R5 :: R6 :: R7 :: R8 :: rs)) : St w0 w (R8 :: R1 :: R2 :: R3 :: R4 :: R5 :: R6 :: R7 :: rs) := h.perm (List.perm_middle (l₁ := [R1, R2, R3, R4, R5, R6, R7]))
end
theorem row_on {w : World} {base : Nat} {e : TypeId} {size n : Nat} {v : Value} {xs : List Value} (h : w.ownsRow base e size v n xs) : (Res.row v e size n xs).on w v.ownBlock.toList := ⟨own_base h (Nat.zero_le _), rfl⟩
section
variable {w0 w : World} {rs : List Res} {R R' R'' : Res} {g : Nat} {t : TypeId} {cs : Array Value}
theorem St.blk0 (h : St w0 w (.blk g t cs :: rs)) : Blk w g t cs := by
  obtain ⟨F1, h1, _⟩ := h.at
  exact h1
theorem St.blk1 (h : St w0 w (R :: .blk g t cs :: rs)) : Blk w g t cs := h.drop.blk0
theorem St.blk2 (h : St w0 w (R :: R' :: .blk g t cs :: rs)) : Blk w g t cs := h.drop.drop.blk0
theorem St.blk3 (h : St w0 w (R :: R' :: R'' :: .blk g t cs :: rs)) : Blk w g t cs := h.drop.drop.drop.blk0
theorem St.alloc (h : St w0 w rs) (t : TypeId) (cs : Array Value) : St w0 (w.alloc (.cells cs t)) (.blk w.heap.size t cs :: rs) :=
  h.new (R := .blk w.heap.size t cs) (G := [w.heap.size]) (Kept.alloc _ _ _) ⟨Blk.new _ _ _, rfl⟩ (by simp)
theorem St.alloc1 (h : St w0 w (R :: rs)) (t : TypeId) (cs : Array Value) : St w0 (w.alloc (.cells cs t)) (R :: .blk w.heap.size t cs :: rs) := (h.alloc t cs).swap
end
section
variable {w0 w w' : World} {rs : List Res} {a : Nat} {c : CT}
theorem St.ok (h : St w0 w (.tab a c :: rs)) : c.ok := by
  obtain ⟨F, h1⟩ := h.at
  exact IsTab.ok h1
theorem St.root (h : St w0 w (.tab a c :: rs)) (port holder : Int) (t : Nat) :
    Calls Try.prog 28 #[.pointer (some ⟨a, 0, none⟩), .int .i64 port, .int .i64 holder, .int .u8 (t : Int)] w fun e w' => e = .returned (.tuple #[.int .i64 (c.rootRes port holder t).1, .int .i64 (c.rootRes port holder t).2]) ∧ St w0 w' (.tab a (c.root port holder t) :: rs) := by
  obtain ⟨F, h1, h2⟩ := h.head
  refine (Root_calls h1 port holder t).mono ?_
  rintro e w' ⟨rfl, F', h3, h4, h5⟩
  exact ⟨rfl, h2 (R' := .tab a _) h3 h4 h5⟩
theorem St.derive (h : St w0 w (.tab a c :: rs)) (s to : Int) (t : Nat) :
    Calls Try.prog 25 #[.pointer (some ⟨a, 0, none⟩), .int .i64 s, .int .i64 to, .int .u8 (t : Int)] w fun e w' => e = .returned (.tuple #[.int .i64 (c.deriveRes s to t).1, .int .i64 (c.deriveRes s to t).2]) ∧ St w0 w' (.tab a (c.derive s to t) :: rs) := by
  obtain ⟨F, h1, h2⟩ := h.head
  refine (Derive_calls h1 s to t).mono ?_
  rintro e w' ⟨rfl, F', h3, h4, h5⟩
  exact ⟨rfl, h2 (R' := .tab a _) h3 h4 h5⟩
/-- The thing at the head turns, and a new one comes. -/
theorem St.headNew {R : Res} (h : St w0 w (R :: rs)) : ∃ F1, R.on w F1 ∧ ∀ {w' : World} {R' R2 : Res} {G : List Nat}, R'.on w' F1 → R2.on w' G → Kept F1 w w' → (∀ b ∈ G, w.heap.size ≤ b) → St w0 w' (R' :: R2 :: rs) := by
  obtain ⟨hk, F, ⟨F1, F2, h1, h2, h3, rfl⟩, hF⟩ := h
  refine ⟨F1, h1, fun {w' R' R2 G} h1' h2' hk' hG => ?_⟩
  have l1 := R.lt h1
  have l2 := Sep.lt h2
  refine ⟨hk.trans hk' fun b hb => .inr (hF b (by simp [hb])), F1 ++ (G ++ F2), ⟨F1, _, h1', ⟨G, F2, h2', Sep.kept h2 hk' fun b hb hb1 => h3 b hb1 hb, fun b hb hb2 => ?_, rfl⟩, fun b hb hb2 => ?_, rfl⟩, fun b hb => ?_⟩
  · have := hG b hb
    have := l2 b hb2
    omega
  · rcases List.mem_append.1 hb2 with hb2 | hb2
    · have := hG b hb2
      have := l1 b hb
      omega
    · exact h3 b hb hb2
  · simp only [List.mem_append] at hb
    rcases hb with hb | hb | hb
    · exact hF b (by simp [hb])
    · have := hG b hb
      have := hk.size
      omega
    · exact hF b (by simp [hb])
theorem St.revoke (h : St w0 w (.tab a c :: rs)) (s : Int) :
    Calls Try.prog 17 #[.pointer (some ⟨a, 0, none⟩), .int .i64 s] w fun e w' => ∃ A cap, e = .returned (.tuple #[.slice A (c.belowRes s).1.length cap, .int .i64 (c.belowRes s).2]) ∧
      St w0 w' (.tab a (c.revoke s) :: .row (.slice A (c.belowRes s).1.length cap) 3 1 (c.belowRes s).1.length ((c.belowRes s).1.map intV) :: rs) := by
  obtain ⟨F, h1, h2⟩ := h.headNew
  refine (Revoke_calls h1 s).mono ?_
  rintro e w' ⟨A, cap, rfl, h3, h4, h5⟩
  exact ⟨A, cap, rfl, h2 (R' := .tab a _) h4 (row_on h3) h5 fun b hb => (h3.lt b (by simpa using hb)).1⟩
theorem St.close (h : St w0 w (.tab a c :: rs)) (p : Int) :
    Calls Try.prog 15 #[.pointer (some ⟨a, 0, none⟩), .int .i64 p] w fun e w' => ∃ A cap, e = .returned (.slice A (ofPort c.live p).length cap) ∧
      St w0 w' (.tab a (c.close p) :: .row (.slice A (ofPort c.live p).length cap) 3 1 (ofPort c.live p).length ((ofPort c.live p).map intV) :: rs) := by
  obtain ⟨F, h1, h2⟩ := h.headNew
  refine (Close_calls h1 p).mono ?_
  rintro e w' ⟨A, cap, rfl, h3, h4, h5⟩
  exact ⟨A, cap, rfl, h2 (R' := .tab a _) h4 (row_on h3) h5 fun b hb => (h3.lt b (by simpa using hb)).1⟩
theorem St.below (h : St w0 w (.tab a c :: rs)) (s : Int) :
    Calls Try.prog 27 #[.pointer (some ⟨a, 0, none⟩), .int .i64 s] w fun e w' => ∃ A cap, e = .returned (.tuple #[.slice A (c.belowRes s).1.length cap, .int .i64 (c.belowRes s).2]) ∧
      St w0 w' (.tab a c :: .row (.slice A (c.belowRes s).1.length cap) 3 1 (c.belowRes s).1.length ((c.belowRes s).1.map intV) :: rs) := by
  obtain ⟨F, h1⟩ := h.at
  refine (TBelow_calls h1 s).mono ?_
  rintro e w' ⟨A, cap, rfl, h3, h4⟩
  exact ⟨A, cap, rfl, (h.new (R := .row _ _ _ _ _) h4 (row_on h3) fun b hb => (h3.lt b (by simpa using hb)).1).swap⟩
theorem St.places (h : St w0 w (.tab a c :: rs)) (who : Int) :
    Calls Try.prog 30 #[.pointer (some ⟨a, 0, none⟩), .int .i64 who] w fun e w' => ∃ A cap, e = .returned (.slice A (c.at who).length cap) ∧
      St w0 w' (.tab a c :: .row (.slice A (c.at who).length cap) 3 1 (c.at who).length ((c.at who).map intV) :: rs) ∧ (c.at who).length ≤ 256 := by
  obtain ⟨F, h1⟩ := h.at
  refine (Places_calls h1 who).mono ?_
  rintro e w' ⟨A, cap, rfl, h3, h4, h5⟩
  exact ⟨A, cap, rfl, (h.new (R := .row _ _ _ _ _) h4 (row_on h3) fun b hb => (h3.lt b (by simpa using hb)).1).swap, h5⟩
theorem St.all (h : St w0 w (.tab a c :: rs)) :
    Calls Try.prog 14 #[.pointer (some ⟨a, 0, none⟩)] w fun e w' => ∃ A cap, e = .returned (.slice A c.live.length cap) ∧
      St w0 w' (.tab a c :: .row (.slice A c.live.length cap) 34 5 c.live.length (flatH c.live) :: rs) := by
  obtain ⟨F, h1⟩ := h.at
  refine (All_calls h1).mono ?_
  rintro e w' ⟨A, cap, rfl, h3, h4⟩
  exact ⟨A, cap, rfl, (h.new (R := .row _ _ _ _ _) h4 (row_on h3) fun b hb => (h3.lt b (by simpa using hb)).1).swap⟩
theorem St.get (h : St w0 w (.tab a c :: rs)) (s : Int) :
    Calls Try.prog 26 #[.pointer (some ⟨a, 0, none⟩), .int .i64 s] w fun e w' => e = .returned (.tuple #[(c.getRes s).1.val, .int .i64 (c.getRes s).2]) ∧ St w0 w' (.tab a c :: rs) := by
  obtain ⟨F, h1⟩ := h.at
  refine (Get_calls h1 s).mono ?_
  rintro e w' ⟨rfl, hk⟩
  exact ⟨rfl, h.kept hk⟩
theorem St.place (h : St w0 w (.tab a c :: rs)) (who i : Int) :
    Calls Try.prog 29 #[.pointer (some ⟨a, 0, none⟩), .int .i64 who, .int .i64 i] w fun e w' => e = .returned (.tuple #[(c.placeRes who i).1.val, .int .i64 (c.placeRes who i).2]) ∧ St w0 w' (.tab a c :: rs) := by
  obtain ⟨F, h1⟩ := h.at
  refine (Place_calls h1 who i).mono ?_
  rintro e w' ⟨rfl, hk⟩
  exact ⟨rfl, h.kept hk⟩
theorem St.next (h : St w0 w (.tab a c :: rs)) :
    Calls Try.prog 20 #[.pointer (some ⟨a, 0, none⟩)] w fun e w' => e = .returned (.int .i64 c.next) ∧ w = w' := by
  obtain ⟨F, h1⟩ := h.at
  exact Next_calls h1
theorem St.len (h : St w0 w (.tab a c :: rs)) :
    Calls Try.prog 24 #[.pointer (some ⟨a, 0, none⟩)] w fun e w' => e = .returned (.int .i64 c.live.length) ∧ w = w' := by
  obtain ⟨F, h1⟩ := h.at
  exact Len_calls h1
theorem St.copy (h : St w0 w (.tab a c :: rs)) :
    Calls Try.prog 13 #[.pointer (some ⟨a, 0, none⟩)] w fun e w' => ∃ b, e = .returned (.pointer (some ⟨b, 0, none⟩)) ∧ St w0 w' (.tab b c :: .tab a c :: rs) := by
  obtain ⟨F, h1⟩ := h.at
  refine (Copy_calls h1).mono ?_
  rintro e w' ⟨b, F', rfl, h2, h3, h4⟩
  exact ⟨b, rfl, h.new (R := .tab b c) h3 h2 h4⟩
theorem St.fresh {n : Int} (h : St w0 w rs) (h1 : 1 ≤ n) (h2 : n ≤ 281474976710656) :
    Calls Try.prog 31 #[.int .i64 n] w fun e w' => ∃ b, e = .returned (.tuple #[.pointer (some ⟨b, 0, none⟩), .int .i64 0]) ∧ St w0 w' (.tab b (newCT n) :: rs) := by
  refine (new_good h1 h2).mono ?_
  rintro e w' ⟨b, F', rfl, h2, h3, h4⟩
  exact ⟨b, rfl, h.new (R := .tab b _) h3 h2 h4⟩
end
end Go.Proofs.Ytmndckeohfcgkaa
