/- What the walk of acts of the laws on caps needs: the acts in the heap, the calls of the reference. -/
import Derived.Test.YtmndckeohfcgkaaTells
namespace Go.Proofs.Ytmndckeohfcgkaa
open Go.RowKit
structure AC where
  kind : Nat
  serial : Int
  port : Int
  holder : Int
  rights : Nat
def AC.ok (x : AC) : Prop := x.kind < 256 ∧ x.rights < 256
def acV (x : AC) : List Value := [.int .u8 (x.kind : Int), .int .i64 x.serial, .int .i64 x.port, .int .i64 x.holder, .int .u8 (x.rights : Int)]
def flatA (l : List AC) : List Value := l.flatMap acV
theorem flatA_len (l : List AC) : (flatA l).length = l.length * 5 := by
  induction l with
  | nil => rfl
  | cons x l ih => simp only [flatA, List.flatMap_cons, List.length_append, List.length_cons] at ih ⊢; rw [ih]; simp [acV]; omega
theorem flatA_nil {l : List AC} : flatA l = [] ↔ l = [] := by
  constructor
  · intro h
    have := flatA_len l
    rw [h] at this
    simp only [List.length_nil] at this
    exact List.eq_nil_of_length_eq_zero (by omega)
  · rintro rfl; rfl
theorem flatA_get {l : List AC} {k i : Nat} {x : AC} {u : Value} (h : l[k]? = some x) (hi : i < 5) (hu : (acV x)[i]? = some u) : (flatA l)[k * 5 + i]? = some u := by
  induction l generalizing k with
  | nil => simp at h
  | cons y l ih =>
    have e : flatA (y :: l) = acV y ++ flatA l := rfl
    rw [e]
    cases k with
    | zero =>
      simp only [List.getElem?_cons_zero, Option.some.injEq] at h
      subst h
      rw [Nat.zero_mul, Nat.zero_add, List.getElem?_append_left (by simpa [acV] using hi)]
      exact hu
    | succ k =>
      simp only [List.getElem?_cons_succ] at h
      rw [List.getElem?_append_right (by simp [acV]; omega), show (k + 1) * 5 + i - (acV y).length = k * 5 + i by simp [acV]; omega]
      exact ih h
theorem ac_cells {w wr : World} {b o : Nat} {l : List AC} {k : Nat} {x : AC} (hK : Kept [] w wr) (hc : ∀ j u, (flatA l)[j]? = some u → w.cell? ⟨b, o + j, none⟩ = some u) (hx : l[k]? = some x) :
    wr.cell? ⟨b, o + k * 5, none⟩ = some (.int .u8 (x.kind : Int)) ∧ wr.cell? ⟨b, o + k * 5 + 1, none⟩ = some (.int .i64 x.serial) ∧ wr.cell? ⟨b, o + k * 5 + 2, none⟩ = some (.int .i64 x.port) ∧ wr.cell? ⟨b, o + k * 5 + 3, none⟩ = some (.int .i64 x.holder) ∧ wr.cell? ⟨b, o + k * 5 + 4, none⟩ = some (.int .u8 (x.rights : Int)) :=
  ⟨hK.cell (hc (k * 5 + 0) _ (flatA_get hx (by omega) rfl)) (by simp), hK.cell (hc (k * 5 + 1) _ (flatA_get hx (by omega) rfl)) (by simp), hK.cell (hc (k * 5 + 2) _ (flatA_get hx (by omega) rfl)) (by simp),
   hK.cell (hc (k * 5 + 3) _ (flatA_get hx (by omega) rfl)) (by simp), hK.cell (hc (k * 5 + 4) _ (flatA_get hx (by omega) rfl)) (by simp)⟩
section
variable {w0 w w' : World} {a : Nat} {c : CT} {rs : List Res} {A : Option Addr} {cap : Nat} {nx : Int} {l : List RH} {L : List (Option Addr × List Value)}
theorem St.tells (h : St w0 w (.tab a c :: .rds L :: rs)) (hp : (A, flatR l) ∈ L) (r : Rel nx l c) (hn : l.length ≤ 200) :
    Calls Try.prog 54 #[.pointer (some ⟨a, 0, none⟩), .agg #[.int .i64 nx, .slice A l.length cap]] w fun e w' => e = .returned (.bool true) ∧ St w0 w' (.tab a c :: .rds L :: rs) := by
  obtain ⟨F, h1⟩ := h.at
  refine (Tells_calls h1 (h.drop.rdsReads hp) r hn).mono ?_
  rintro e w' ⟨rfl, hk⟩
  exact ⟨rfl, h.kept hk⟩
/-- A table of the reference, its new row and the old one. -/
def Now (w0 w' : World) (rs : List Res) (L : List (Option Addr × List Value)) (R : Option Addr) (l' : List RH) : Prop := St w0 w' (.rds ((R, flatR l') :: L) :: rs)
theorem St.rroot (h : St w0 w (.rds ((A, flatR l) :: L) :: rs)) (port holder : Int) (t : Nat) (ht : t ≤ 255) (hn : l.length ≤ 200) (hx0 : 1 ≤ nx) {E nx' n : Int} {l' : List RH} (hE : rootE nx port holder t = E) (h1 : nextA nx E = nx') (h2 : serA nx E = n) (h3 : listA nx l E ⟨0, 0, port, holder, t, false⟩ = l') :
    Calls Try.prog 50 #[.agg #[.int .i64 nx, .slice A l.length cap], .int .i64 port, .int .i64 holder, .int .i64 (t : Int)] w fun e w' => ∃ R q, e = .returned (.tuple #[.agg #[.int .i64 nx', .slice R l'.length q], .int .i64 n, .int .i64 E]) ∧ Now w0 w' rs ((A, flatR l) :: L) R l' := by
  refine (RRoot_calls (cap := cap) port holder t ht (h.rdsReads (by simp)) hn hx0).mono ?_
  intro e w' ho
  obtain ⟨R, q, he, hs⟩ := ho.rds h
  rw [hE, h1, h2, h3] at he
  rw [hE, h3] at hs
  exact ⟨R, q, he, hs⟩
theorem St.rderive (h : St w0 w (.rds ((A, flatR l) :: L) :: rs)) (s dst : Int) (t : Nat) (ht : t ≤ 255) (hn : l.length ≤ 200) (hx0 : 1 ≤ nx) (hr : 0 ≤ (getR l s).1.rights ∧ (getR l s).1.rights ≤ 15) {E nx' n : Int} {l' : List RH} (hE : deriveE nx l s dst t = E) (h1 : nextA nx E = nx') (h2 : serA nx E = n) (h3 : listA nx l E ⟨0, s, (getR l s).1.port, dst, t, false⟩ = l') :
    Calls Try.prog 51 #[.agg #[.int .i64 nx, .slice A l.length cap], .int .i64 s, .int .i64 dst, .int .i64 (t : Int)] w fun e w' => ∃ R q, e = .returned (.tuple #[.agg #[.int .i64 nx', .slice R l'.length q], .int .i64 n, .int .i64 E]) ∧ Now w0 w' rs ((A, flatR l) :: L) R l' := by
  refine (RDerive_calls (cap := cap) s dst t ht (h.rdsReads (by simp)) hn hx0 hr.1 hr.2).mono ?_
  intro e w' ho
  obtain ⟨R, q, he, hs⟩ := ho.rds h
  rw [hE, h1, h2, h3] at he
  rw [hE, h3] at hs
  exact ⟨R, q, he, hs⟩
theorem Sep.append {w : World} {rs2 : List Res} {F2 : List Nat} (h2 : Sep w rs2 F2) : ∀ {rs1 : List Res} {F1 : List Nat}, Sep w rs1 F1 → (∀ b ∈ F1, b ∉ F2) → Sep w (rs1 ++ rs2) (F1 ++ F2)
  | [], F1, h1, _ => by
    have e : F1 = [] := h1
    subst e
    exact h2
  | R :: rs1, _, ⟨G1, G2, g1, g2, g3, rfl⟩, hd => by
    refine ⟨G1, G2 ++ F2, g1, Sep.append h2 g2 fun b hb => hd b (by simp [hb]), fun b hb hb2 => ?_, by rw [List.append_assoc]⟩
    rcases List.mem_append.1 hb2 with h | h
    · exact g3 b hb h
    · exact hd b (by simp [hb]) h
theorem St.joins {rs2 : List Res} (h : St w0 w rs) (k : St w w' rs2) : St w0 w' (rs2 ++ rs) := by
  obtain ⟨hk0, G, g1, hG⟩ := h
  obtain ⟨hk, F, f1, hF⟩ := k
  refine ⟨hk0.trans' hk, F ++ G, Sep.append (g1.kept hk (by simp)) f1 fun b hb hb2 => ?_, fun b hb => ?_⟩
  · have := hF b hb
    have := Sep.lt g1 b hb2
    omega
  · rcases List.mem_append.1 hb with hb | hb
    · have := hF b hb
      have := hk0.size
      omega
    · exact hG b hb
theorem St.rrevoke (h : St w0 w (.rds ((A, flatR l) :: L) :: rs)) (s : Int) (hn : l.length ≤ 200) (t : Tree (liveH l)) {bl : List Int} {eb : Int} (hb : belowR l s = (bl, eb)) {l' : List RH} (hl : takeR l bl = l') :
    Calls Try.prog 52 #[.agg #[.int .i64 nx, .slice A l.length cap], .int .i64 s] w fun e w' => ∃ R q R' q', e = .returned (.tuple #[.agg #[.int .i64 nx, .slice R' l'.length q'], .slice R bl.length q, .int .i64 eb]) ∧ Now w0 w' (.row (.slice R bl.length q) 3 1 bl.length (bl.map intV) :: rs) ((A, flatR l) :: L) R' l' := by
  refine (RRevoke_calls (cap := cap) (nx := nx) s (h.rdsReads (by simp)) (by omega) t).mono ?_
  rintro e w' ⟨R, q, R', q', he, hs⟩
  rw [hb, ← takeR_len l bl, hl] at he
  rw [hb, hl, ← takeR_len l bl, hl] at hs
  exact ⟨R, q, R', q', he, ((h.joins hs).perm (List.Perm.cons _ (List.Perm.swap _ _ _))).rdsAdd⟩
theorem St.rclose (h : St w0 w (.rds ((A, flatR l) :: L) :: rs)) (p : Int) (hn : l.length ≤ 200) {bl : List Int} (hb : portL (liveR l) p = bl) {l' : List RH} (hl : takeR l bl = l') :
    Calls Try.prog 53 #[.agg #[.int .i64 nx, .slice A l.length cap], .int .i64 p] w fun e w' => ∃ R q R' q', e = .returned (.tuple #[.agg #[.int .i64 nx, .slice R' l'.length q'], .slice R bl.length q]) ∧ Now w0 w' (.row (.slice R bl.length q) 3 1 bl.length (bl.map intV) :: rs) ((A, flatR l) :: L) R' l' := by
  refine (RClose_calls (cap := cap) (nx := nx) p (h.rdsReads (by simp)) (by omega)).mono ?_
  rintro e w' ⟨R, q, R', q', he, hs⟩
  rw [hb, ← takeR_len l bl, hl] at he
  rw [hb, hl, ← takeR_len l bl, hl] at hs
  exact ⟨R, q, R', q', he, ((h.joins hs).perm (List.Perm.cons _ (List.Perm.swap _ _ _))).rdsAdd⟩
theorem St.rootD (h : St w0 w (.tab a c :: rs)) (r : Rel nx l c) (hn : l.length ≤ 200) (port holder : Int) (t : Nat) {E n : Int} (hE : rootE nx port holder t = E) (h2 : serA nx E = n) :
    Calls Try.prog 28 #[.pointer (some ⟨a, 0, none⟩), .int .i64 port, .int .i64 holder, .int .u8 (t : Int)] w fun e w' => e = .returned (.tuple #[.int .i64 n, .int .i64 E]) ∧ St w0 w' (.tab a (c.root port holder t) :: rs) := by
  have := h.root port holder t
  rwa [(r.root hn port holder t).1, hE, h2] at this
theorem St.deriveD (h : St w0 w (.tab a c :: rs)) (r : Rel nx l c) (hn : l.length ≤ 200) (s dst : Int) (t : Nat) {E n : Int} (hE : deriveE nx l s dst t = E) (h2 : serA nx E = n) :
    Calls Try.prog 25 #[.pointer (some ⟨a, 0, none⟩), .int .i64 s, .int .i64 dst, .int .u8 (t : Int)] w fun e w' => e = .returned (.tuple #[.int .i64 n, .int .i64 E]) ∧ St w0 w' (.tab a (c.derive s dst t) :: rs) := by
  have := h.derive s dst t
  rwa [(r.derive hn s dst t).1, hE, h2] at this
theorem St.revokeD (h : St w0 w (.tab a c :: rs)) (r : Rel nx l c) (s : Int) {bl : List Int} {eb : Int} (hb : belowR l s = (bl, eb)) :
    Calls Try.prog 17 #[.pointer (some ⟨a, 0, none⟩), .int .i64 s] w fun e w' => ∃ A cap, e = .returned (.tuple #[.slice A bl.length cap, .int .i64 eb]) ∧ St w0 w' (.tab a (c.revoke s) :: .row (.slice A bl.length cap) 3 1 bl.length (bl.map intV) :: rs) := by
  have := h.revoke s
  rwa [r.below, hb] at this
theorem St.closeD (h : St w0 w (.tab a c :: rs)) (r : Rel nx l c) (p : Int) {bl : List Int} (hb : portL (liveR l) p = bl) :
    Calls Try.prog 15 #[.pointer (some ⟨a, 0, none⟩), .int .i64 p] w fun e w' => ∃ A cap, e = .returned (.slice A bl.length cap) ∧ St w0 w' (.tab a (c.close p) :: .row (.slice A bl.length cap) 3 1 bl.length (bl.map intV) :: rs) := by
  have := h.close p
  rwa [r.port, hb] at this
theorem St.rdsUnit (h : St w0 w rs) : St w0 w (.rds [(none, [])] :: rs) :=
  h.new (R := .rds [(none, [])]) (G := []) (Kept.refl _ _) ⟨by simp, by simp⟩ (by simp)
theorem next_pos {E : Int} (h : 1 ≤ nx) : 1 ≤ nextA nx E := by unfold nextA; split <;> omega
theorem belowR_len (hn : l.length ≤ 200) (s : Int) : (belowR l s).1.length ≤ 1024 := by
  have h1 := (below_sub (liveH l) s).length_le
  have h2 := liveR_le l
  unfold liveH at h1
  rw [List.length_map, List.length_map] at h1
  unfold belowR
  split
  · simp only; unfold liveH; omega
  · simp
end
end Go.Proofs.Ytmndckeohfcgkaa
