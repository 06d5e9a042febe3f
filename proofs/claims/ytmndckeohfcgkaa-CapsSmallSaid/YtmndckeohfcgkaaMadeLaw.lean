/- Made of the laws on caps: what its acts make of a table. -/
import Derived.Test.YtmndckeohfcgkaaSt
namespace Go.Proofs.Ytmndckeohfcgkaa
open Go.RowKit

structure Sm where
  kind : Nat
  a : Nat
  b : Nat
  rights : Nat
def Sm.ok (x : Sm) : Prop := x.kind < 256 ∧ x.a < 256 ∧ x.b < 256 ∧ x.rights < 256
def smV (x : Sm) : List Value := [.int .u8 (x.kind : Int), .int .u8 (x.a : Int), .int .u8 (x.b : Int), .int .u8 (x.rights : Int)]
def flatS (l : List Sm) : List Value := l.flatMap smV
theorem flatS_len (l : List Sm) : (flatS l).length = l.length * 4 := by
  induction l with
  | nil => rfl
  | cons x l ih => simp only [flatS, List.flatMap_cons, List.length_append, List.length_cons] at ih ⊢; rw [ih]; simp [smV]; omega
theorem flatS_nil {l : List Sm} : flatS l = [] ↔ l = [] := by
  constructor
  · intro h
    have := flatS_len l
    rw [h] at this
    simp only [List.length_nil] at this
    exact List.eq_nil_of_length_eq_zero (by omega)
  · rintro rfl; rfl
theorem flatS_get {l : List Sm} {k i : Nat} {x : Sm} {u : Value} (h : l[k]? = some x) (hi : i < 4) (hu : (smV x)[i]? = some u) : (flatS l)[k * 4 + i]? = some u := by
  induction l generalizing k with
  | nil => simp at h
  | cons y l ih =>
    have e : flatS (y :: l) = smV y ++ flatS l := rfl
    rw [e]
    cases k with
    | zero =>
      simp only [List.getElem?_cons_zero, Option.some.injEq] at h
      subst h
      rw [Nat.zero_mul, Nat.zero_add, List.getElem?_append_left (by simpa [smV] using hi)]
      exact hu
    | succ k =>
      rw [List.getElem?_append_right (by simp [smV]; omega)]
      have : (k + 1) * 4 + i - (smV y).length = k * 4 + i := by simp [smV]; omega
      rw [this]
      exact ih (by simpa using h)

/-! ### the masks -/
def orG (r : Nat) : Nat := (bits .or .u8 ((r : Int) % 16) 4).toNat
def andR (r h : Nat) : Nat := (bits .and .u8 (r : Int) (h : Int)).toNat
theorem orG_eq (r : Nat) : bits .or .u8 ((r : Int) % 16) 4 = (orG r : Int) := by
  unfold orG
  have := bits_lo_u8 .or ((r : Int) % 16) 4
  omega
theorem andR_eq (r h : Nat) : bits .and .u8 (r : Int) (h : Int) = (andR r h : Int) := by
  unfold andR
  have := bits_lo_u8 .and (r : Int) (h : Int)
  omega
theorem orG_all : ∀ r : Fin 16, ((bits .or .u8 ((r.val : Nat) : Int) 4).toNat ≤ 15) := by decide +kernel
theorem orG_le (r : Nat) : orG r ≤ 15 := by
  have := orG_all ⟨r % 16, by omega⟩
  unfold orG
  rw [show ((r : Int) % 16) = ((r % 16 : Nat) : Int) by omega]
  exact this
theorem andR_all : ∀ (r : Fin 256) (h : Fin 16), (andR r.val h.val ≤ 15 ∧ sub (andR r.val h.val) h.val = true) := by decide +kernel
theorem andR_le {r h : Nat} (hr : r < 256) (hh : h ≤ 15) : andR r h ≤ 15 ∧ sub (andR r h) h = true := andR_all ⟨r, hr⟩ ⟨h, by omega⟩

/-! ### the acts -/
def madeStep (c : CT) (x : Sm) : CT :=
  if c.live.length = 0 ∨ x.kind % 8 = 0 then c.root ((x.a % 4 : Nat) : Int) ((x.b % 5 : Nat) : Int) (orG x.rights)
  else match c.live[x.a % c.live.length]? with
    | none => c
    | some h => if x.kind % 8 = 7 then c.revoke h.serial else c.derive h.serial ((x.b % 5 : Nat) : Int) (andR x.rights h.rights)
def madeAll (c : CT) (l : List Sm) : CT := l.foldl madeStep c
structure CT.few' (c : CT) (n : Nat) : Prop where
  live : c.live.length ≤ n
  next : c.next ≤ 100 + n
  places : ∀ l ∈ c.places, l.length ≤ n
  lo : 100 ≤ c.next
  ser : ∀ h ∈ c.live, 100 ≤ h.serial
section
variable {c : CT} {n : Nat}
theorem few_new : (newCT 100).few' 0 := ⟨by simp [newCT], by simp [newCT], fun l hl => by rw [List.eq_of_mem_replicate hl]; simp, by simp [newCT], by simp [newCT]⟩
theorem addRes_small (h : c.few' n) (hn : n < 200) (k : Int) : c.addRes k = (c.next, 0) := by
  unfold CT.addRes
  have h1 := h.live
  have h2 := h.next
  rw [if_neg (by omega), if_neg]
  rintro (h3 | h3)
  · omega
  · cases hp : c.places[k.toNat]? with
    | none => rw [hp] at h3; simp at h3
    | some l =>
      rw [hp] at h3
      have := h.places l (List.mem_of_getElem? hp)
      simp only [Option.getD_some] at h3
      omega
theorem few_mono {m : Nat} (h : c.few' n) (hm : n ≤ m) : c.few' m := ⟨by have := h.live; omega, by have := h.next; omega, fun l hl => by have := h.places l hl; omega, h.lo, h.ser⟩
theorem few_add (h : c.few' n) (x : Hd) : (c.add x).few' (n + 1) := by
  refine ⟨by simp only [CT.add, List.length_append, List.length_singleton]; have := h.live; omega, by simp only [CT.add]; have := h.next; omega, fun l hl => ?_, by simp only [CT.add]; have := h.lo; omega, fun y hy => ?_⟩
  · obtain ⟨k, hk⟩ := List.mem_iff_getElem?.1 hl
    simp only [CT.add] at hk
    rw [modify_get] at hk
    split at hk
    · obtain ⟨l0, h1, rfl⟩ := Option.map_eq_some_iff.1 hk
      have := h.places l0 (List.mem_of_getElem? h1)
      simp only [List.length_append, List.length_singleton]
      omega
    · have := h.places l (List.mem_of_getElem? hk)
      omega
  · simp only [CT.add, List.mem_append, List.mem_singleton] at hy
    rcases hy with hy | rfl
    · exact h.ser y hy
    · exact h.lo
theorem few_minus (h : c.few' n) (ss : List Int) : (c.minus ss).few' n :=
  ⟨Nat.le_trans (List.length_filter_le _ _) h.live, h.next, h.places, h.lo, fun y hy => h.ser y (mem_minus.1 hy).1⟩
theorem rootRes_small (h : c.few' n) (hn : n < 200) {p o : Int} {t : Nat} (hp : 0 ≤ p ∧ p ≤ 4294967295) (ho : 0 ≤ o ∧ o ≤ 16) (ht : t ≤ 15) : c.rootRes p o t = (c.next, 0) ∧ c.root p o t = c.add ⟨0, 0, p, o, t⟩ := by
  have e : c.rootRes p o t = (c.next, 0) := by
    unfold CT.rootRes
    rw [if_neg (by simp [holds]; omega), if_neg (by omega)]
    exact addRes_small h hn o
  exact ⟨e, by unfold CT.root; rw [e]; rfl⟩
theorem deriveRes_small (ok : c.ok) (h : c.few' n) (hn : n < 200) {x : Hd} (hx : x ∈ c.live) {o : Int} {r : Nat} (ho : 0 ≤ o ∧ o ≤ 16) (hr : r < 256) :
    (grants x.rights = true → c.deriveRes x.serial o (andR r x.rights) = (c.next, 0) ∧ c.derive x.serial o (andR r x.rights) = c.add ⟨0, x.serial, x.port, o, andR r x.rights⟩) ∧
    (grants x.rights = false → c.deriveRes x.serial o (andR r x.rights) = (0, 221) ∧ c.derive x.serial o (andR r x.rights) = c) := by
  have hg := ok.get_mem hx
  have hxr := ok.rts x hx
  obtain ⟨a1, a2⟩ := andR_le hr hxr
  have hh : holds o = true := by simp [holds, ho]
  constructor
  · intro g
    have hz : handN x.rights (andR r x.rights) = 0 := by unfold handN; rw [if_neg (by omega)]; simp [g, a2]
    have e : c.deriveRes x.serial o (andR r x.rights) = (c.next, 0) := by
      unfold CT.deriveRes
      rw [hg]
      simp only [hh, hz]
      exact addRes_small h hn o
    exact ⟨e, by unfold CT.derive; rw [e, hg]; rfl⟩
  · intro g
    have hz : handN x.rights (andR r x.rights) = 221 := by unfold handN; rw [if_neg (by omega)]; simp [g]
    have e : c.deriveRes x.serial o (andR r x.rights) = (0, 221) := by
      unfold CT.deriveRes
      rw [hg]
      simp [hh, hz]
    exact ⟨e, by unfold CT.derive; rw [e]; rfl⟩
theorem made_few (ok : c.ok) (h : c.few' n) (hn : n < 200) (x : Sm) (hx : x.ok) : (madeStep c x).few' (n + 1) := by
  obtain ⟨x1, x2, x3, x4⟩ := hx
  unfold madeStep
  split
  · rw [(rootRes_small h hn ⟨by omega, by omega⟩ ⟨by omega, by omega⟩ (orG_le _)).2]
    exact few_add h _
  · split
    · exact few_mono h (by omega)
    · rename_i y hy
      split
      · exact few_mono (few_minus h _) (by omega)
      · have hm := List.mem_of_getElem? hy
        have := deriveRes_small ok h hn hm (o := ((x.b % 5 : Nat) : Int)) (r := x.rights) ⟨by omega, by omega⟩ x4
        cases g : grants y.rights with
        | true => rw [(this.1 g).2]; exact few_add h _
        | false => rw [(this.2 g).2]; exact few_mono h (by omega)
theorem madeAll_snoc (c : CT) (l : List Sm) (k : Nat) (x : Sm) (hx : l[k]? = some x) : madeAll c (l.take (k + 1)) = madeStep (madeAll c (l.take k)) x := by
  rw [List.take_add_one, hx]
  simp [madeAll]
end
end Go.Proofs.Ytmndckeohfcgkaa
