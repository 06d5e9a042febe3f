/- What the walk of acts of the laws on cells needs: the acts in the heap, the calls of the reference, fermatakit's CopyInts and OverInts. -/
import Derived.Test.YtlfaoibgmbbacaaTells
namespace Go.Proofs.Ytlfaoibgmbbacaa
open Go.RowKit
section
variable {w0 w : World} {R1 R2 R3 R4 R5 R6 : Res} {rs : List Res}
theorem St.up6 (h : St w0 w (R1 :: R2 :: R3 :: R4 :: R5 :: R6 :: rs)) : St w0 w (R6 :: R1 :: R2 :: R3 :: R4 :: R5 :: rs) := h.perm (List.perm_middle (l₁ := [R1, R2, R3, R4, R5]))
end
def lowM (a b : Int) : Int := if b < a then b else a
def highM (a b : Int) : Int := if b > a then b else a
theorem min_lowM (ats : Array TypeId) (ty : TypeId) (a b : Int) : Builtin.min_ ats ty #[.int .i64 a, .int .i64 b] = pure (.int .i64 (lowM a b)) := rfl
theorem max_highM (ats : Array TypeId) (ty : TypeId) (a b : Int) : Builtin.max_ ats ty #[.int .i64 a, .int .i64 b] = pure (.int .i64 (highM a b)) := rfl
structure AC where
  kind : Nat
  owner : Int
  index : Int
  value : Int
def AC.ok (x : AC) : Prop := x.kind < 256
def acV (x : AC) : List Value := [.int .u8 (x.kind : Int), .int .i64 x.owner, .int .i64 x.index, .int .i64 x.value]
def flatA (l : List AC) : List Value := l.flatMap acV
theorem flatA_len (l : List AC) : (flatA l).length = l.length * 4 := by
  induction l with
  | nil => rfl
  | cons x l ih => simp only [flatA, List.flatMap_cons, List.length_append, List.length_cons] at ih ⊢; rw [ih]; simp [acV]; omega
theorem flatA_nil {l : List AC} : flatA l = [] ↔ l = [] := by
  constructor
  · intro h
    have := flatA_len l
    rw [h] at this
    simp only [List.length_nil] at this
    exact List.eq_nil_of_length_eq_zero (by omega)
  · rintro rfl; rfl
theorem flatA_get {l : List AC} {k i : Nat} {x : AC} {u : Value} (h : l[k]? = some x) (hi : i < 4) (hu : (acV x)[i]? = some u) : (flatA l)[k * 4 + i]? = some u := by
  induction l generalizing k with
  | nil => simp at h
  | cons y l ih =>
    have e : flatA (y :: l) = acV y ++ flatA l := rfl
    rw [e]
    cases k with
    | zero =>
      simp only [List.getElem?_cons_zero, Option.some.injEq] at h
      subst h
      rw [Nat.zero_mul, Nat.zero_add, List.getElem?_append_left (by simpa [acV] using hi)]
      exact hu
    | succ k =>
      simp only [List.getElem?_cons_succ] at h
      rw [List.getElem?_append_right (by simp [acV]; omega), show (k + 1) * 4 + i - (acV y).length = k * 4 + i by simp [acV]; omega]
      exact ih h
theorem ac_cells {w wr : World} {b o : Nat} {l : List AC} {k : Nat} {x : AC} (hK : Kept [] w wr) (hc : ∀ j u, (flatA l)[j]? = some u → w.cell? ⟨b, o + j, none⟩ = some u) (hx : l[k]? = some x) :
    wr.cell? ⟨b, o + k * 4, none⟩ = some (.int .u8 (x.kind : Int)) ∧ wr.cell? ⟨b, o + k * 4 + 1, none⟩ = some (.int .i64 x.owner) ∧ wr.cell? ⟨b, o + k * 4 + 2, none⟩ = some (.int .i64 x.index) ∧ wr.cell? ⟨b, o + k * 4 + 3, none⟩ = some (.int .i64 x.value) :=
  ⟨hK.cell (hc (k * 4 + 0) _ (flatA_get hx (by omega) rfl)) (by simp), hK.cell (hc (k * 4 + 1) _ (flatA_get hx (by omega) rfl)) (by simp), hK.cell (hc (k * 4 + 2) _ (flatA_get hx (by omega) rfl)) (by simp),
   hK.cell (hc (k * 4 + 3) _ (flatA_get hx (by omega) rfl)) (by simp)⟩
section
variable {w0 w w' : World} {a : Nat} {c : CM} {rs : List Res} {v : Value} {L : List (Value × CM)}
theorem St.mfacts (h : St w0 w (.mem a c :: rs)) : c.now.length ≤ 16 ∧ (∀ xs ∈ c.now, xs.length ≤ 1024) ∧ c.marks.length ≤ 64 ∧ ∀ s ∈ c.marks, lens s = lens c.now := by
  obtain ⟨F, h1⟩ := h.at
  exact IsMem.facts h1
theorem St.tells (h : St w0 w (.mem a c :: .refs L :: rs)) (hp : (v, c) ∈ L) :
    Calls Try.prog 43 #[.pointer (some ⟨a, 0, none⟩), v] w fun e w' => e = .returned (.bool true) ∧ St w0 w' (.mem a c :: .refs L :: rs) := by
  obtain ⟨F, h1⟩ := h.at
  obtain ⟨G, h2⟩ := h.drop.ref hp
  refine (Tells_calls h1 h2).mono ?_
  rintro e w' ⟨rfl, hk⟩
  exact ⟨rfl, h.kept hk⟩
theorem Turned.agg {F : List Nat} (h : Turned w w' F v c) : ∃ A1 n1 p1 A2 n2 p2, v = .agg #[.slice A1 n1 p1, .slice A2 n2 p2] := by
  obtain ⟨F', ⟨nv, mv, h1, ⟨A1, p1, _, rfl, _⟩, A2, p2, _, rfl, _⟩, _⟩ := h
  exact ⟨A1, _, p1, A2, _, p2, h1⟩
theorem St.rmark (h : St w0 w (.refs L :: rs)) (hp : (v, c) ∈ L) (hf : c.now.length ≤ 16 ∧ (∀ xs ∈ c.now, xs.length ≤ 1024) ∧ c.marks.length ≤ 64 ∧ ∀ s ∈ c.marks, lens s = lens c.now) {r : Int × Int} {c' : CM} (hr : c.markRes = r) (hc : c.mark = c') :
    Calls Try.prog 39 #[v] w fun e w' => ∃ A1 n1 p1 A2 n2 p2, e = .returned (.tuple #[.agg #[.slice A1 n1 p1, .slice A2 n2 p2], .int .i64 r.1, .int .i64 r.2]) ∧ St w0 w' (.refs ((.agg #[.slice A1 n1 p1, .slice A2 n2 p2], c') :: L) :: rs) := by
  obtain ⟨F, h1, h2⟩ := h.refsHead
  subst hr hc
  refine (refMark_calls (h1 _ hp) (by have := hf.1; simp only; omega) hf.2.1 hf.2.2.1).mono ?_
  rintro e w' ⟨v', rfl, ht⟩
  obtain ⟨A1, n1, p1, A2, n2, p2, rfl⟩ := ht.agg
  exact ⟨A1, n1, p1, A2, n2, p2, rfl, h2 ht⟩
theorem St.rpop (h : St w0 w (.refs L :: rs)) (back : Bool) (hp : (v, c) ∈ L) (hf : c.now.length ≤ 16 ∧ (∀ xs ∈ c.now, xs.length ≤ 1024) ∧ c.marks.length ≤ 64 ∧ ∀ s ∈ c.marks, lens s = lens c.now) {r : Int × Int} {c' : CM} (hr : c.popRes = r) (hc : c.pop back = c') :
    Calls Try.prog 40 #[v, .bool back] w fun e w' => ∃ A1 n1 p1 A2 n2 p2, e = .returned (.tuple #[.agg #[.slice A1 n1 p1, .slice A2 n2 p2], .int .i64 r.1, .int .i64 r.2]) ∧ St w0 w' (.refs ((.agg #[.slice A1 n1 p1, .slice A2 n2 p2], c') :: L) :: rs) := by
  obtain ⟨F, h1, h2⟩ := h.refsHead
  subst hr hc
  refine (refPop_calls back (h1 _ hp) hf.1 hf.2.1 hf.2.2.1 hf.2.2.2).mono ?_
  rintro e w' ⟨v', rfl, ht⟩
  obtain ⟨A1, n1, p1, A2, n2, p2, rfl⟩ := ht.agg
  exact ⟨A1, n1, p1, A2, n2, p2, rfl, h2 ht⟩
theorem St.rload (h : St w0 w (.refs L :: rs)) (o i : Int) (hp : (v, c) ∈ L) (hf : c.now.length ≤ 16 ∧ (∀ xs ∈ c.now, xs.length ≤ 1024) ∧ c.marks.length ≤ 64 ∧ ∀ s ∈ c.marks, lens s = lens c.now) {r : Int × Int} (hr : c.load o i = r) :
    Calls Try.prog 41 #[v, .int .i64 o, .int .i64 i] w fun e w' => e = .returned (.tuple #[.int .i64 r.1, .int .i64 r.2]) ∧ St w0 w' (.refs L :: rs) := by
  obtain ⟨F, h1, h2⟩ := h.refsHead
  subst hr
  refine (refLoad_calls (h1 _ hp) (by have := hf.1; simp only; omega) hf.2.1 o i).mono ?_
  rintro e w' ⟨rfl, hk⟩
  exact ⟨rfl, h.kept hk⟩
theorem St.rstore (h : St w0 w (.refs L :: rs)) (o i x : Int) (hp : (v, c) ∈ L) (hf : c.now.length ≤ 16 ∧ (∀ xs ∈ c.now, xs.length ≤ 1024) ∧ c.marks.length ≤ 64 ∧ ∀ s ∈ c.marks, lens s = lens c.now) {r : Int × Int} {c' : CM} (hr : c.load o i = r) (hc : c.store o i x = c') :
    Calls Try.prog 42 #[v, .int .i64 o, .int .i64 i, .int .i64 x] w fun e w' => ∃ A1 n1 p1 A2 n2 p2, e = .returned (.tuple #[.agg #[.slice A1 n1 p1, .slice A2 n2 p2], .int .i64 r.1, .int .i64 r.2]) ∧ St w0 w' (.refs ((.agg #[.slice A1 n1 p1, .slice A2 n2 p2], c') :: L) :: rs) := by
  obtain ⟨F, h1, h2⟩ := h.refsHead
  subst hr hc
  refine (refStore_calls (h1 _ hp) (by have := hf.1; simp only; omega) hf.2.1 o i x).mono ?_
  rintro e w' ⟨v', F', rfl, h3, h4, h5, h6⟩
  have ht : Turned w w' F v' (c.store o i x) := ⟨F', h3, h4, h5, h6⟩
  obtain ⟨A1, n1, p1, A2, n2, p2, rfl⟩ := ht.agg
  exact ⟨A1, n1, p1, A2, n2, p2, rfl, h2 ht⟩
theorem St.rnew {A : Option Addr} {cp : Nat} {l : List Int} (h : St w0 w rs) (hr : Reads w A (l.map numV)) (hn : l.length ≤ 16) (hl : ∀ n ∈ l, 0 ≤ n ∧ n ≤ 1024) :
    Calls Try.prog 38 #[.slice A l.length cp] w fun e w' => ∃ A1 n1 p1 A2 n2 p2, e = .returned (.agg #[.slice A1 n1 p1, .slice A2 n2 p2]) ∧ St w0 w' (.refs [(.agg #[.slice A1 n1 p1, .slice A2 n2 p2], ⟨l.map zeros, []⟩)] :: rs) := by
  refine (refNew_calls hr hn hl).mono ?_
  rintro e w' ⟨v, rfl, ht⟩
  obtain ⟨A1, n1, p1, A2, n2, p2, rfl⟩ := ht.agg
  obtain ⟨F', k1, k2, _, k4⟩ := ht
  refine ⟨A1, n1, p1, A2, n2, p2, rfl, h.new (R := .refs _) (G := F'.filter fun b => decide (b < w'.heap.size)) k2 ⟨fun b hb => by simpa using (List.mem_filter.1 hb).2, fun p hp => ?_⟩ fun b hb => ?_⟩
  · rw [List.mem_singleton] at hp
    subst hp
    exact k1.cut
  · rcases k4 b (List.mem_filter.1 hb).1 with h | h
    · simp at h
    · exact h
end
theorem info3y : (Try.prog.info? 3).map (fun i => (i.zero, i.size, i.bytes)) = some (some (.int .i64 0), 1, 8) := by kernel_rfl
theorem wpList_append_any {P : Program} {w : World} {ops : Array Oper} {rest : List Oper} {o : Oper} {a : Act} {Q : Exit → Act → World → Prop} (hgd : o.guard = none) (s x : Operand) (t : TypeId)
    (ho : o.op = .call { callee := .builtin .append, args := #[s, x], argTypes := #[t, t] })
    (base : Nat) (e : TypeId) (i : TypeInfo) (z : Value) (size bytes : Nat) (ht : P.underlying t = some (.slice e)) (hi : P.info? e = some i) (hz : i.zero = some z)
    (hsize : i.size = size) (hby : i.bytes = bytes) (hzs : z.cells.size = size) (hsz : 0 < size)
    (v : Value) (n : Nat) (xs : List Value) (hs : a.eval s = v) (hown : w.ownsRow base e size v n xs)
    (B : Option Addr) (m c : Nat) (news : List Value) (hx : a.eval x = .slice B m c) (hl : news.length = m * size) (hr : Reads w B news) (h1 : ∀ u ∈ news, u.oneCell' = true)
    (h63 : n + m ≤ maxLen) (hbytes : (n + m) * bytes ≤ 140737488355328) (hbase : base ≤ w.heap.size)
    (h : ∀ v' w', w'.ownsRow base e size v' (n + m) (xs ++ news) → Kept v.ownBlock.toList w w' → (v'.ownBlock = v.ownBlock ∨ v'.ownBlock = some w.heap.size) → wpList P ops Q rest (a.put o.dst v') w') :
    wpList P ops Q (o :: rest) a w := by
  by_cases hnn : news = []
  · subst hnn
    have hm0 : m = 0 := by
      rcases Nat.eq_zero_or_pos m with h | h
      · exact h
      · have := Nat.mul_pos h hsz
        simp only [List.length_nil] at hl
        omega
    subst hm0
    refine wpList_plain hgd fun K hK => ?_
    have hrun := run_append_zero (P := P) (w := w) base t o.type e i size ht hi v n xs hown B c
    unfold Oper.wp execOp
    simp only [ho, resolve, invoke, builtin, Sem.run_bind, Sem.run_pure, Result.andThen_ok, List.map_toArray, List.map_cons, List.map_nil, hs, hx, hrun]
    exact hK _ _ (h v w (by simpa using hown) (Kept.refl _ _) (.inl rfl))
  · obtain ⟨b, off, rfl, hc⟩ := hr.resolve_left hnn
    refine wpList_append_own_at w hgd s x t ho base e i z size bytes ht hi hz hsize hby hzs hsz v n xs hs hown ⟨b, off, none⟩ m c news hx hl (fun j u hj => ?_) h1 h63 hbytes hbase ?_
    case refine_2 =>
      intro v' w' h2 h3 _ h5
      exact h v' w' h2 (Kept.grown h3 (by simp)) h5
    have hadd : (⟨b, off, none⟩ : Addr).add j = ⟨b, off + j, none⟩ := by unfold Addr.add; split <;> simp_all
    rw [hadd]
    exact hc j u hj
set_option maxRecDepth 100000 in
theorem copyInts_calls {w : World} {A : Option Addr} {cp : Nat} {l : List Int} (hA : Reads w A (l.map numV)) (hn : l.length * 8 ≤ 140737488351232) :
    Calls Try.prog 36 #[.slice A l.length cp] w fun e w' => ∃ R q, e = .returned (.slice R l.length q) ∧ w'.ownsRow w.heap.size 3 1 (.slice R l.length q) l.length (l.map numV) ∧ Kept [] w w' := by
  obtain ⟨i0, hi, hz0, hz1, hz2⟩ := info_parts info3y
  have HA := Lib.hid hA
  clear hA
  go_enter Try.func36, Try.ntmps36
  go_wp2_with (at_builtin
               refine wpList_append_any rfl _ _ 44 rfl w.heap.size 3 i0 (.int .i64 0) 1 8 Try.underlying44 hi hz0 hz1 hz2 rfl (by decide) (.slice none 0 0) 0 [] rfl (World.ownsRow_nil _ _ _ _) A l.length cp (l.map numV) rfl (by simp) HA.out (by simp [numV, Value.oneCell']) (by unfold maxLen; omega) (by omega) (Nat.le_refl _) ?_
               intro v' w1 hown hgrow hloc
               simp only [Nat.zero_add, List.nil_append] at hown
               obtain ⟨R, q, rfl⟩ := own_slice hown
               have X := Lib.hid hown
               have Y := Lib.hid hgrow
               clear hown hgrow hloc)
  go_ret
  exact ⟨R, q, rfl, X.out, by simpa [Value.ownBlock] using Y.out⟩
theorem mark_calls (w : World) (a b : Int) : Calls Try.prog 46 #[.int .i64 a, .int .i64 b] w fun e w' => (∃ v, e = .returned (.int .i64 v)) ∧ w = w' := by
  go_enter Try.func46, Try.ntmps46
  go_wp2
  go_ret
  exact ⟨⟨_, rfl⟩, rfl⟩
theorem results_none {fn : Func} {tmps : Array Value} {w : World} (h : fn.results = #[]) : (results fn tmps).run Try.prog w = .ok (.tuple #[]) w := by
  simp [results, h]
section
attribute [local go_sem] min_lowM max_highM
set_option maxRecDepth 100000 in
set_option maxHeartbeats 1000000 in
theorem Over_calls {w : World} {A : Option Addr} {cap n : Nat} {xs : List Value} (ho : w.ownsRow 0 3 1 (.slice A n cap) n xs) (hn : n ≤ 1024) :
    Calls Try.prog 37 #[.slice A n cap] w fun e w' => e = .returned (.tuple #[]) ∧ Kept (Value.slice A n cap).ownBlock.toList w w' := by
  have hm : ∃ m : Nat, m ≤ cap ∧ m ≤ 1036 ∧ min (cap : Int) (n + 12) = (m : Int) := by
    by_cases h : cap ≤ n + 12
    · exact ⟨cap, Nat.le_refl _, by omega, by omega⟩
    · exact ⟨n + 12, by omega, by omega, by omega⟩
  obtain ⟨m, hm1, hm2, hmin⟩ := hm
  have hmc : (m : Int) ≤ cap := by omega
  have hlow : lowM (cap : Int) ((n : Int) + 12) = (m : Int) := by unfold lowM; split <;> omega
  clear hmin
  have hcm : cap ≤ 9223372036854775807 := by
    rcases ho.2 with ⟨e, _⟩ | ⟨g, cp, cur, e, _, _, _, h, _⟩
    · cases e; omega
    · cases e; unfold maxLen at h; omega
  have hst : Hid (∀ k, k < m → ∃ g, A = some ⟨g, 0, none⟩ ∧ ∃ cur : Array Value, cur.size = cap ∧ Blk w g 3 cur) := Lib.hid fun k hk => by
    rcases ho.2 with ⟨e, _⟩ | ⟨g, cp, cur, e, _, hg, _, _, hs, _⟩
    · cases e; omega
    · cases e; exact ⟨g, rfl, cur, by simpa using hs, hg⟩
  clear ho
  go_enter Try.func37, Try.ntmps37
  go_wp2
  go_loopw [3] (fun i wr => ∃ k : Nat, k ≤ m ∧ i = .int .i64 k ∧ Kept (Value.slice A n cap).ownBlock.toList w wr ∧ (k < m → ∃ g, A = some ⟨g, 0, none⟩ ∧ ∃ cur : Array Value, cur.size = cap ∧ Blk wr g 3 cur)) (fun i _ => m - (intOf i).toNat)
  case atStart => exact ⟨0, Nat.zero_le _, rfl, Kept.refl _ _, fun h => hst.out 0 h⟩
  case round =>
    obtain ⟨k, hk, rfl, hK, hB⟩ := hrel
    by_cases hlt : k < m
    · obtain ⟨g, rfl, cur, hc, hb⟩ := hB hlt
      have c0 : ∃ v, wr.cell? ⟨g, k, none⟩ = some v := ⟨cur[k]'(by omega), by rw [hb.cell k]; exact Array.getElem?_eq_getElem (by omega)⟩
      obtain ⟨v0, c0⟩ := c0
      have z := hb.frozen k
      have X := Lib.hid hK
      have B := Lib.hid hb
      clear hK hB hb
      go_wp2_with (first
        | (go_at_call 46
           refine (mark_calls _ _ _).mono ?_
           rintro e w' ⟨⟨v, rfl⟩, rfl⟩))
      go_roundw
      case rel =>
        refine ⟨k + 1, by omega, by go_num, X.out.trans' (Kept.setCell (by simp [Value.ownBlock]) _ _), fun _ => ⟨g, rfl, _, ?_, B.out.set_ k _⟩⟩
        simpa using hc
      case measure => simp [intOf]; omega
    · obtain rfl : k = m := by omega
      have X := Lib.hid hK
      clear hK hB
      go_wp2
      refine ⟨rfl, _, results_none rfl, ?_⟩
      exact ⟨rfl, X.out⟩
end
theorem St.over {w0 w : World} {rs : List Res} {A : Option Addr} {cap n : Nat} {xs : List Value} (h : St w0 w (.row (.slice A n cap) 3 1 n xs :: rs)) (hn : n ≤ 1024) :
    Calls Try.prog 37 #[.slice A n cap] w fun e w' => e = .returned (.tuple #[]) ∧ St w0 w' rs := by
  obtain ⟨F1, h1, h2⟩ := h.head
  obtain ⟨ho, rfl⟩ := h1
  refine (Over_calls ho hn).mono ?_
  rintro e w' ⟨rfl, hk⟩
  exact ⟨rfl, (h2 (R' := .refs []) (F' := []) ⟨by simp, by simp⟩ hk (by simp)).drop⟩
end Go.Proofs.Ytlfaoibgmbbacaa
