/- What CapsPlaces' walk needs. -/
import Derived.Test.YtmndckeohfcgkaaRevokeLaw
import Derived.Test.YtmndckeohfcgkaaAwake
import Derived.Deep.RegionLaw
import Derived.Laws.OwnMore
namespace Go.Proofs.Ytmndckeohfcgkaa
open Go.RowKit
theorem run_append_zero {P : Program} {w : World} (base : Nat) (t ty e : TypeId) (i : TypeInfo) (size : Nat) (ht : P.underlying t = some (.slice e)) (hi : P.info? e = some i)
    (v : Value) (n : Nat) (xs : List Value) (hown : w.ownsRow base e size v n xs) (B : Option Addr) (c : Nat) :
    (Builtin.append_ #[t, t] ty #[v, .slice B 0 c]).run P w = .ok v w := by
  have hl : ∀ ad, (loadCells ad 0).run P w = .ok #[] w := fun ad => by
    have := run_loadCells_list (P := P) w ad [] (by simp)
    simpa using this
  rcases hown.2 with ⟨rfl, rfl⟩ | ⟨g, cap, cur, rfl, _, _, hnc, _⟩
  · cases B <;> simp [Builtin.append_, run_underlying ht, sizeOf, typeInfo, hi, Builtin.lenOf, Builtin.firstCells, hl]
  · cases B <;> simp [Builtin.append_, run_underlying ht, sizeOf, typeInfo, hi, Builtin.lenOf, Builtin.firstCells, hnc, storeCells, hl]
theorem step_append_zero {P : Program} {w : World} {ops : Array Oper} {o : Oper} {a : Act} {K : Act → World → Prop} {Q : Exit → Act → World → Prop} {E : Prop} (hgd : o.guard = none) (s x : Operand) (t : TypeId)
    (ho : o.op = .call { callee := .builtin .append, args := #[s, x], argTypes := #[t, t] })
    (base : Nat) (e : TypeId) (i : TypeInfo) (size : Nat) (ht : P.underlying t = some (.slice e)) (hi : P.info? e = some i)
    (v : Value) (n : Nat) (xs : List Value) (hs : a.eval s = v) (hown : w.ownsRow base e size v n xs) (B : Option Addr) (c : Nat) (hx : a.eval x = .slice B 0 c)
    (h : K (a.put o.dst v) w) : if Region.wanted o (yielded ops a.tmps) = true then Oper.wp P o a w K Q else E := by
  have hw : Region.wanted o (yielded ops a.tmps) = true := by simp [Region.wanted, hgd]
  rw [if_pos hw]
  have hrun := run_append_zero (P := P) (w := w) base t o.type e i size ht hi v n xs hown B c
  unfold Oper.wp
  simp [execOp, ho, resolve, invoke, builtin, hs, hx, hrun, Result.andThen]
  exact h
theorem info58 : (Try.prog.info? 58).map (fun i => (i.zero, i.size, i.bytes)) = some (some (.agg #[.int .u8 0, .int .u8 0, .int .u8 0, .int .u8 0]), 4, 4) := by kernel_rfl
theorem eql_nil22 (w : World) (a : Option Addr) (n c n' c' : Nat) : (binOp .eql 22 (.slice a n c) (.slice none n' c')).run Try.prog w = .ok (.bool a.isNone) w :=
  Lib.run_eql_slice_nil w 22 58 a n c n' c' Try.underlying22
theorem sm_one (l : List Sm) : ∀ u ∈ flatS l, u.oneCell' = true := by
  intro u hu
  simp only [flatS, List.mem_flatMap, smV, List.mem_cons, List.not_mem_nil, or_false] at hu
  obtain ⟨x, _, rfl | rfl | rfl | rfl⟩ := hu <;> rfl
set_option maxRecDepth 100000 in
set_option maxHeartbeats 1000000 in
theorem clone32 {w : World} {A : Option Addr} {cp : Nat} {l : List Sm} (hA : Reads w A (flatS l)) (hn : l.length ≤ 1024) :
    Calls Try.prog 32 #[.slice A l.length cp] w fun e w' => ∃ g cap, e = .returned (.slice g l.length cap) ∧ w'.ownsRow w.heap.size 58 4 (.slice g l.length cap) l.length (flatS l) ∧ Kept [] w w' := by
  have hq := eql_nil22
  obtain ⟨i0, hi, hz0, hz1, hz2⟩ := info_parts info58
  cases A with
  | none =>
    have hl : l = [] := by
      rcases hA with h | ⟨b, off, h, _⟩
      · exact flatS_nil.1 h
      · cases h
    subst hl
    clear hA
    go_enter Try.func32, Try.ntmps32
    go_wp2
    go_ret
    exact ⟨none, 0, rfl, World.ownsRow_nil _ _ _ _, Kept.refl _ _⟩
  | some ad =>
    have hcells : ∀ j u, (flatS l)[j]? = some u → (w.alloc (.cells #[] 58)).cell? (ad.add j) = some u := by
      intro j u hj
      rcases hA with h | ⟨b, off, h, hc⟩
      · rw [h] at hj; simp at hj
      · simp only [Option.some.injEq] at h
        subst h
        have hadd : (⟨b, off, none⟩ : Addr).add j = ⟨b, off + j, none⟩ := by unfold Addr.add; split <;> simp_all
        rw [hadd]
        exact (Kept.alloc [] w _).cell (hc j u hj) (by simp)
    have hl : (flatS l).length = l.length * 4 := flatS_len l
    have HC := Lib.hid hcells
    have HL := Lib.hid hl
    have hmade := World.ownsRow_made (size := 4) (e := 58) w #[] 0 (Nat.le_refl w.heap.size) (by unfold maxLen; omega) (by simp)
    have HM := Lib.hid hmade
    clear hcells hl hA hmade
    go_enter Try.func32, Try.ntmps32
    go_wp2_with (at_builtin
                 refine wpList_append_own_at _ rfl _ _ 22 rfl w.heap.size 58 i0 (.agg #[.int .u8 0, .int .u8 0, .int .u8 0, .int .u8 0]) 4 4 Try.underlying22 hi hz0 hz1 hz2 rfl (by decide) (.slice (some ⟨w.heap.size, 0, none⟩) 0 0) 0 [] rfl HM.out ad l.length cp (flatS l) rfl HL.out HC.out (sm_one l) (by unfold maxLen; omega) (by omega) (by simp) ?_
                 intro v' w1 hown' hgrow hnil hloc
                 have X := Lib.hid hown'
                 have Y := Lib.hid hgrow
                 have Z := Lib.hid hnil
                 clear hown' hgrow hnil hloc)
    go_ret
    have hx := X.out
    simp only [Nat.zero_add, List.nil_append] at hx
    have hk : Kept [] w w1 := ((Kept.alloc [w.heap.size] w _).trans' (Kept.grown Y.out (by simp [Value.ownBlock]))).mono (by
      intro b hb hlt
      simp only [List.mem_singleton] at hb
      omega)
    obtain ⟨g, cap, rfl⟩ := own_slice hx
    exact ⟨g, cap, rfl, hx, hk⟩

/-! ### what grows -/
structure Grows (c d : CT) : Prop where
  next : c.next ≤ d.next
  pre : ∀ (k : Nat) (l : List Int), c.places[k]? = some l → ∃ l', d.places[k]? = some (l ++ l')
  get : ∀ s h, s < c.next → d.get s = some h → c.get s = some h
theorem Grows.refl (c : CT) : Grows c c := ⟨Int.le_refl _, fun k l hl => ⟨[], by simpa using hl⟩, fun _ _ _ h => h⟩
theorem Grows.trans {c d f : CT} (h : Grows c d) (k : Grows d f) : Grows c f := by
  refine ⟨Int.le_trans h.next k.next, fun i l hl => ?_, fun s x hs hx => h.get s x hs (k.get s x (by have := h.next; omega) hx)⟩
  obtain ⟨l1, h1⟩ := h.pre i l hl
  obtain ⟨l2, h2⟩ := k.pre i _ h1
  exact ⟨l1 ++ l2, by rw [h2, List.append_assoc]⟩
theorem grows_add (c : CT) (x : Hd) : Grows c (c.add x) := by
  refine ⟨by simp only [CT.add]; omega, fun k l hl => ?_, fun s h hs hh => ?_⟩
  · simp only [CT.add, modify_get, hl]
    by_cases e : x.holder.toNat = k
    · exact ⟨[c.next], by rw [if_pos e]; rfl⟩
    · exact ⟨[], by rw [if_neg e, List.append_nil]⟩
  · unfold CT.get CT.add at hh
    simp only [List.find?_append] at hh
    cases e : c.live.find? (fun h => h.serial == s) with
    | some y =>
      rw [e] at hh
      unfold CT.get
      rw [e]
      exact hh
    | none =>
      rw [e] at hh
      have hb : (c.next == s) = false := by simp; omega
      simp [List.find?_cons, hb] at hh
theorem grows_minus {c : CT} (ok : c.ok) (ss : List Int) : Grows c (c.minus ss) :=
  ⟨Int.le_refl _, fun k l hl => ⟨[], by rw [List.append_nil]; exact hl⟩, fun s h _ hh => by
    obtain ⟨h1, h2⟩ := get_some hh
    rw [← h2]
    exact ok.get_mem (mem_minus.1 h1).1⟩
theorem grows_root (c : CT) (p o : Int) (t : Nat) : Grows c (c.root p o t) := by
  unfold CT.root
  split
  · exact grows_add c _
  · exact Grows.refl c
theorem grows_derive (c : CT) (s to : Int) (t : Nat) : Grows c (c.derive s to t) := by
  unfold CT.derive
  split
  · exact grows_add c _
  · exact Grows.refl c
theorem grows_step {c : CT} (ok : c.ok) (x : Sm) : Grows c (madeStep c x) := by
  unfold madeStep
  split
  · exact grows_root c _ _ _
  · split
    · exact Grows.refl c
    · split
      · exact grows_minus ok _
      · exact grows_derive c _ _ _
theorem made_ok {c : CT} {n : Nat} (ok : c.ok) (f : c.few' n) (hn : n < 200) (x : Sm) (hx : x.ok) : (madeStep c x).ok := by
  obtain ⟨x1, x2, x3, x4⟩ := hx
  have hlv := f.live
  have hnx := f.next
  have hpl : ∀ k : Nat, (c.places[k]?.getD []).length < 256 := fun k => by
    cases hp : c.places[k]? with
    | none => simp
    | some l => have := f.places l (List.mem_of_getElem? hp); simp only [Option.getD_some]; omega
  unfold madeStep
  split
  · rw [(rootRes_small f hn ⟨by omega, by omega⟩ ⟨by omega, by omega⟩ (orG_le _)).2]
    exact CT.add_ok ok ⟨.inl rfl, ⟨by simp only; omega, by simp only; omega⟩, ⟨by simp only; omega, by simp only; omega⟩, orG_le _⟩ (by omega) (by omega) (hpl _)
  · split
    · exact ok
    · rename_i y hy
      have hm := List.mem_of_getElem? hy
      split
      · have hbr : c.belowRes y.serial = (below c.live y.serial, 0) := by unfold CT.belowRes; rw [ok.get_mem hm]
        unfold CT.revoke
        rw [hbr]
        exact ok.minus (below_closed ok (ok.get_mem hm))
      · have := deriveRes_small ok f hn hm (o := ((x.b % 5 : Nat) : Int)) (r := x.rights) ⟨by omega, by omega⟩ x4
        cases g : grants y.rights with
        | true =>
          rw [(this.1 g).2]
          obtain ⟨a1, a2⟩ := andR_le x4 (ok.rts y hm)
          have hyr := ok.rts y hm
          exact CT.add_ok ok ⟨.inr ⟨y, hm, rfl, rfl, g, by unfold belowB; simp [a1, a2, hyr]⟩, ⟨by simp only; omega, by simp only; omega⟩, ok.prt y hm, a1⟩ (by omega) (by omega) (hpl _)
        | false => rw [(this.2 g).2]; exact ok
theorem grows_all : ∀ (l : List Sm) (c : CT) (n : Nat), c.ok → c.few' n → n + l.length < 200 → (∀ x ∈ l, x.ok) → Grows c (madeAll c l)
  | [], c, _, _, _, _, _ => Grows.refl c
  | x :: l, c, n, ok, f, hn, hx => by
    simp only [List.length_cons] at hn
    have h1 := made_ok ok f (by omega) x (hx x (by simp))
    have h2 := made_few ok f (by omega) x (hx x (by simp))
    exact (grows_step ok x).trans (grows_all l (madeStep c x) (n + 1) h1 h2 (by omega) fun y hy => hx y (by simp [hy]))
theorem madeAll_append (c : CT) (l m : List Sm) : madeAll c (l ++ m) = madeAll (madeAll c l) m := by simp [madeAll, List.foldl_append]

/-! ### each handle at just one place -/
def liveAt (c : CT) (l : List Int) : List Int := l.filter fun s => (c.get s).isSome
def heldBy (c : CT) (k : Nat) : Nat := (c.live.filter fun h => decide (h.holder < (k : Int))).length
theorem held_succ (c : CT) (ok : c.ok) {k : Nat} {l : List Int} (hl : c.places[k]? = some l) : heldBy c (k + 1) = heldBy c k + (liveAt c l).length := by
  have h1 : (liveAt c l).length = (c.live.filter fun h => decide (h.holder = (k : Int))).length := by
    have hp : (liveAt c l).Perm ((c.live.filter fun h => decide (h.holder = (k : Int))).map (·.serial)) := by
      refine (List.perm_ext_iff_of_nodup ?_ ?_).2 fun s => ?_
      · have : l.Nodup := (ok.pasc l (List.mem_of_getElem? hl)).imp fun h => by omega
        exact this.sublist List.filter_sublist
      · exact ok.nodup.sublist (List.filter_sublist.map _)
      · simp only [liveAt, List.mem_filter, List.mem_map, decide_eq_true_eq]
        constructor
        · rintro ⟨h1, h2⟩
          obtain ⟨h, hh⟩ := Option.isSome_iff_exists.1 h2
          obtain ⟨h3, h4⟩ := get_some hh
          refine ⟨h, ⟨h3, ok.pwho h h3 k l hl ?_⟩, h4⟩
          rw [h4]; exact h1
        · rintro ⟨h, ⟨h1, h2⟩, rfl⟩
          obtain ⟨l', h3, h4⟩ := ok.pin h h1
          rw [h2, show ((k : Int)).toNat = k by omega, hl] at h3
          simp only [Option.some.injEq] at h3
          subst h3
          exact ⟨h4, by rw [ok.get_mem h1]; rfl⟩
    have := hp.length_eq
    rwa [List.length_map] at this
  rw [h1]
  unfold heldBy
  induction c.live with
  | nil => rfl
  | cons a l ih =>
    simp only [List.filter_cons]
    by_cases e1 : a.holder < (k : Int)
    · have e2 : a.holder < ((k + 1 : Nat) : Int) := by omega
      have e3 : ¬ a.holder = (k : Int) := by omega
      simp only [e1, e2, e3, decide_true, decide_false, if_true, Bool.false_eq_true, if_false, List.length_cons, ih]
      omega
    · by_cases e3 : a.holder = (k : Int)
      · have d1 : decide (a.holder < (k : Int)) = false := decide_eq_false e1
        have d2 : decide (a.holder < ((k + 1 : Nat) : Int)) = true := decide_eq_true (by omega)
        have d3 : decide (a.holder = (k : Int)) = true := decide_eq_true e3
        simp only [d1, d2, d3, if_true, Bool.false_eq_true, if_false, List.length_cons, ih]
        omega
      · have e2 : ¬ a.holder < ((k + 1 : Nat) : Int) := by omega
        simp only [e1, e2, e3, decide_true, decide_false, if_true, Bool.false_eq_true, if_false, List.length_cons, ih]
theorem held_all (c : CT) (ok : c.ok) : heldBy c 17 = c.live.length := by
  unfold heldBy
  rw [List.filter_eq_self.2]
  intro h hh
  have := ok.hol h hh
  simp only [decide_eq_true_eq]
  omega
theorem held_zero (c : CT) (ok : c.ok) : heldBy c 0 = 0 := by
  unfold heldBy
  rw [List.length_eq_zero_iff, List.filter_eq_nil_iff]
  intro h hh
  have := ok.hol h hh
  simp only [decide_eq_true_eq]
  omega
theorem held_le (c : CT) (k : Nat) : heldBy c k ≤ c.live.length := List.length_filter_le _ _
theorem equalPre {w : World} {A B : Option Addr} {c d : Nat} {xs ys : List Int} (hA : Reads w A (xs.map intV)) (hB : Reads w B ((xs ++ ys).map intV)) (hx : xs.length ≤ 1024) :
    Calls Try.prog 33 #[.slice A xs.length c, .slice B xs.length d] w fun e w' => e = .returned (.bool true) ∧ Kept [] w w' := by
  have hB' : Reads w B (xs.map intV) := by
    rcases hB with h | ⟨b, off, e, hc⟩
    · left
      simp only [List.map_append, List.append_eq_nil_iff] at h
      exact h.1
    · right
      refine ⟨b, off, e, fun j u hj => hc j u ?_⟩
      rw [List.map_append, List.getElem?_append_left (List.getElem?_eq_some_iff.1 hj).1]
      exact hj
  refine (equal33 hA hB' (by unfold maxLen; omega) (by unfold maxLen; omega)).mono ?_
  rintro e w' ⟨rfl, h⟩
  exact ⟨by simp, h⟩

theorem placeR_some {c : CT} {k i : Nat} {l : List Int} {s : Int} {h : Hd} (hk : k < 17) (hl : c.places[k]? = some l) (hi : l[i]? = some s) (hg : c.get s = some h) : c.placeRes (k : Int) (i : Int) = (h, 0) := by
  have hh : holds (k : Int) = true := by simp [holds]; omega
  simp [CT.placeRes, hh, hl, hi, hg]
theorem placeR_none {c : CT} {k i : Nat} {l : List Int} {s : Int} (hk : k < 17) (hl : c.places[k]? = some l) (hi : l[i]? = some s) (hg : c.get s = none) : c.placeRes (k : Int) (i : Int) = (noHd, 230) := by
  have hh : holds (k : Int) = true := by simp [holds]; omega
  simp [CT.placeRes, hh, hl, hi, hg]
theorem at_eq {c : CT} {k : Nat} {l : List Int} (hk : k < 17) (hl : c.places[k]? = some l) : c.at (k : Int) = l := by
  have hh : holds (k : Int) = true := by simp [holds]; omega
  simp [CT.at, hh, hl]
theorem get_res_some {c : CT} {s : Int} {h : Hd} (hg : c.get s = some h) : c.getRes s = (h, 0) := by unfold CT.getRes; rw [hg]
theorem get_res_none {c : CT} {s : Int} (hg : c.get s = none) : c.getRes s = (noHd, 6) := by unfold CT.getRes; rw [hg]
theorem live_succ {c : CT} {l : List Int} {i : Nat} {s : Int} (hi : l[i]? = some s) : (liveAt c (l.take (i + 1))).length = (liveAt c (l.take i)).length + if (c.get s).isSome then 1 else 0 := by
  unfold liveAt
  rw [List.take_add_one, hi, List.filter_append, Option.toList_some, List.filter_cons, List.filter_nil, List.length_append]
  cases (c.get s).isSome <;> rfl
theorem liveAt_le (c : CT) (l : List Int) : (liveAt c l).length ≤ l.length := List.length_filter_le _ _
theorem St.join {w0 w w' : World} {rs : List Res} {R : Res} (h : St w0 w rs) (k : St w w' [R]) : St w0 w' (R :: rs) := by
  obtain ⟨hk, F, ⟨F1, F2, h1, h2, h3, rfl⟩, hF⟩ := k
  exact h.new hk h1 fun b hb => hF b (by simp [hb])
theorem made_of_row {w0 w : World} {rs : List Res} {v : Value} {xs : List Sm} {n : Nat} (h : St w0 w (.row v 58 4 n (flatS xs) :: rs)) (hxn : xs.length = n) (hl : ∀ x ∈ xs, x.ok) (hn : n ≤ 60) :
    Calls Try.prog 12 #[v] w fun e w' => ∃ b, e = .returned (.tuple #[.pointer (some ⟨b, 0, none⟩), .bool true]) ∧ St w0 w' (.tab b (madeAll (newCT 100) xs) :: rs) ∧ (madeAll (newCT 100) xs).few' 60 := by
  subst hxn
  have ho := h.row
  obtain ⟨A, cp, rfl⟩ := own_slice ho
  have hcp : xs.length ≤ cp := by
    rcases ho.2 with ⟨e, h0⟩ | ⟨g, cap, cur, e, _, _, hnc, _⟩
    · rw [h0]; exact Nat.zero_le _
    · cases e; exact hnc
  have hm := Made_calls (St.nil w) (own_reads ho) hl (by unfold maxLen; omega) hcp
  rw [List.take_of_length_le (by omega)] at hm
  refine hm.mono ?_
  rintro e w' ⟨b, rfl, hs, hf⟩
  exact ⟨b, rfl, h.drop.join hs, hf⟩
theorem step_append_st {P : Program} {w0 w : World} {rs : List Res} {ops : Array Oper} {o : Oper} {a : Act} {K : Act → World → Prop} {Q : Exit → Act → World → Prop} {E : Prop} (hgd : o.guard = none) (s x : Operand) (t : TypeId)
    (ho : o.op = .call { callee := .builtin .append, args := #[s, x], argTypes := #[t, t] })
    (e : TypeId) (i : TypeInfo) (z : Value) (size bytes : Nat) (ht : P.underlying t = some (.slice e)) (hi : P.info? e = some i) (hz : i.zero = some z)
    (hsize : i.size = size) (hby : i.bytes = bytes) (hzs : z.cells.size = size) (hsz : 0 < size)
    (v : Value) (n : Nat) (xs : List Value) (hs : a.eval s = v) (S : St w0 w (.row v e size n xs :: rs))
    (B : Option Addr) (m c : Nat) (news : List Value) (hx : a.eval x = .slice B m c) (hl : news.length = m * size) (hr : Reads w B news) (h1 : ∀ u ∈ news, u.oneCell' = true)
    (h63 : n + m ≤ maxLen) (hbytes : (n + m) * bytes ≤ 140737488355328)
    (h : ∀ v' w', St w0 w' (.row v' e size (n + m) (xs ++ news) :: rs) → K (a.put o.dst v') w') :
    if Region.wanted o (yielded ops a.tmps) = true then Oper.wp P o a w K Q else E := by
  by_cases hnn : news = []
  · subst hnn
    have hm0 : m = 0 := by
      rcases Nat.eq_zero_or_pos m with h | h
      · exact h
      · have := Nat.mul_pos h hsz
        simp only [List.length_nil] at hl
        omega
    subst hm0
    refine step_append_zero hgd s x t ho 0 e i size ht hi v n xs hs S.row B c hx (h v w ?_)
    simpa using S
  · obtain ⟨b, off, rfl, hc⟩ := hr.resolve_left hnn
    refine step_append_at hgd s x t ho 0 e i z size bytes ht hi hz hsize hby hzs hsz v n xs hs S.row ⟨b, off, none⟩ m c news hx hl (fun j u hj => ?_) h1 h63 hbytes (Nat.zero_le _) fun v' w' h2 h3 h4 => h v' w' (S.append h3 h2 h4)
    have hadd : (⟨b, off, none⟩ : Addr).add j = ⟨b, off + j, none⟩ := by unfold Addr.add; split <;> simp_all
    rw [hadd]
    exact hc j u hj
def cntAt (d : CT) (k : Nat) (l : List Int) (i : Nat) : Nat := heldBy d k + (liveAt d (l.take i)).length
theorem cnt_some {d : CT} {k i : Nat} {l : List Int} {s : Int} {h : Hd} (hi : l[i]? = some s) (hg : d.get s = some h) : cntAt d k l (i + 1) = cntAt d k l i + 1 := by
  unfold cntAt
  rw [live_succ hi, hg]
  rfl
theorem cnt_none {d : CT} {k i : Nat} {l : List Int} {s : Int} (hi : l[i]? = some s) (hg : d.get s = none) : cntAt d k l (i + 1) = cntAt d k l i := by
  unfold cntAt
  rw [live_succ hi, hg]
  rfl
theorem cnt_zero (d : CT) (k : Nat) (l : List Int) : cntAt d k l 0 = heldBy d k := by simp [cntAt, liveAt]
theorem cnt_end {d : CT} (ok : d.ok) {k : Nat} {l : List Int} (hl : d.places[k]? = some l) : cntAt d k l l.length = heldBy d (k + 1) := by
  unfold cntAt
  rw [List.take_length, held_succ d ok hl]
theorem cnt_le {d : CT} (ok : d.ok) {k i : Nat} {l : List Int} (hl : d.places[k]? = some l) : cntAt d k l i ≤ 512 := by
  have h1 := held_le d k
  have h2 := liveAt_le d (l.take i)
  have h3 := ok.few
  have h4 := ok.pfew l (List.mem_of_getElem? hl)
  rw [List.length_take] at h2
  unfold cntAt
  omega
theorem St.get' {w0 w : World} {rs : List Res} {a : Nat} {c : CT} (h : St w0 w (.tab a c :: rs)) (s : Int) {x : Hd × Int} (hx : c.getRes s = x) :
    Calls Try.prog 26 #[.pointer (some ⟨a, 0, none⟩), .int .i64 s] w fun e w' => e = .returned (.tuple #[x.1.val, .int .i64 x.2]) ∧ St w0 w' (.tab a c :: rs) := by
  have := h.get s
  rwa [hx] at this
theorem St.places' {w0 w : World} {rs : List Res} {a : Nat} {c : CT} (h : St w0 w (.tab a c :: rs)) (k : Nat) {l : List Int} (hx : c.at (k : Int) = l) :
    Calls Try.prog 30 #[.pointer (some ⟨a, 0, none⟩), .int .i64 (k : Int)] w fun e w' => ∃ A cap, e = .returned (.slice A l.length cap) ∧ St w0 w' (.tab a c :: .row (.slice A l.length cap) 3 1 l.length (l.map intV) :: rs) ∧ l.length ≤ cap := by
  have := h.places (k : Int)
  rw [hx] at this
  refine this.mono ?_
  rintro e w' ⟨A, cap, rfl, hs, _⟩
  refine ⟨A, cap, rfl, hs, ?_⟩
  rcases hs.drop.row.2 with ⟨e, h0⟩ | ⟨g, cp, cur, e, _, _, hnc, _⟩
  · rw [h0]; exact Nat.zero_le _
  · cases e; exact hnc
end Go.Proofs.Ytmndckeohfcgkaa
