/- The walk of the closure of Below: it calls itself for each child. -/
import Derived.Test.YtmndckeohfcgkaaUnder
import Derived.Test.YtmndckeohfcgkaaAdd
namespace Go.Proofs.Ytmndckeohfcgkaa
open Go.RowKit
open Go.ChangeMaps (setBlock)
/-- What the closure finds: its three captured variables, the table's map, what it has gathered. -/
structure Gath (w : World) (O B K a r base : Nat) (m : List (Int × Hd)) (v : Value) (pre : List Int) : Prop where
  o : Blk w O 30 #[v]
  b : Blk w B 24 #[.pointer (some ⟨a, 0, none⟩)]
  k : Blk w K 84 #[.func (.func 48) #[] #[.pointer (some ⟨O, 0, none⟩), .pointer (some ⟨B, 0, none⟩), .pointer (some ⟨K, 0, none⟩)]]
  h : w.cell? ⟨a, 2, none⟩ = some (.map (some r))
  m : MapIs intV Hd.val w r m
  own : w.ownsRow base 3 1 v pre.length (pre.map intV)
  lt : O < base ∧ B < base ∧ K < base ∧ a < base ∧ r < base ∧ base ≤ w.heap.size
  ao : a ≠ O
def gfoot (O : Nat) (v : Value) : List Nat := O :: v.ownBlock.toList
theorem results_none {fn : Func} {tmps : Array Value} {w : World} (h : fn.results = #[]) : (results fn tmps).run Try.prog w = .ok (.tuple #[]) w := by
  simp [results, h]
section
variable {w w' : World} {O B K a r base : Nat} {m : List (Int × Hd)} {v v' : Value} {pre : List Int} {F : List Nat}
theorem Gath.kept (h : Gath w O B K a r base m v pre) (hk : Kept F w w') (hF : ∀ b ∈ F, w.heap.size ≤ b) : Gath w' O B K a r base m v pre := by
  have hn : ∀ b, b < w.heap.size → b ∉ F := fun b hb hm => by have := hF b hm; omega
  have hl := h.lt
  exact ⟨hk.blk h.o (hn _ h.o.lt), hk.blk h.b (hn _ h.b.lt), hk.blk h.k (hn _ h.k.lt), hk.cell h.h (hn _ (by simp only; omega)), hk.map h.m (hn _ h.m.lt), hk.own h.own fun k hk' => hn _ (own_lt h.own hk'),
    ⟨hl.1, hl.2.1, hl.2.2.1, hl.2.2.2.1, hl.2.2.2.2.1, Nat.le_trans hl.2.2.2.2.2 hk.size⟩, h.ao⟩
/-- One more has been gathered. -/
theorem Gath.put {w1 w2 : World} {x : Int} (h : Gath w O B K a r base m v pre) (k1 : Kept [] w w1) (hg : w1.grownBy w2 v.ownBlock) (hown : w2.ownsRow base 3 1 v' (pre.length + 1) (pre.map intV ++ [intV x])) :
    Gath (w2.setCell ⟨O, 0, none⟩ v') O B K a r base m v' (pre ++ [x]) ∧ Kept (gfoot O v) w (w2.setCell ⟨O, 0, none⟩ v') := by
  have g1 := h.kept k1 (by simp)
  have hv : ∀ b, v.ownBlock = some b → b ≠ O ∧ b ≠ B ∧ b ≠ K ∧ b ≠ a ∧ b ≠ r := fun b hb => by
    have := h.own.lt b hb
    have := h.lt
    omega
  have k2 : Kept v.ownBlock.toList w1 w2 := Kept.grown hg (by simp)
  have k3 : Kept [O] w2 (w2.setCell ⟨O, 0, none⟩ v') := Kept.setCell (by simp) _ _
  have hn : ∀ b, (b = O ∨ b = B ∨ b = K ∨ b = a ∨ b = r) → b ∉ v.ownBlock.toList := fun b hb hm => by
    have := hv b (by simpa using hm)
    omega
  have hOB : O ≠ B := h.o.ne_ h.b (by decide)
  have hOK : O ≠ K := h.o.ne_ h.k (by decide)
  have hOr : r ≠ O := h.m.not_blk h.o
  have hl := g1.lt
  refine ⟨⟨(k2.blk g1.o (hn _ (by simp))).set_ 0 v', k3.blk (k2.blk g1.b (hn _ (by simp))) (by simpa using hOB.symm), k3.blk (k2.blk g1.k (hn _ (by simp))) (by simpa using hOK.symm), k3.cell (k2.cell g1.h (hn _ (by simp))) (by simpa using h.ao),
    k3.map (k2.map g1.m (hn _ (by simp))) (by simpa using hOr), ?_, ?_, h.ao⟩, ?_⟩
  · rw [List.length_append, List.map_append]
    refine k3.own hown fun b hb => ?_
    have := hown.lt b hb
    simp only [List.mem_singleton]
    omega
  · have := k2.size
    have := k3.size
    omega
  · exact (k1.nil_mono.trans' (k2.mono fun b hb _ => List.mem_cons_of_mem _ hb)).trans' (k3.mono (by simp [gfoot]))
set_option maxRecDepth 100000 in
set_option maxHeartbeats 1000000 in
theorem walk_calls {l : List Hd} (t : Tree l) (hm : m.Perm (l.map fun h => (h.serial, h))) (top : Int) (htop : ∀ h ∈ l, h.serial < top) (hlow : ∀ h ∈ l, 0 ≤ h.serial) (n : Nat) : ∀ (x : Int) (w : World) (v : Value) (pre : List Int), (top - x).toNat ≤ n → (∃ h ∈ l, h.serial = x) → pre.length + (below l x).length ≤ 1024 →
    Gath w O B K a r base m v pre →
    Calls Try.prog 48 #[.int .i64 x, .pointer (some ⟨O, 0, none⟩), .pointer (some ⟨B, 0, none⟩), .pointer (some ⟨K, 0, none⟩)] w fun e w' => e = .returned (.tuple #[]) ∧ ∃ v' L, L.Perm (below l x) ∧ Gath w' O B K a r base m v' (pre ++ L) ∧
      Kept (gfoot O v) w w' ∧ (v'.ownBlock = v.ownBlock ∨ ∀ b, v'.ownBlock = some b → w.heap.size ≤ b) := by
  induction n with
  | zero =>
    intro x w v pre hn hx
    obtain ⟨h, hh, rfl⟩ := hx
    have := htop h hh
    omega
  | succ n ih =>
    intro x w v pre hn hx hlen hG
    obtain ⟨i0, hi, hz0, hz1, hz2⟩ := info_parts info3
    have c1 := hG.o.cell 0
    obtain ⟨A, cp, rfl⟩ := own_slice hG.own
    have G := Lib.hid hG
    have HX := Lib.hid hx
    have hb1 : 1 ≤ (below l x).length := by
      have := (below_kids t (List.Perm.refl l) hx).length_eq
      simp only [List.length_cons] at this
      omega
    have HC := Lib.hid (cell_one_new w (.int .i64 x) 3)
    have hfz := hG.o.frozen 0
    have hol := hG.o.lt
    clear hG hx
    go_enter Try.func48, Try.ntmps48
    go_wp2_with (at_builtin
                 refine wpList_append_own_at _ rfl _ _ 30 rfl base 3 i0 (.int .i64 0) 1 8 Try.underlying30 hi hz0 hz1 hz2 rfl (by decide) (.slice A pre.length cp) pre.length (pre.map intV) rfl (G.out.own.alloc _) ⟨w.heap.size, 0, none⟩ 1 1 [.int .i64 x] rfl rfl HC.out (by simp [Value.oneCell']) (by unfold maxLen; omega) (by omega) (by have := G.out.lt; simp; omega) ?_
                 intro v' w1 hown' hgrow hnil hloc
                 obtain ⟨g', cap', rfl, _⟩ := own_cell hown' (k := pre.length) (u := .int .i64 x) (by simp)
                 generalize hv' : Value.slice (some ⟨g', 0, none⟩) (pre.length + 1) cap' = v' at *
                 have hgb := grown_blk hgrow ((Kept.alloc [] w _).blk G.out.o (by simp)) (fun e => by have := G.out.own.lt O e; have := G.out.lt; omega)
                 have g0 := hgb.cell 0
                 have g1 := hgb.frozen 0
                 obtain ⟨hp1, hp2⟩ := G.out.put (x := x) (Kept.alloc [] w _) hgrow hown'
                 have hsz : (w1.setCell ⟨O, 0, none⟩ v').heap.size = w1.heap.size := by simp [World.setCell]
                 have cB := hp1.b.cell 0
                 have cH := hp1.h
                 obtain ⟨o, hrg, hit⟩ := run_range_is (P := Try.prog) Try.underlying66 hp1.m
                 rw [hsz] at hrg hit
                 have HP1 := Lib.hid hp1
                 have HP2 := Lib.hid hp2
                 have HIT := Lib.hid hit
                 have HLOC := Lib.hid hloc
                 have SZ1 : Hid (w.heap.size + 1 ≤ w1.heap.size) := Lib.hid (by have := hgrow.size; simpa using this)
                 have HSZ := Lib.hid hsz
                 clear hgb hp1 hp2 hit hloc hnil hgrow hown' hsz
                 subst hv')
    have hG0 := HP1.out.kept (Kept.alloc [] _ o) (by simp)
    have hK0 := HP2.out.trans' (Kept.alloc _ _ o)
    have hloc0 := HLOC.out
    rw [World.size_alloc] at hloc0
    have hsl : w1.heap.size < ((w1.setCell ⟨O, 0, none⟩ (.slice (some ⟨g', 0, none⟩) (pre.length + 1) cap')).alloc o).heap.size := by rw [World.size_alloc, HSZ.out]; omega
    have hit := HIT.out
    have hlen1 : (pre ++ [x]).length = pre.length + 1 := by simp
    generalize hW0 : (w1.setCell ⟨O, 0, none⟩ (.slice (some ⟨g', 0, none⟩) (pre.length + 1) cap')).alloc o = W0 at *
    generalize hv1 : Value.slice (some ⟨g', 0, none⟩) (pre.length + 1) cap' = v1 at *
    generalize hv0 : Value.slice A pre.length cp = v0 at *
    have X1 := Lib.hid hG0
    have X2 := Lib.hid hK0
    have X3 : Hid (v1.ownBlock = v0.ownBlock ∨ ∀ b, v1.ownBlock = some b → w.heap.size ≤ b) := Lib.hid (hloc0.imp id fun e b hb => by rw [e] at hb; simp only [Option.some.injEq] at hb; omega)
    have X4 := Lib.hid hit
    have V0 := Lib.hid hv0
    have X5 : Hid (w.heap.size ≤ w1.heap.size ∧ w.heap.size + 1 ≤ w1.heap.size) := Lib.hid (by have := SZ1.out; omega)
    have GX := Lib.hid G.out.lt
    clear hG0 hK0 hloc0 hit HP1 HP2 HIT HLOC HSZ hrg hW0 hv1 hv0 cB cH c1 hfz hol HC g0 g1 G
    go_loopw [6] (fun _ wr => ∃ (v : Value) (done : List Hd) (left : List (Int × Hd)) (L : List Int), IterIs intV Hd.val wr w1.heap.size r m left ∧ (done ++ left.map (·.2)).Perm (m.map (·.2)) ∧ (∀ p ∈ left, p.1 = p.2.serial) ∧ L.Perm ((kids done x).flatMap fun h => below l h.serial) ∧
        Gath wr O B K a r base m v (pre ++ [x] ++ L) ∧ Kept (gfoot O v0) w wr ∧ (v.ownBlock = v0.ownBlock ∨ ∀ b, v.ownBlock = some b → w.heap.size ≤ b)) (fun _ wr => iterLeft wr w1.heap.size)
    case atStart =>
      refine ⟨v1, [], m, [], X4.out, by simp, ?_, by simp [kids], by simpa using X1.out, X2.out, X3.out⟩
      intro p hp
      obtain ⟨h, hh, rfl⟩ := List.mem_map.1 (hm.mem_iff.1 hp)
      rfl
    case round =>
      obtain ⟨v, done, left, L, hI, hD, hP, hL, hGa, hKe, hvo⟩ := hrel
      have hIL := hI.left
      rcases run_next_is (P := Try.prog) hI 0 with ⟨hl0, hnx⟩ | ⟨k, h, l1, l2, o2, w2, hl0, hw2, hnx, hI2, hent⟩
      · subst hl0
        simp only [List.map_nil, List.append_nil] at hD
        have hDl : done.Perm l := hD.trans ((hm.map (·.2)).trans (List.Perm.of_eq (by rw [List.map_map]; simp [Function.comp_def])))
        have hfin := ((List.Perm.cons x hL).trans (below_kids t hDl HX.out))
        have Y1 := Lib.hid hfin
        have Y2 := Lib.hid hGa
        have Y3 := Lib.hid hKe
        have Y4 := Lib.hid hvo
        clear hI hD hP hL hGa hKe hvo hDl hfin hIL
        go_wp2
        refine ⟨rfl, _, results_none rfl, ?_⟩
        have hv0 := V0.out
        subst hv0
        exact ⟨rfl, v, x :: L, Y1.out, by have := Y2.out; simpa using this, Y3.out, Y4.out⟩
      · have hkW : Kept [w1.heap.size] wr (setBlock w2 w1.heap.size o2) := by
          rcases hw2 with rfl | rfl
          · exact Kept.setBlock (by simp) _ _
          · exact (Kept.drew _ _).trans' (Kept.setBlock (by simp) _ _)
        have hitr := hI.ne_
        have hitl := hI.lt
        have he := hent (setBlock w2 w1.heap.size o2) (hkW.block _ hI.map.lt (by simpa using fun e => hitr e.symm)) (by
          rcases hw2 with rfl | rfl <;> simp [Go.ChangeMaps.setBlock, hitl])
        have hnotit : ∀ b, (b = O ∨ b = B ∨ b = K ∨ v.ownBlock = some b) → b ≠ w1.heap.size := by
          rintro b (rfl | rfl | rfl | hb)
          · exact fun e => hI.not_blk hGa.o e.symm
          · exact fun e => hI.not_blk hGa.b e.symm
          · exact fun e => hI.not_blk hGa.k e.symm
          · obtain ⟨cs, hcs⟩ := own_blk hGa.own hb
            exact fun e => hI.not_blk hcs e.symm
        have hnf : ∀ b ∈ gfoot O v, b ≠ w1.heap.size := fun b hb => hnotit b (by
          rcases List.mem_cons.1 hb with rfl | hb
          · exact .inl rfl
          · exact .inr (.inr (.inr (by simpa using hb))))
        have hG2 : Gath (setBlock w2 w1.heap.size o2) O B K a r base m v (pre ++ [x] ++ L) := by
          have hl := hGa.lt
          refine ⟨hkW.blk hGa.o (by simpa using hnotit O (.inl rfl)), hkW.blk hGa.b (by simpa using hnotit B (.inr (.inl rfl))), hkW.blk hGa.k (by simpa using hnotit K (.inr (.inr (.inl rfl)))), hkW.cell hGa.h ?_, hkW.map hGa.m (by simpa using hitr.symm),
            hkW.own hGa.own fun b hb => by simpa using hnotit b (.inr (.inr (.inr hb))), ⟨hl.1, hl.2.1, hl.2.2.1, hl.2.2.2.1, hl.2.2.2.2.1, Nat.le_trans hl.2.2.2.2.2 hkW.size⟩, hGa.ao⟩
          simp only [List.mem_singleton]
          have := GX.out
          have := X5.out
          omega
        have hkey : k = h.serial ∧ h ∈ l := by
          have h1 := hP (k, h) (by rw [hl0]; simp)
          have h2 : h ∈ m.map (·.2) := hD.mem_iff.1 (by rw [hl0]; simp)
          have h3 := (hm.map (·.2)).mem_iff.1 h2
          rw [List.map_map] at h3
          exact ⟨h1, by simpa [Function.comp_def] using h3⟩
        obtain ⟨rfl, hmem⟩ := hkey
        have hD2 : ((done ++ [h]) ++ (l1 ++ l2).map (·.2)).Perm (m.map (·.2)) := by
          refine List.Perm.trans ?_ hD
          rw [hl0]
          simp only [List.map_append, List.map_cons, List.append_assoc, List.singleton_append]
          exact List.Perm.append_left done List.perm_middle.symm
        have hP2 : ∀ p ∈ l1 ++ l2, p.1 = p.2.serial := fun p hp => hP p (by
          rw [hl0]
          rcases List.mem_append.1 hp with h | h <;> simp [h])
        have hkeep : Kept (gfoot O v0) w (setBlock w2 w1.heap.size o2) := hKe.trans hkW fun b hb => .inr (by
          simp only [List.mem_singleton] at hb
          have := X5.out
          omega)
        have hleft2 : (l1 ++ l2).length < left.length := by rw [hl0]; simp
        simp only [intV, Hd.val] at hnx he
        generalize hW2 : setBlock w2 w1.heap.size o2 = W2 at *
        have Y1 := Lib.hid hG2
        have Y2 := Lib.hid hI2
        have Y3 := Lib.hid hD2
        have Y4 := Lib.hid hP2
        have Y5 := Lib.hid hkeep
        have Y6 := Lib.hid hvo
        have Y7 := Lib.hid hL
        have Y8 := Lib.hid hleft2
        have Y9 := Lib.hid hIL
        have Y10 := Lib.hid hnf
        have Y11 := Lib.hid hmem
        have cK : (W2.alloc (.cells #[.int .i64 h.serial, .int .i64 h.parent, .int .i64 h.port, .int .i64 h.holder, .int .u8 (h.rights : Int)] 34)).cell? ⟨K, 0, none⟩ = some (.func (.func 48) #[] #[.pointer (some ⟨O, 0, none⟩), .pointer (some ⟨B, 0, none⟩), .pointer (some ⟨K, 0, none⟩)]) := (Kept.alloc [] W2 _).cell (hG2.k.cell 0) (by simp)
        have hGn := hG2.kept (Kept.alloc [] W2 (.cells #[.int .i64 h.serial, .int .i64 h.parent, .int .i64 h.port, .int .i64 h.holder, .int .u8 (h.rights : Int)] 34)) (by simp)
        have Y12 := Lib.hid hGn
        clear hG2 hI hI2 hD hD2 hP hP2 hkeep hKe hvo hL hl0 hleft2 hIL hnf hnotit hkW hitr hitl hent hW2 hGn hGa hmem
        by_cases hpx : h.parent = x
        · have hpe : (h.parent == x) = true := by simp [hpx]
          have HPX := Lib.hid hpx
          clear hpx
          have hc1 : (top - h.serial).toNat ≤ n := by
            have := t.up h Y11.out
            have := HPX.out
            have := htop h Y11.out
            omega
          have hkd : kids (done ++ [h]) x = kids done x ++ [h] := by unfold kids; rw [List.filter_append]; simp [HPX.out]
          have hc3 : (pre ++ [x] ++ L).length + (below l h.serial).length ≤ 1024 := by
            have hperm : (done ++ [h] ++ (l1 ++ l2).map (·.2)).Perm l := Y3.out.trans ((hm.map (·.2)).trans (List.Perm.of_eq (by rw [List.map_map]; simp [Function.comp_def])))
            have h1 := (below_kids t hperm HX.out).length_eq
            have h2 := Y7.out.length_eq
            have e : kids (done ++ [h] ++ (l1 ++ l2).map (·.2)) x = kids done x ++ [h] ++ kids ((l1 ++ l2).map (·.2)) x := by
              rw [← hkd]; unfold kids; rw [List.filter_append]
            rw [e, List.flatMap_append, List.flatMap_append] at h1
            simp only [List.length_cons, List.length_append, List.flatMap_cons, List.flatMap_nil, List.append_nil, List.length_nil] at h1 h2 ⊢
            omega
          have hcall := ih h.serial _ v (pre ++ [x] ++ L) hc1 ⟨h, Y11.out, rfl⟩ hc3 Y12.out
          have HCALL := Lib.hid hcall
          have KD := Lib.hid hkd
          clear hc1 hc3 hcall hkd
          go_wp2_with (go_at_call 48; refine HCALL.out.mono ?_; rintro e w4 ⟨rfl, v4, L4, z1, z2, z3, z4⟩; have Z1 := Lib.hid z1; have Z2 := Lib.hid z2; have Z3 := Lib.hid z3; have Z4 := Lib.hid z4; clear z1 z2 z3 z4)
          have hit4 := Kept.iter Z3.out (Kept.iter (Kept.alloc [] W2 _) Y2.out (by simp) (by simp)) (fun hm' => Y10.out _ hm' rfl) (fun hm' => by
            rcases List.mem_cons.1 hm' with e | e
            · exact Y12.out.m.not_blk Y12.out.o e
            · obtain ⟨cs, hcs⟩ := own_blk Y12.out.own (k := r) (by simpa using e)
              exact Y12.out.m.not_blk hcs rfl)
          have HIT4 := Lib.hid hit4
          clear hit4
          go_roundw
          case rel =>
            refine ⟨v4, done ++ [h], l1 ++ l2, L ++ L4, HIT4.out, Y3.out, Y4.out, ?_, ?_, ?_, ?_⟩
            · rw [KD.out, List.flatMap_append]
              exact Y7.out.append (by simpa using Z1.out)
            · rw [← List.append_assoc]
              exact Z2.out
            · refine (Y5.out.trans' (Kept.alloc _ _ _)).trans Z3.out fun b hb => ?_
              rcases List.mem_cons.1 hb with rfl | hb
              · exact .inl (by simp [gfoot])
              · have hb' : v.ownBlock = some b := by simpa using hb
                rcases Y6.out with e | e
                · exact .inl (by simp only [gfoot, List.mem_cons]; right; rw [← e]; exact hb)
                · exact .inr (e b hb')
            · rcases Z4.out with e | e
              · rw [e]; exact Y6.out
              · refine .inr fun b hb => ?_
                have := e b hb
                have h5 := Y5.out.size
                rw [World.size_alloc] at this
                omega
          case measure =>
            rw [HIT4.out.left, Y9.out]
            exact Y8.out
        · have hpe : (h.parent == x) = false := by simp [hpx]
          have HPX := Lib.hid hpx
          clear hpx
          go_wp2
          go_roundw
          case rel =>
            refine ⟨v, done ++ [h], l1 ++ l2, L, Kept.iter (Kept.alloc [] W2 _) Y2.out (by simp) (by simp), Y3.out, Y4.out, ?_, Y12.out, Y5.out.trans' (Kept.alloc _ _ _), Y6.out⟩
            have : kids (done ++ [h]) x = kids done x := by unfold kids; rw [List.filter_append]; simp [HPX.out]
            rw [this]
            exact Y7.out
          case measure =>
            rw [(Kept.iter (Kept.alloc [] W2 _) Y2.out (by simp) (by simp)).left, Y9.out]
            exact Y8.out
end
end Go.Proofs.Ytmndckeohfcgkaa
