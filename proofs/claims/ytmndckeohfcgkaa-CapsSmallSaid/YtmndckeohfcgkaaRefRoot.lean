/- The reference of layer 23: Root, Derive. -/
import Derived.Test.YtmndckeohfcgkaaRefAdd
import Derived.Test.YtmndckeohfcgkaaHold
namespace Go.Proofs.Ytmndckeohfcgkaa
open Go.RowKit
/-- What Root, Derive and add of the reference hand back: the same table and an error, or a table with one more handle, in a new row. -/
def AddOut (w : World) (A : Option Addr) (cap : Nat) (nx : Int) (l : List RH) (E : Int) (x : RH) (e : Ending) (w' : World) : Prop :=
  ∃ R q, e = .returned (.tuple #[.agg #[.int .i64 (nextA nx E), .slice R (listA nx l E x).length q], .int .i64 (serA nx E), .int .i64 E]) ∧
    ((R = A ∧ listA nx l E x = l ∧ Kept [] w w') ∨ St w w' [.row (.slice R (listA nx l E x).length q) 104 6 (listA nx l E x).length (flatR (listA nx l E x))])
section
variable {w w' w1 : World} {A : Option Addr} {cap : Nat} {nx E : Int} {l : List RH} {x : RH}
theorem addOut_err (h : E ≠ 0) (hk : Kept [] w w') : AddOut w A cap nx l E x (.returned (.tuple #[.agg #[.int .i64 nx, .slice A l.length cap], .int .i64 0, .int .i64 E])) w' := by
  have e1 : nextA nx E = nx := by unfold nextA; rw [if_neg h]
  have e2 : listA nx l E x = l := by unfold listA; rw [if_neg h]
  have e3 : serA nx E = 0 := by unfold serA; rw [if_neg h]
  exact ⟨A, cap, by rw [e1, e2, e3], .inl ⟨rfl, e2, hk⟩⟩
theorem RAdd_calls (h : RH) (hA : Reads w A (flatR l)) (hn : l.length ≤ 200) (hx0 : 1 ≤ nx) :
    Calls Try.prog 64 #[.agg #[.int .i64 nx, .slice A l.length cap], h.val] w fun e w' => AddOut w A cap nx l (if 281474976710656 < nx then 4 else 0) h e w' := by
  by_cases hx : 281474976710656 < nx
  · rw [if_pos hx]
    refine (RAdd_full h hA hn hx).mono ?_
    rintro e w' ⟨rfl, hk⟩
    exact addOut_err (by decide) hk
  · rw [if_neg hx]
    refine (RAdd_main h hA hn hx0 (by omega)).mono ?_
    rintro e w' ⟨R, q, rfl, hs⟩
    refine ⟨R, q, ?_, .inr ?_⟩
    · simp [nextA, serA, listA]
    · simpa [listA] using hs
/-- Both rows stay readable. -/
theorem AddOut.rds {w0 : World} {rs : List Res} {L : List (Option Addr × List Value)} {e : Ending} (h : AddOut w A cap nx l E x e w') (S : St w0 w (.rds ((A, flatR l) :: L) :: rs)) :
    ∃ R q, e = .returned (.tuple #[.agg #[.int .i64 (nextA nx E), .slice R (listA nx l E x).length q], .int .i64 (serA nx E), .int .i64 E]) ∧ St w0 w' (.rds ((R, flatR (listA nx l E x)) :: (A, flatR l) :: L) :: rs) := by
  obtain ⟨R, q, rfl, h⟩ := h
  refine ⟨R, q, rfl, ?_⟩
  rcases h with ⟨rfl, e, hk⟩ | h
  · rw [e]
    exact (S.kept hk).rdsSub (by
      intro p hp
      rcases List.mem_cons.1 hp with rfl | hp
      · simp
      · exact hp)
  · exact (S.join h).rdsAdd
theorem St.addOr {w0 : World} {rs : List Res} {R0 : Res} {P Q : Prop} (S : St w0 w rs) (h : (P ∧ Q ∧ Kept [] w w') ∨ St w w' [R0]) : St w0 w' rs ∧ ((P ∧ Q) ∨ St w0 w' (rs ++ [R0])) := by
  rcases h with ⟨h1, h2, h3⟩ | h
  · exact ⟨S.kept h3, .inl ⟨h1, h2⟩⟩
  · exact ⟨S.kept h.whole, .inr ((S.join h).perm (List.perm_append_comm (l₁ := [R0])))⟩
end
set_option maxRecDepth 100000 in
set_option maxHeartbeats 2000000 in
theorem RRoot_calls {w : World} {A : Option Addr} {cap : Nat} {nx : Int} {l : List RH} (port holder : Int) (t : Nat) (ht : t ≤ 255) (hA : Reads w A (flatR l)) (hn : l.length ≤ 200) (hx0 : 1 ≤ nx) :
    Calls Try.prog 50 #[.agg #[.int .i64 nx, .slice A l.length cap], .int .i64 port, .int .i64 holder, .int .i64 (t : Int)] w fun e w' => AddOut w A cap nx l (rootE nx port holder t) ⟨0, 0, port, holder, t, false⟩ e w' := by
  generalize hv : (w.alloc (.cells #[.int .i64 nx, .slice A l.length cap] 88)) = w1
  generalize hv2 : (w1.alloc (.cells #[.int .i64 0, .slice none 0 0] 88)) = w2
  have s0 : St w w1 [.blk w.heap.size 88 #[.int .i64 nx, .slice A l.length cap]] := by rw [← hv]; exact (St.nil w).alloc _ _
  have s1 : St w w2 [.blk w1.heap.size 88 #[.int .i64 0, .slice none 0 0], .blk w.heap.size 88 #[.int .i64 nx, .slice A l.length cap]] := by rw [← hv2]; exact s0.alloc _ _
  have d0 : w2.cell? ⟨w.heap.size, 0, none⟩ = some (.int .i64 nx) := s1.blk1.cell 0
  have d1 : w2.cell? ⟨w.heap.size, 1, none⟩ = some (.slice A l.length cap) := s1.blk1.cell 1
  have f0 := s1.blk0.cell 0
  have f1 := s1.blk0.cell 1
  have z := s1.blk0.frozen
  have S1 := Lib.hid s1
  have HA := Lib.hid hA
  clear hA s0 s1
  by_cases p1 : port < 0
  · have E : Hid (rootE nx port holder t = 2) := Lib.hid (by unfold rootE; rw [if_pos (.inl (by omega))])
    go_enter Try.func50, Try.ntmps50
    go_wp2
    have s5 := S1.out.put2 (.int .i64 nx) (.slice A l.length cap)
    refine bodyPost_ret (results_c88_3 rfl rfl s5.blk0 rfl rfl) rfl ?_
    rw [E.out]
    exact addOut_err (by decide) s5.whole
  by_cases p2 : 4294967295 < port
  · have E : Hid (rootE nx port holder t = 2) := Lib.hid (by unfold rootE; rw [if_pos (.inl (by omega))])
    go_enter Try.func50, Try.ntmps50
    go_wp2
    have s5 := S1.out.put2 (.int .i64 nx) (.slice A l.length cap)
    refine bodyPost_ret (results_c88_3 rfl rfl s5.blk0 rfl rfl) rfl ?_
    rw [E.out]
    exact addOut_err (by decide) s5.whole
  by_cases p3 : holder < 0
  · have E : Hid (rootE nx port holder t = 2) := Lib.hid (by unfold rootE; rw [if_pos (.inr (by simp [holds]; omega))])
    go_enter Try.func50, Try.ntmps50
    go_wp2
    have s5 := S1.out.put2 (.int .i64 nx) (.slice A l.length cap)
    refine bodyPost_ret (results_c88_3 rfl rfl s5.blk0 rfl rfl) rfl ?_
    rw [E.out]
    exact addOut_err (by decide) s5.whole
  by_cases p4 : 16 < holder
  · have E : Hid (rootE nx port holder t = 2) := Lib.hid (by unfold rootE; rw [if_pos (.inr (by simp [holds]; omega))])
    go_enter Try.func50, Try.ntmps50
    go_wp2
    have s5 := S1.out.put2 (.int .i64 nx) (.slice A l.length cap)
    refine bodyPost_ret (results_c88_3 rfl rfl s5.blk0 rfl rfl) rfl ?_
    rw [E.out]
    exact addOut_err (by decide) s5.whole
  have hno : ¬ (¬ (0 ≤ port ∧ port ≤ 4294967295) ∨ holds holder = false) := by simp [holds]; omega
  have HR := RRight_calls w2 t ht
  by_cases h15 : t ≤ 15
  · rw [decide_eq_true h15] at HR
    have HR := Lib.hid HR
    have E : Hid (rootE nx port holder t = if 281474976710656 < nx then 4 else 0) := Lib.hid (by unfold rootE; rw [if_neg hno, if_neg (by omega)])
    rw [E.out]
    clear E
    have HB : Hid (∀ w3, Kept [] w2 w3 → Calls Try.prog 64 #[.agg #[.int .i64 nx, .slice A l.length cap], .agg #[.int .i64 0, .int .i64 0, .int .i64 port, .int .i64 holder, .int .i64 (t : Int), .bool false]] w3 fun e w' => AddOut w3 A cap nx l (if 281474976710656 < nx then 4 else 0) ⟨0, 0, port, holder, t, false⟩ e w') :=
      Lib.hid fun w3 hk => RAdd_calls ⟨0, 0, port, holder, t, false⟩ ((S1.out.whole.trans' hk).reads HA.out (by simp)) hn hx0
    generalize (if 281474976710656 < nx then (4 : Int) else 0) = E0 at *
    clear hno
    go_enter Try.func50, Try.ntmps50
    go_wp2_with fail
    refine HR.out.mono ?_
    rintro e w3 ⟨rfl, hk⟩
    have s2 := S1.out.kept hk
    have e0 : w3.cell? ⟨w.heap.size, 0, none⟩ = some (.int .i64 nx) := s2.blk1.cell 0
    have e1 : w3.cell? ⟨w.heap.size, 1, none⟩ = some (.slice A l.length cap) := s2.blk1.cell 1
    have HB2 := Lib.hid (HB.out w3 hk)
    have S2 := Lib.hid s2
    clear d0 d1 f0 f1 z s2 hk HR HB hv hv2
    go_wp2_with fail
    refine HB2.out.mono ?_
    rintro e w4 ⟨R, q, rfl, hor⟩
    have hor' := S2.out.addOr hor
    have s3 := hor'.1
    have f0 := s3.blk0.cell 0
    have f1 := s3.blk0.cell 1
    have z := s3.blk0.frozen
    have S3 := Lib.hid s3
    have HO := Lib.hid hor'.2
    clear hor hor' s3 HB2 e0 e1
    go_wp2
    have s5 := S3.out.put2 (.int .i64 (nextA nx E0)) (.slice R (listA nx l E0 ⟨0, 0, port, holder, t, false⟩).length q)
    refine bodyPost_ret (results_c88_3 rfl rfl s5.blk0 rfl rfl) rfl ?_
    refine ⟨R, q, rfl, ?_⟩
    rcases HO.out with ⟨h1, h2⟩ | h
    · exact .inl ⟨h1, h2, s5.whole⟩
    · exact .inr (h.put2 _ _).drop.drop
  · rw [decide_eq_false h15] at HR
    have HR := Lib.hid HR
    have E : Hid (rootE nx port holder t = 220) := Lib.hid (by unfold rootE; rw [if_neg hno, if_pos (by omega)])
    rw [E.out]
    clear hno
    go_enter Try.func50, Try.ntmps50
    go_wp2_with fail
    refine HR.out.mono ?_
    rintro e w3 ⟨rfl, hk⟩
    have s2 := S1.out.kept hk
    clear d0 d1 f0 f1 z
    have e0 : w3.cell? ⟨w.heap.size, 0, none⟩ = some (.int .i64 nx) := s2.blk1.cell 0
    have e1 : w3.cell? ⟨w.heap.size, 1, none⟩ = some (.slice A l.length cap) := s2.blk1.cell 1
    have f0 := s2.blk0.cell 0
    have f1 := s2.blk0.cell 1
    have z := s2.blk0.frozen
    have S2 := Lib.hid s2
    clear s2 hk HR hv hv2
    go_wp2
    have s5 := S2.out.put2 (.int .i64 nx) (.slice A l.length cap)
    refine bodyPost_ret (results_c88_3 rfl rfl s5.blk0 rfl rfl) rfl ?_
    exact addOut_err (by decide) s5.whole
set_option maxRecDepth 100000 in
set_option maxHeartbeats 2000000 in
theorem RDerive_calls {w : World} {A : Option Addr} {cap : Nat} {nx : Int} {l : List RH} (s dst : Int) (t : Nat) (ht : t ≤ 255) (hA : Reads w A (flatR l)) (hn : l.length ≤ 200) (hx0 : 1 ≤ nx) (hr0 : 0 ≤ (getR l s).1.rights) (hr1 : (getR l s).1.rights ≤ 15) :
    Calls Try.prog 51 #[.agg #[.int .i64 nx, .slice A l.length cap], .int .i64 s, .int .i64 dst, .int .i64 (t : Int)] w fun e w' => AddOut w A cap nx l (deriveE nx l s dst t) ⟨0, s, (getR l s).1.port, dst, t, false⟩ e w' := by
  generalize hv : (w.alloc (.cells #[.int .i64 nx, .slice A l.length cap] 88)) = w1
  generalize hv2 : (w1.alloc (.cells #[.int .i64 0, .slice none 0 0] 88)) = w2
  have s0 : St w w1 [.blk w.heap.size 88 #[.int .i64 nx, .slice A l.length cap]] := by rw [← hv]; exact (St.nil w).alloc _ _
  have s1 : St w w2 [.blk w1.heap.size 88 #[.int .i64 0, .slice none 0 0], .blk w.heap.size 88 #[.int .i64 nx, .slice A l.length cap]] := by rw [← hv2]; exact s0.alloc _ _
  have d0 : w2.cell? ⟨w.heap.size, 0, none⟩ = some (.int .i64 nx) := s1.blk1.cell 0
  have d1 : w2.cell? ⟨w.heap.size, 1, none⟩ = some (.slice A l.length cap) := s1.blk1.cell 1
  have S1 := Lib.hid s1
  have HA := Lib.hid hA
  have HG := RGet_calls (nx := nx) (cap := cap) s (s1.whole.reads hA (by simp)) (by omega)
  clear hA s0 s1
  have hde : deriveE nx l s dst t = if (getR l s).2 ≠ 0 then (getR l s).2 else if holds dst = false then 2 else if handN (getR l s).1.rights.toNat t ≠ 0 then handN (getR l s).1.rights.toNat t else if 281474976710656 < nx then 4 else 0 := rfl
  generalize getR l s = g at *
  generalize deriveE nx l s dst t = E at *
  obtain ⟨⟨x1, x2, x3, x4, x5, x6⟩, er⟩ := g
  simp only at hr0 hr1 hde
  simp only [RH.val] at HG
  obtain ⟨k, rfl⟩ : ∃ k : Nat, x5 = (k : Int) := ⟨x5.toNat, by omega⟩
  simp only [Int.toNat_natCast] at hde
  have hk15 : k ≤ 255 := by omega
  have HG := Lib.hid HG
  clear hr0 hr1
  go_enter Try.func51, Try.ntmps51
  go_wp2_with fail
  refine HG.out.mono ?_
  rintro e w3 ⟨rfl, hk⟩
  have s2 := (S1.out.kept hk).alloc 104 #[.int .i64 x1, .int .i64 x2, .int .i64 x3, .int .i64 x4, .int .i64 (k : Int), .bool x6]
  generalize hv3 : w3.alloc (.cells #[.int .i64 x1, .int .i64 x2, .int .i64 x3, .int .i64 x4, .int .i64 (k : Int), .bool x6] 104) = w4 at *
  have e0 : w4.cell? ⟨w.heap.size, 0, none⟩ = some (.int .i64 nx) := s2.blk2.cell 0
  have e1 : w4.cell? ⟨w.heap.size, 1, none⟩ = some (.slice A l.length cap) := s2.blk2.cell 1
  have g2 : w4.cell? ⟨w3.heap.size, 2, none⟩ = some (.int .i64 x3) := s2.blk0.cell 2
  have g4 : w4.cell? ⟨w3.heap.size, 4, none⟩ = some (.int .i64 (k : Int)) := s2.blk0.cell 4
  have s3 := s2.swap
  have f0 := s3.blk0.cell 0
  have f1 := s3.blk0.cell 1
  have z := s3.blk0.frozen
  have S2 := Lib.hid s3
  clear s2 s3 hk HG d0 d1 hv hv2
  by_cases q1 : er = 0
  case neg =>
    have hne : (er != 0) = true := by simp [q1]
    have HE : Hid (E = er) := Lib.hid (by rw [hde, if_pos q1])
    have Q1 := Lib.hid q1
    clear hde q1
    go_wp2
    have s5 := S2.out.put2 (.int .i64 nx) (.slice A l.length cap)
    refine bodyPost_ret (results_c88_3 rfl rfl s5.blk0 rfl rfl) rfl ?_
    rw [HE.out]
    exact addOut_err Q1.out s5.whole
  subst q1
  rw [if_neg (fun h => h rfl)] at hde
  by_cases p3 : dst < 0
  · have HE : Hid (E = 2) := Lib.hid (by rw [hde, if_pos (by simp [holds]; omega)])
    clear hde
    go_wp2
    have s5 := S2.out.put2 (.int .i64 nx) (.slice A l.length cap)
    refine bodyPost_ret (results_c88_3 rfl rfl s5.blk0 rfl rfl) rfl ?_
    rw [HE.out]
    exact addOut_err (by decide) s5.whole
  by_cases p4 : 16 < dst
  · have HE : Hid (E = 2) := Lib.hid (by rw [hde, if_pos (by simp [holds]; omega)])
    clear hde
    go_wp2
    have s5 := S2.out.put2 (.int .i64 nx) (.slice A l.length cap)
    refine bodyPost_ret (results_c88_3 rfl rfl s5.blk0 rfl rfl) rfl ?_
    rw [HE.out]
    exact addOut_err (by decide) s5.whole
  rw [if_neg (by simp [holds]; omega)] at hde
  have HH := RHand_calls w4 k t hk15 ht
  generalize handN k t = hd at *
  have HH := Lib.hid HH
  by_cases q2 : hd = 0
  case neg =>
    have hne : (hd != 0) = true := by simp [q2]
    have HE : Hid (E = hd) := Lib.hid (by rw [hde, if_pos q2])
    have Q2 := Lib.hid q2
    clear hde q2
    go_wp2_with fail
    refine HH.out.mono ?_
    rintro e w5 ⟨rfl, hk⟩
    have s4 := S2.out.kept hk
    clear e0 e1 f0 f1 z
    have e0 : w5.cell? ⟨w.heap.size, 0, none⟩ = some (.int .i64 nx) := s4.blk2.cell 0
    have e1 : w5.cell? ⟨w.heap.size, 1, none⟩ = some (.slice A l.length cap) := s4.blk2.cell 1
    have f0 := s4.blk0.cell 0
    have f1 := s4.blk0.cell 1
    have z := s4.blk0.frozen
    have S4 := Lib.hid s4
    clear s4 hk HH
    go_wp2
    have s5 := S4.out.put2 (.int .i64 nx) (.slice A l.length cap)
    refine bodyPost_ret (results_c88_3 rfl rfl s5.blk0 rfl rfl) rfl ?_
    rw [HE.out]
    exact addOut_err Q2.out s5.whole
  subst q2
  rw [if_neg (fun h => h rfl)] at hde
  have HDE := Lib.hid hde
  have HB : Hid (∀ w5, Kept [] w4 w5 → Calls Try.prog 64 #[.agg #[.int .i64 nx, .slice A l.length cap], .agg #[.int .i64 0, .int .i64 s, .int .i64 x3, .int .i64 dst, .int .i64 (t : Int), .bool false]] w5 fun e w' => AddOut w5 A cap nx l (if 281474976710656 < nx then 4 else 0) ⟨0, s, x3, dst, t, false⟩ e w') :=
    Lib.hid fun w5 hk => RAdd_calls ⟨0, s, x3, dst, t, false⟩ ((S2.out.whole.trans' hk).reads HA.out (by simp)) hn hx0
  clear hde
  generalize (if 281474976710656 < nx then (4 : Int) else 0) = E0 at *
  go_wp2_with fail
  refine HH.out.mono ?_
  rintro e w5 ⟨rfl, hk⟩
  have s4 := S2.out.kept hk
  clear e0 e1 f0 f1 z g4
  have e0 : w5.cell? ⟨w.heap.size, 0, none⟩ = some (.int .i64 nx) := s4.blk2.cell 0
  have e1 : w5.cell? ⟨w.heap.size, 1, none⟩ = some (.slice A l.length cap) := s4.blk2.cell 1
  have g2' : w5.cell? ⟨w3.heap.size, 2, none⟩ = some (.int .i64 x3) := s4.blk1.cell 2
  have HB2 := Lib.hid (HB.out w5 hk)
  have S4 := Lib.hid s4
  clear s4 hk HH HB g2
  go_wp2_with fail
  refine HB2.out.mono ?_
  rintro e w6 ⟨R, q, rfl, hor⟩
  have hor' := S4.out.addOr hor
  have s3 := hor'.1
  have f0 := s3.blk0.cell 0
  have f1 := s3.blk0.cell 1
  have z := s3.blk0.frozen
  have S3 := Lib.hid s3
  have HO := Lib.hid hor'.2
  clear hor hor' s3 HB2 e0 e1 g2'
  go_wp2
  have s5 := S3.out.put2 (.int .i64 (nextA nx E0)) (.slice R (listA nx l E0 ⟨0, s, x3, dst, t, false⟩).length q)
  refine bodyPost_ret (results_c88_3 rfl rfl s5.blk0 rfl rfl) rfl ?_
  rw [HDE.out]
  refine ⟨R, q, rfl, ?_⟩
  rcases HO.out with ⟨h1, h2⟩ | h
  · exact .inl ⟨h1, h2, s5.whole⟩
  · exact .inr (h.put2 _ _).drop.drop.drop
end Go.Proofs.Ytmndckeohfcgkaa
