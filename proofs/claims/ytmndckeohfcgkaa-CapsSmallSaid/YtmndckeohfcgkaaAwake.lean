/- The walk of the examples of the chapter (awake of the laws on caps). -/
import Derived.Test.YtmndckeohfcgkaaMade
namespace Go.Proofs.Ytmndckeohfcgkaa
open Go.RowKit
def ct0 : CT := ⟨7, [], [[], [], [], [], [], [], [], [], [], [], [], [], [], [], [], [], []]⟩
def ct1 : CT := ⟨8, [⟨7, 0, 3, 0, 15⟩], [[7], [], [], [], [], [], [], [], [], [], [], [], [], [], [], [], []]⟩
def ct2 : CT := ⟨9, [⟨7, 0, 3, 0, 15⟩, ⟨8, 7, 3, 2, 5⟩], [[7], [], [8], [], [], [], [], [], [], [], [], [], [], [], [], [], []]⟩
def ct3 : CT := ⟨10, [⟨7, 0, 3, 0, 15⟩, ⟨8, 7, 3, 2, 5⟩, ⟨9, 8, 3, 1, 1⟩], [[7], [9], [8], [], [], [], [], [], [], [], [], [], [], [], [], [], []]⟩
def ct4 : CT := ⟨11, [⟨7, 0, 3, 0, 15⟩, ⟨8, 7, 3, 2, 5⟩, ⟨9, 8, 3, 1, 1⟩, ⟨10, 7, 3, 0, 7⟩], [[7, 10], [9], [8], [], [], [], [], [], [], [], [], [], [], [], [], [], []]⟩
def ct5 : CT := ⟨11, [⟨7, 0, 3, 0, 15⟩, ⟨10, 7, 3, 0, 7⟩], [[7, 10], [9], [8], [], [], [], [], [], [], [], [], [], [], [], [], [], []]⟩
def ct6 : CT := ⟨11, [], [[7, 10], [9], [8], [], [], [], [], [], [], [], [], [], [], [], [], [], []]⟩
theorem ct0_eq : newCT 7 = ct0 := rfl
theorem aw1 : ct0.rootRes 3 0 15 = (7, 0) := by kernel_rfl
theorem aw1' : ct0.root 3 0 15 = ct1 := by kernel_rfl
theorem aw2 : ct1.deriveRes 7 2 5 = (8, 0) := by kernel_rfl
theorem aw2' : ct1.derive 7 2 5 = ct2 := by kernel_rfl
theorem aw3 : ct2.deriveRes 8 1 1 = (9, 0) := by kernel_rfl
theorem aw3' : ct2.derive 8 1 1 = ct3 := by kernel_rfl
theorem aw4 : ct3.deriveRes 9 0 1 = (0, 221) := by kernel_rfl
theorem aw4' : ct3.derive 9 0 1 = ct3 := by kernel_rfl
theorem aw5 : ct3.deriveRes 7 0 7 = (10, 0) := by kernel_rfl
theorem aw5' : ct3.derive 7 0 7 = ct4 := by kernel_rfl
theorem aw6 : ct4.belowRes 8 = ([8, 9], 0) := by kernel_rfl
theorem aw7 : ct4.revoke 8 = ct5 := by kernel_rfl
theorem aw8 : ct5.placeRes 1 0 = (noHd, 230) := by kernel_rfl
theorem aw9 : ct5.placeRes 0 1 = (⟨10, 7, 3, 0, 7⟩, 0) := by kernel_rfl
theorem aw10 : ct5.belowRes 8 = ([], 6) := by kernel_rfl
theorem aw10' : ct5.revoke 8 = ct5 := by kernel_rfl
theorem aw11 : ofPort ct5.live 3 = [7, 10] := by kernel_rfl
theorem aw11' : ct5.close 3 = ct6 := by kernel_rfl
theorem same34 {w : World} {A B : Option Addr} {c d : Nat} {xs : List Int} (hA : Reads w A (xs.map intV)) (hB : Reads w B (xs.map intV)) (hx : xs.length ≤ 1024) :
    Calls Try.prog 34 #[.slice A xs.length c, .slice B xs.length d] w fun e w' => e = .returned (.bool true) ∧ Kept [] w w' := by
  refine (equal34 hA hB (by unfold maxLen; omega) (by unfold maxLen; omega)).mono ?_
  rintro e w' ⟨rfl, h⟩
  exact ⟨by simp, h⟩
theorem lit2_reads (w : World) (x y : Int) : Reads (w.alloc (.cells #[.int .i64 x, .int .i64 y] 3)) (some ⟨w.heap.size, 0, none⟩) ([x, y].map intV) :=
  .inr ⟨w.heap.size, 0, rfl, fun j u hu => by
    rw [Nat.zero_add, (Blk.new w 3 #[.int .i64 x, .int .i64 y]).cell]
    rw [← hu]
    simp only [List.map_cons, List.map_nil, intV]
    rw [← List.getElem?_toArray]⟩
section
variable {w0 w : World} {rs : List Res} {a : Nat}
theorem St.root' {c c' : CT} (h : St w0 w (.tab a c :: rs)) (port holder : Int) (t : Nat) {x : Int × Int} (hx : c.rootRes port holder t = x) (hc : c.root port holder t = c') :
    Calls Try.prog 28 #[.pointer (some ⟨a, 0, none⟩), .int .i64 port, .int .i64 holder, .int .u8 (t : Int)] w fun e w' => e = .returned (.tuple #[.int .i64 x.1, .int .i64 x.2]) ∧ St w0 w' (.tab a c' :: rs) := by
  have := h.root port holder t
  rwa [hx, hc] at this
theorem St.derive' {c c' : CT} (h : St w0 w (.tab a c :: rs)) (s to : Int) (t : Nat) {x : Int × Int} (hx : c.deriveRes s to t = x) (hc : c.derive s to t = c') :
    Calls Try.prog 25 #[.pointer (some ⟨a, 0, none⟩), .int .i64 s, .int .i64 to, .int .u8 (t : Int)] w fun e w' => e = .returned (.tuple #[.int .i64 x.1, .int .i64 x.2]) ∧ St w0 w' (.tab a c' :: rs) := by
  have := h.derive s to t
  rwa [hx, hc] at this
theorem St.revoke' {c c' : CT} (h : St w0 w (.tab a c :: rs)) (s : Int) {l : List Int} {n : Int} (hx : c.belowRes s = (l, n)) (hc : c.revoke s = c') :
    Calls Try.prog 17 #[.pointer (some ⟨a, 0, none⟩), .int .i64 s] w fun e w' => ∃ A cap, e = .returned (.tuple #[.slice A l.length cap, .int .i64 n]) ∧
      St w0 w' (.tab a c' :: .row (.slice A l.length cap) 3 1 l.length (l.map intV) :: rs) := by
  have := h.revoke s
  rwa [hx, hc] at this
theorem St.below' {c : CT} (h : St w0 w (.tab a c :: rs)) (s : Int) {l : List Int} {n : Int} (hx : c.belowRes s = (l, n)) :
    Calls Try.prog 27 #[.pointer (some ⟨a, 0, none⟩), .int .i64 s] w fun e w' => ∃ A cap, e = .returned (.tuple #[.slice A l.length cap, .int .i64 n]) ∧
      St w0 w' (.tab a c :: .row (.slice A l.length cap) 3 1 l.length (l.map intV) :: rs) := by
  have := h.below s
  rwa [hx] at this
theorem St.place' {c : CT} (h : St w0 w (.tab a c :: rs)) (who i : Int) {x : Hd × Int} (hx : c.placeRes who i = x) :
    Calls Try.prog 29 #[.pointer (some ⟨a, 0, none⟩), .int .i64 who, .int .i64 i] w fun e w' => e = .returned (.tuple #[x.1.val, .int .i64 x.2]) ∧ St w0 w' (.tab a c :: rs) := by
  have := h.place who i
  rwa [hx] at this
theorem St.close' {c c' : CT} (h : St w0 w (.tab a c :: rs)) (p : Int) {l : List Int} (hl : ofPort c.live p = l) (hc : c.close p = c') :
    Calls Try.prog 15 #[.pointer (some ⟨a, 0, none⟩), .int .i64 p] w fun e w' => ∃ A cap, e = .returned (.slice A l.length cap) ∧
      St w0 w' (.tab a c' :: .row (.slice A l.length cap) 3 1 l.length (l.map intV) :: rs) := by
  have := h.close p
  rwa [hl, hc] at this
end
set_option maxRecDepth 100000 in
set_option maxHeartbeats 4000000 in
theorem awake_calls (w : World) : Calls Try.prog 11 #[] w fun e w' => e = .returned (.bool true) ∧ Kept [] w w' := by
  have HN := Lib.hid ((St.nil w).fresh (n := 7) (by omega) (by omega))
  rw [ct0_eq] at HN
  go_enter Try.func11, Try.ntmps11
  go_wp2_with fail
  refine HN.out.mono ?_
  rintro e w1 ⟨a, rfl, hs⟩
  have S1 := Lib.hid hs
  clear hs
  go_wp2_with fail
  refine (S1.out.root' 3 0 15 aw1 aw1').mono ?_
  rintro e w2 ⟨rfl, hs⟩
  have S2 := Lib.hid hs
  clear hs
  go_wp2_with fail
  refine (S2.out.derive' 7 2 5 aw2 aw2').mono ?_
  rintro e w3 ⟨rfl, hs⟩
  have S3 := Lib.hid hs
  clear hs
  go_wp2_with fail
  refine (S3.out.derive' 8 1 1 aw3 aw3').mono ?_
  rintro e w4 ⟨rfl, hs⟩
  have S4 := Lib.hid hs
  clear hs
  go_wp2_with fail
  refine (S4.out.derive' 9 0 1 aw4 aw4').mono ?_
  rintro e w5 ⟨rfl, hs⟩
  have S5 := Lib.hid hs
  clear hs
  go_wp2_with fail
  refine (S5.out.derive' 7 0 7 aw5 aw5').mono ?_
  rintro e w6 ⟨rfl, hs⟩
  have S6 := Lib.hid hs
  clear hs
  go_wp2_with fail
  refine (S6.out.below' 8 aw6).mono ?_
  rintro e w7 ⟨Ab, pb, rfl, hs⟩
  have S7 := Lib.hid hs
  clear hs
  go_wp2_with fail
  refine (S7.out.revoke' 8 aw6 aw7).mono ?_
  rintro e w8 ⟨Ac, pc, rfl, hs⟩
  have S8 := Lib.hid hs
  clear hs
  go_wp2_with fail
  refine (S8.out.place' 1 0 aw8).mono ?_
  rintro e w9 ⟨rfl, hs⟩
  have S9 := Lib.hid hs
  clear hs
  simp only [Hd.val, noHd]
  have S10 := Lib.hid (S9.out.kept (Kept.alloc _ _ (.cells #[.int .i64 0, .int .i64 0, .int .i64 0, .int .i64 0, .int .u8 0] 34)))
  go_wp2_with fail
  refine (S10.out.place' 0 1 aw9).mono ?_
  rintro e w11 ⟨rfl, hs⟩
  have S11 := Lib.hid hs
  clear hs
  simp only [Hd.val]
  have S12 := Lib.hid (S11.out.alloc1 34 #[.int .i64 10, .int .i64 7, .int .i64 3, .int .i64 0, .int .u8 7])
  go_wp2_with fail
  refine (S12.out.revoke' 8 aw10 aw10').mono ?_
  rintro e w13 ⟨Ad, pd, rfl, hs⟩
  have S13 := Lib.hid hs
  clear hs
  go_wp2_with fail
  have k13 := Lib.hid (S13.out.kept (Kept.alloc _ _ (.cells #[.int .i64 8, .int .i64 9] 3)))
  refine (same34 (xs := [8, 9]) (own_reads k13.out.drop.drop.drop.drop.row) (lit2_reads _ 8 9) (by simp)).mono ?_
  rintro e w14 ⟨rfl, hk⟩
  have S14 := Lib.hid (k13.out.kept hk)
  clear hk
  go_wp2_with fail
  have k14 := Lib.hid (S14.out.kept (Kept.alloc _ _ (.cells #[.int .i64 8, .int .i64 9] 3)))
  refine (same34 (xs := [8, 9]) (own_reads k14.out.drop.drop.drop.row) (lit2_reads _ 8 9) (by simp)).mono ?_
  rintro e w15 ⟨rfl, hk⟩
  have S15 := Lib.hid (k14.out.kept hk)
  clear hk
  have bh := S15.out.blk2
  have h0 := bh.cell 0
  have h1 := bh.cell 1
  have h2 := bh.cell 2
  have h3 := bh.cell 3
  have h4 := bh.cell 4
  clear bh
  go_wp2_with fail
  refine (S15.out.close' 3 aw11 aw11').mono ?_
  rintro e w16 ⟨Ae, pe, rfl, hs⟩
  have S16 := Lib.hid hs
  clear hs
  go_wp2_with fail
  have k16 := Lib.hid (S16.out.kept (Kept.alloc _ _ (.cells #[.int .i64 7, .int .i64 10] 3)))
  refine (same34 (xs := [7, 10]) (own_reads k16.out.drop.row) (lit2_reads _ 7 10) (by simp)).mono ?_
  rintro e w17 ⟨rfl, hk⟩
  have S17 := Lib.hid (k16.out.kept hk)
  clear hk
  go_wp2_with fail
  refine S17.out.next.mono ?_
  rintro e w18 ⟨rfl, rfl⟩
  go_wp2
  go_ret
  exact ⟨rfl, S17.out.whole⟩
end Go.Proofs.Ytmndckeohfcgkaa