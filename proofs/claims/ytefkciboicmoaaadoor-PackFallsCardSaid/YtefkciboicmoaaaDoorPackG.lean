/- pack.First, pack.Falling. -/
import Derived.Test.YtefkciboicmoaaaDoorPackFit
import Derived.Test.YtefkciboicmoaaaDoorSort
import Derived.Test.YtefkciboicmoaaaDoorCmp
import Derived.RangeFuncBox
namespace Go.Proofs.YtefkciboicmoaaaDoor
open Go.RowKit

def ListPost (Pr : List Nat → Prop) (zs : List Int) (room : Int) (n : Nat) (w : World) (e : Ending) (w' : World) : Prop :=
  ∃ (g : Nat) (bs : List Int) (F : Nat → Int) (o : List Nat), e = .returned (.tuple #[.slice (some ⟨g, 0, none⟩) n n, .int .i64 0]) ∧ Rd w' (some ⟨g, 0, none⟩) n 1 (row n F) ∧ o.Perm (List.range n) ∧ Pr o ∧ FF (fun i => zs.getD i 0) room o bs F ∧ Below w.heap.size w w'
theorem First_bad (A : Option Addr) (len cap : Nat) (zs : List Int) (room : Int) (w : World) (hr : Rd w A len 1 (ints .i64 zs)) (hl : len ≤ 9223372036854775807) (hbad : pchk zs room ≠ 0) :
    Calls Tryd.prog 6 #[.slice A len cap, .int .i64 room] w fun e w' => e = .returned (.tuple #[.slice none 0 0, .int .i64 (pchk zs room)]) ∧ Below w.heap.size w w' := by
  have HW := Lib.hid (wrong_any A len cap zs room w hr hl)
  have hb : (pchk zs room != 0) = true := bne_iff_ne.2 hbad
  clear hr hbad
  generalize pchk zs room = c at *
  go_enter Tryd.func6, Tryd.ntmps6
  go_wp2_with fail
  refine HW.out.mono ?_
  rintro e w1 ⟨rfl, hb1⟩
  go_wp2
  go_ret2
  exact ⟨rfl, hb1⟩
theorem First_ok (A : Option Addr) (n cap : Nat) (zs : List Int) (room : Int) (w : World) (hr : Rd w A n 1 (ints .i64 zs)) (hok : pchk zs room = 0) :
    Calls Tryd.prog 6 #[.slice A n cap, .int .i64 room] w (ListPost (fun _ => True) zs room n w) := by
  have hel : zs.length = n := by simpa [ints] using hr.1
  obtain ⟨h8, hr1, hr2, hz⟩ := pchk_ok hok
  rw [hel] at h8
  have HW := Lib.hid (wrong_any A n cap zs room w hr (by omega))
  rw [hok] at HW
  have hrH := Lib.hid hr; have hzH := Lib.hid hz
  clear hr hok hel hz
  unfold ListPost
  go_enter Tryd.func6, Tryd.ntmps6
  go_wp2_with fail
  refine HW.out.mono ?_
  rintro e w1 ⟨rfl, hb1⟩
  have hb1H := Lib.hid hb1
  clear hb1 HW
  go_wp2_with fail
  refine (places_any A n cap w1 (by omega)).mono ?_
  rintro e w2 ⟨⟨v, rfl, hown⟩, hb2⟩
  obtain ⟨Aq, cq, rfl⟩ := own_slice hown
  have hbw2 := hb1H.out.trans (hb2.mono hb1H.out.size)
  have HG := Lib.hid (first_any A n cap zs room Aq cq (List.range n) w2 (hrH.out.later hbw2) h8 ⟨hr1, hr2⟩ hzH.out (Rd.of_own hown) (List.Perm.refl _))
  have hbw2H := Lib.hid hbw2
  clear hown hb2 hbw2
  go_wp2_with fail
  refine HG.out.mono ?_
  rintro e w4 ⟨g, bs, F, rfl, hL, hrun, hb4⟩
  have hLH := Lib.hid hL; have hrunH := Lib.hid hrun; have hb4H := Lib.hid (hbw2H.out.trans (hb4.mono hbw2H.out.size))
  clear hL hrun hb4 HG
  go_wp2
  go_ret2
  exact ⟨g, bs, F, _, rfl, hLH.out, List.Perm.refl _, trivial, hrunH.out, hb4H.out⟩
theorem entF2 (args : Array Value) (w : World) : (callFunc 20 args).run Tryd.prog w = .ok (.enter 20 args) w := by go_simp
theorem cmpF_any (bx : Nat) (A : Option Addr) (len cap : Nat) (zs : List Int) (i j : Nat) (w : World) (hb : w.cell? ⟨bx, 0, none⟩ = some (.slice A len cap)) (hr : Rd w A len 1 (ints .i64 zs)) (hi : i < len) (hj : j < len) :
    Calls Tryd.prog 20 #[.int .i64 (i : Int), .int .i64 (j : Int), .pointer (some ⟨bx, 0, none⟩)] w fun e w' => e = .returned (.int .i64 (cmpI (zs.getD j 0) (zs.getD i 0))) ∧ ∃ m, w' = w.drewN m := by
  obtain ⟨b, o, rfl, hab, hci⟩ := hr.int hi
  obtain ⟨_, _, hA, _, hcj⟩ := hr.int hj
  cases hA
  clear hr
  have HC := Lib.hid (fun W => cmp64_any (zs.getD j 0) (zs.getD i 0) W)
  generalize cmpI (zs.getD j 0) (zs.getD i 0) = c at *
  generalize zs.getD j 0 = x at *
  generalize zs.getD i 0 = y at *
  go_enter Tryd.func20, Tryd.ntmps20
  go_wp2
  go_quiet ((go_at_call 17; first | (with_reducible exact quiet_add_left (HC.out _)) | (with_reducible exact quiet_left (HC.out _))))
  go_wp2
  go_ret
  exact ⟨rfl, _, rfl⟩
theorem Falling_bad (A : Option Addr) (len cap : Nat) (zs : List Int) (room : Int) (w : World) (hr : Rd w A len 1 (ints .i64 zs)) (hl : len ≤ 9223372036854775807) (hbad : pchk zs room ≠ 0) :
    Calls Tryd.prog 10 #[.slice A len cap, .int .i64 room] w fun e w' => e = .returned (.tuple #[.slice none 0 0, .int .i64 (pchk zs room)]) ∧ Below w.heap.size w w' := by
  have gb := (Below.refl _ w).alloc (Nat.le_refl _) (.cells #[.slice A len cap] 22)
  have HW := Lib.hid (wrong_any A len cap zs room _ (hr.later gb) hl)
  have hb : (pchk zs room != 0) = true := bne_iff_ne.2 hbad
  have hs0 : (w.alloc (.cells #[.slice A len cap] 22)).heap.size = w.heap.size + 1 := by simp
  clear hr hbad
  generalize pchk zs room = c at *
  go_enter Tryd.func10, Tryd.ntmps10
  go_wp2_with fail
  generalize w.alloc (.cells #[.slice A len cap] 22) = wg at *
  refine HW.out.mono ?_
  rintro e w1 ⟨rfl, hb1⟩
  have hbw := gb.trans (hb1.mono (by omega))
  go_wp2
  go_ret2
  exact ⟨rfl, hbw⟩
theorem row_natI {y : List Nat} {n : Nat} (hl : y.length = n) : ints .i64 (natI y) = row n fun i => (y.getD i 0 : Int) := by
  subst hl
  apply List.ext_getElem?
  intro i
  by_cases hi : i < y.length
  · simp [ints, natI, row, List.getD, hi]
  · rw [List.getElem?_eq_none (by simp [ints, natI]; omega), List.getElem?_eq_none (by simp [row]; omega)]
theorem pair_of {t : Nat → Int} {y : List Nat} {n : Nat} (hl : y.length = n) (h : SrI t y n) : y.Pairwise (fun a b => t b ≤ t a) :=
  List.pairwise_iff_getElem.2 fun i j hi hj hij => by
    have := h i j hij (by omega)
    simpa [List.getD, hi, hj] using this
set_option maxHeartbeats 1600000 in
theorem Falling_ok (A : Option Addr) (n cap : Nat) (zs : List Int) (room : Int) (w : World) (hr : Rd w A n 1 (ints .i64 zs)) (hok : pchk zs room = 0) :
    Calls Tryd.prog 10 #[.slice A n cap, .int .i64 room] w (ListPost (fun o => o.Pairwise fun a b => zs.getD b 0 ≤ zs.getD a 0) zs room n w) := by
  have hel : zs.length = n := by simpa [ints] using hr.1
  obtain ⟨h8, hr1, hr2, hz⟩ := pchk_ok hok
  rw [hel] at h8
  have gb := (Below.refl _ w).alloc (Nat.le_refl _) (.cells #[.slice A n cap] 22)
  have bx := Boxed.new w 22 (.slice A n cap)
  have HW := Lib.hid (wrong_any A n cap zs room _ (hr.later gb) (by omega))
  rw [hok] at HW
  have hrH := Lib.hid hr; have hzH := Lib.hid hz; have helH := Lib.hid hel
  have hs0 : (w.alloc (.cells #[.slice A n cap] 22)).heap.size = w.heap.size + 1 := by simp
  clear hr hok hz hel
  unfold ListPost
  go_enter Tryd.func10, Tryd.ntmps10
  go_wp2_with fail
  generalize w.alloc (.cells #[.slice A n cap] 22) = wg at *
  refine HW.out.mono ?_
  rintro e w1 ⟨rfl, hb1⟩
  have bx1 : Boxed w1 w.heap.size 22 (.slice A n cap) := (hb1.block _ bx.lt).trans bx
  have cx1 := bx1.cell
  have hs1 := hb1.size
  have hbw1 := gb.trans (hb1.mono (by omega))
  clear HW gb bx hb1
  go_wp2_with fail
  refine (places_any A n cap w1 (by omega)).mono ?_
  rintro e w2 ⟨⟨v, rfl, hown⟩, hb2⟩
  obtain ⟨Aq, cq, rfl⟩ := own_slice hown
  have hbw2 := hbw1.trans (hb2.mono hbw1.size)
  have bx2 : Boxed w2 w.heap.size 22 (.slice A n cap) := (hb2.block _ bx1.lt).trans bx1
  have hcmp : CmpOk Tryd.prog 20 #[.pointer (some ⟨w.heap.size, 0, none⟩)] (fun i j => cmpI (zs.getD j 0) (zs.getD i 0)) (fun i => zs.getD i 0) n w1.heap.size w2 :=
    ⟨fun x y W hx hy hB => cmpF_any w.heap.size A n cap zs x y W ((hB.cell (p := ⟨w.heap.size, 0, none⟩) bx1.lt).trans bx2.cell) (hrH.out.later (hbw2.trans (hB.mono hbw1.size))) hx hy, fun x y => cmpI_neg⟩
  have HS := Lib.hid (sort_any 20 #[.pointer (some ⟨w.heap.size, 0, none⟩)] _ (fun i => zs.getD i 0) Aq n cq w1.heap.size (List.range n) w2 hown (List.Perm.refl _) (by omega) entF2 hcmp)
  have hbw2H := Lib.hid hbw2; have bx2H := Lib.hid bx2
  have cx2 := bx2.cell
  have hs2 := hb2.size
  clear hown hcmp hb2 hbw2 hbw1 bx1 bx2 cx1
  go_wp2_with fail
  refine HS.out.mono ?_
  rintro e w3 ⟨rfl, y, hp, hS, hown, hb3⟩
  have hyl : y.length = n := by simpa using hp.length_eq
  have hbw3 := hbw2H.out.trans (hb3.mono (by have := bx2H.out.lt; omega))
  have cx3 : w3.cell? ⟨w.heap.size, 0, none⟩ = some (.slice A n cap) := (hb3.cell (p := ⟨w.heap.size, 0, none⟩) (show w.heap.size < w1.heap.size by omega)).trans cx2
  have HG := Lib.hid (first_any A n cap zs room Aq cq y w3 (hrH.out.later hbw3) h8 ⟨hr1, hr2⟩ hzH.out (Rd.of_own hown) hp)
  have hbbH := Lib.hid hbw3; have hpH := Lib.hid hp; have hpwH := Lib.hid (pair_of hyl hS)
  clear hown hb3 hbw3 HS hp hS cx2
  go_wp2_with fail
  refine HG.out.mono ?_
  rintro e w4 ⟨g, bs, F, rfl, hL, hrun, hb4⟩
  have hLH := Lib.hid hL; have hrunH := Lib.hid hrun; have hb4H := Lib.hid (hbbH.out.trans (hb4.mono hbbH.out.size))
  clear hL hrun hb4 HG
  go_wp2
  go_ret2
  exact ⟨g, bs, F, y, rfl, hLH.out, hpH.out, hpwH.out, hrunH.out, hb4H.out⟩
theorem row_ints (n : Nat) (F : Nat → Int) : row n F = ints .i64 ((List.range n).map F) := by simp [row, ints]
end Go.Proofs.YtefkciboicmoaaaDoor
