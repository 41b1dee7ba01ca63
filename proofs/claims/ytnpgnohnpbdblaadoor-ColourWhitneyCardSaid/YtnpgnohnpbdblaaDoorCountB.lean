/- colour.Count. -/
import Derived.Test.YtnpgnohnpbdblaaDoorCount
import Derived.Test.YtnpgnohnpbdblaaDoorPaintB
namespace Go.Proofs.YtnpgnohnpbdblaaDoor
open Go.RowKit Go.Shelf

theorem count_bad (N k : Int) (A : Option Addr) (len cap : Nat) (es : List E) (w : World) (hr : Rd w A len 3 (ps3 .i64 .i64 .i64 es)) (hlen : len ≤ 9223372036854775807) (hbad : (gchk N es == 0) = false) :
    Calls Tryd.prog 24 #[.agg #[.int .i64 N, .slice A len cap], .int .i64 k] w fun e w' => ∃ z, e = .returned (.tuple #[.int .i64 0, .int .i64 z]) ∧ (z != 0) = true ∧ Below w.heap.size w w' := by
  have gb := ((Below.refl _ w).alloc (Nat.le_refl _) (.cells #[.int .i64 N, .slice A len cap] 24)).alloc (by simp) (.cells #[.int .i64 k] 3)
  have HC := Lib.hid (check_any N A len cap es _ (hr.later gb) hlen)
  have hne : (gchk N es != 0) = true := by simpa using hbad
  clear hr hbad
  generalize gchk N es = z at *
  go_enter Tryd.func24, Tryd.ntmps24
  go_wp2_with fail
  refine HC.out.mono ?_
  rintro _ w1 ⟨rfl, hb1⟩
  go_wp2
  go_ret2
  exact ⟨z, rfl, hne, gb.trans (hb1.mono (by simp; omega))⟩
theorem count_range (N k : Int) (A : Option Addr) (len cap : Nat) (es : List E) (w : World) (hr : Rd w A len 3 (ps3 .i64 .i64 .i64 es)) (hlen : len ≤ 9223372036854775807) (hok : gchk N es = 0) (hk : k < 0 ∨ 12 < k) :
    Calls Tryd.prog 24 #[.agg #[.int .i64 N, .slice A len cap], .int .i64 k] w fun e w' => e = .returned (.tuple #[.int .i64 0, .int .i64 4]) ∧ Below w.heap.size w w' := by
  have gb := ((Below.refl _ w).alloc (Nat.le_refl _) (.cells #[.int .i64 N, .slice A len cap] 24)).alloc (by simp) (.cells #[.int .i64 k] 3)
  have bk := Boxed.new (w.alloc (.cells #[.int .i64 N, .slice A len cap] 24)) 3 (.int .i64 k)
  rw [World.size_alloc] at bk
  have HC := Lib.hid (check_any N A len cap es _ (hr.later gb) hlen)
  rw [hok] at HC
  clear hr hok
  by_cases h0 : k < 0
  · go_enter Tryd.func24, Tryd.ntmps24
    go_wp2_with fail
    refine HC.out.mono ?_
    rintro _ w1 ⟨rfl, hb1⟩
    have ck := Boxed.cell ((hb1.block _ bk.lt).trans bk)
    go_wp2
    go_ret2
    exact ⟨rfl, gb.trans (hb1.mono (by simp; omega))⟩
  · have h1 : 12 < k := by omega
    clear hk
    go_enter Tryd.func24, Tryd.ntmps24
    go_wp2_with fail
    refine HC.out.mono ?_
    rintro _ w1 ⟨rfl, hb1⟩
    have ck := Boxed.cell ((hb1.block _ bk.lt).trans bk)
    go_wp2
    go_ret2
    exact ⟨rfl, gb.trans (hb1.mono (by simp; omega))⟩
set_option maxHeartbeats 1600000 in
theorem count_ok (N k : Nat) (A : Option Addr) (len cap : Nat) (es : List E) (w : World) (hr : Rd w A len 3 (ps3 .i64 .i64 .i64 es)) (hl : len ≤ 45) (hok : gchk N es = 0) (hk : k ≤ 12) (htb : Tb w) (hg : 0 < w.heap.size) :
    Calls Tryd.prog 24 #[.agg #[.int .i64 N, .slice A len cap], .int .i64 k] w fun e w' => e = .returned (.tuple #[.int .i64 (Cnt (nearW N es) k N 0 (fun _ => -1) : Nat), .int .i64 0]) ∧ Below w.heap.size w w' := by
  obtain ⟨_, h10, _, hokE, _⟩ := gchk_ok hok
  rw [Int.toNat_natCast] at hokE
  have hN : N ≤ 10 := by omega
  have g := nearGr hok
  have gb := ((Below.refl _ w).alloc (Nat.le_refl _) (.cells #[.int .i64 N, .slice A len cap] 24)).alloc (by simp) (.cells #[.int .i64 k] 3)
  have g0 : ((w.alloc (.cells #[.int .i64 N, .slice A len cap] 24)).alloc (.cells #[.int .i64 k] 3)).cell? ⟨w.heap.size, 0, none⟩ = some (.int .i64 N) := cell_allocx (by simp) (by go_simp)
  have g1 : ((w.alloc (.cells #[.int .i64 N, .slice A len cap] 24)).alloc (.cells #[.int .i64 k] 3)).cell? ⟨w.heap.size, 1, none⟩ = some (.slice A len cap) := cell_allocx (by simp) (by go_simp)
  have bk := Boxed.new (w.alloc (.cells #[.int .i64 N, .slice A len cap] 24)) 3 (.int .i64 k)
  rw [World.size_alloc] at bk
  have gs : ((w.alloc (.cells #[.int .i64 N, .slice A len cap] 24)).alloc (.cells #[.int .i64 k] 3)).heap.size = w.heap.size + 2 := by simp
  have HC := Lib.hid (check_any N A len cap es _ (hr.later gb) (by omega))
  rw [hok] at HC
  have HF := Lib.hid (fun W (h : Below w.heap.size w W) => fresh_any N A len cap es W (hr.later h) hN hl hokE)
  have htbH := Lib.hid htb
  clear hr hok hokE htb
  go_enter Tryd.func24, Tryd.ntmps24
  go_wp2_with fail
  generalize (w.alloc (.cells #[.int .i64 N, .slice A len cap] 24)).alloc (.cells #[.int .i64 k] 3) = wg at *
  refine HC.out.mono ?_
  rintro _ w1 ⟨rfl, hb1⟩
  have q0 := below_cell hb1 (by omega) g0
  have q1 := below_cell hb1 (by omega) g1
  have bk1 : Boxed w1 (w.heap.size + 1) 3 (.int .i64 k) := (hb1.block _ bk.lt).trans bk
  have ck := bk1.cell
  have hs1 := hb1.size
  have hbw := gb.trans (hb1.mono (by omega))
  have HF1 := Lib.hid (HF.out w1 hbw)
  clear g0 g1 gb hb1 HF HC
  go_wp2_with fail
  refine HF1.out.mono ?_
  rintro _ w2 ⟨p, ga, gl, rfl, hP, hb2⟩
  have q0 := below_cell hb2 (by omega) q0
  have bk2 : Boxed w2 (w.heap.size + 1) 3 (.int .i64 k) := (hb2.block _ bk1.lt).trans bk1
  have hs2 := hb2.size
  have hbw2 := hbw.trans (hb2.mono (by omega))
  have hglt := hP.gl_lt; have hplt := hP.lt; have hgalt := hP.ga_lt
  have hPH := Lib.hid hP; have hbw2H := Lib.hid hbw2
  have bk2H := Lib.hid bk2
  clear hP hb2 hbw2 hbw bk1 ck bk HF1 bk2
  have hbX : Below w2.heap.size w2 ((w2.alloc (.cells #[.pointer (some ⟨p, 0, none⟩)] 63)).alloc (.cells #[cntV w.heap.size w2.heap.size (w.heap.size + 1) (w2.heap.size + 1)] 73)) := ((Below.refl _ w2).alloc (Nat.le_refl _) _).alloc (by simp) _
  have x1 := (Boxed.new w2 63 (.pointer (some ⟨p, 0, none⟩))).alloc (.cells #[cntV w.heap.size w2.heap.size (w.heap.size + 1) (w2.heap.size + 1)] 73)
  have x2 := Boxed.new (w2.alloc (.cells #[.pointer (some ⟨p, 0, none⟩)] 63)) 73 (cntV w.heap.size w2.heap.size (w.heap.size + 1) (w2.heap.size + 1))
  rw [World.size_alloc] at x2
  have hEV : EV N k p w.heap.size w2.heap.size (w.heap.size + 1) (w2.heap.size + 1) ((w2.alloc (.cells #[.pointer (some ⟨p, 0, none⟩)] 63)).alloc (.cells #[cntV w.heap.size w2.heap.size (w.heap.size + 1) (w2.heap.size + 1)] 73)) :=
    ⟨below_cell hbX (by omega) q0, x1.cell, below_cell hbX (by omega) bk2H.out.cell, x2.cell⟩
  have hbT := hbw2H.out.trans (hbX.mono (by omega))
  have HCt := Lib.hid (count_any w1.heap.size N (nearW N es) p ga gl k w.heap.size w2.heap.size (w.heap.size + 1) (w2.heap.size + 1) g hk ⟨by omega, by omega, by omega, by omega⟩ (by omega) N 0 0 (by omega) (Nat.le_refl _) _ (fun _ => -1) (hPH.out.later hbX) hEV (htbH.out.below hg hbT) (by have := hbX.size; omega) ⟨Nat.zero_le _, fun j hj => absurd hj (by omega), fun _ _ => rfl⟩)
  have hbTH := Lib.hid hbT
  unfold cntV at HCt hbTH
  clear hEV x1 x2 hbX hbT
  generalize Cnt (nearW N es) k N 0 (fun _ => -1) = R at *
  go_wp2_with fail
  refine HCt.out.mono ?_
  rintro _ w4 ⟨he4, hg4, _⟩
  subst he4
  have hb4 := hbTH.out.grown hg4 (by have := hbTH.out.size; omega) (fun k e => by cases e; omega)
  go_wp2
  go_ret2
  exact ⟨rfl, hb4⟩
end Go.Proofs.YtnpgnohnpbdblaaDoor
