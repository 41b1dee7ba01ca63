/- circle.Ring. -/
import Derived.Test.YtknfflhmhjfkeaaDoorCircOnB
import Derived.Test.YtknfflhmhjfkeaaDoorCircRing
namespace Go.Proofs.YtknfflhmhjfkeaaDoor
open Go.RowKit Go.Shelf

/-- 's == nil' of a slice of ints -/
@[local go_sem] theorem run_eql_nilI (w : World) (a : Option Addr) (l c : Nat) : (binOp .eql 25 (.slice a l c) (.slice none 0 0)).run Tryd.prog w = .ok (.bool a.isNone) w := by
  simp only [binOp]
  simp [run_equal_slice_nil w 25 3 a l c Tryd.underlying25]

section
variable (N : Int) (A : Option Addr) (len cap : Nat) (es : List E) (w : World)
set_option maxHeartbeats 800000 in
theorem ring_bad (hr : Rd w A len 3 (ps3 .i64 .i64 .i64 es)) (hlen : len ≤ 9223372036854775807) (h : gchk N es ≠ 0) :
    Calls Tryd.prog 5 #[.agg #[.int .i64 N, .slice A len cap]] w fun e w' => e = .returned (.tuple #[.slice none 0 0, .int .i64 (gchk N es)]) ∧ Below w.heap.size w w' := by
  have gb := (Below.refl _ w).alloc (Nat.le_refl _) (.cells #[.int .i64 N, .slice A len cap] 24)
  have g0 : (w.alloc (.cells #[.int .i64 N, .slice A len cap] 24)).cell? ⟨w.heap.size, 0, none⟩ = some (.int .i64 N) := by go_simp
  have g1 : (w.alloc (.cells #[.int .i64 N, .slice A len cap] 24)).cell? ⟨w.heap.size, 1, none⟩ = some (.slice A len cap) := by go_simp
  have HC := Lib.hid (check_any N A len cap es _ (hr.later gb) hlen)
  have hne : (gchk N es != 0) = true := bne_iff_ne.2 h
  generalize gchk N es = z at *
  clear hr h
  go_enter Tryd.func5, Tryd.ntmps5
  go_wp2_with fail
  refine HC.out.mono ?_
  rintro _ w1 ⟨rfl, hb⟩
  go_wp2
  go_ret2
  exact ⟨rfl, gb.trans (hb.mono gb.size)⟩
set_option maxHeartbeats 800000 in
theorem ring_few (hr : Rd w A len 3 (ps3 .i64 .i64 .i64 es)) (hlen : len ≤ 9223372036854775807) (h : gchk N es = 0) (h3 : N < 3) :
    Calls Tryd.prog 5 #[.agg #[.int .i64 N, .slice A len cap]] w fun e w' => e = .returned (.tuple #[.slice none 0 0, .int .i64 5]) ∧ Below w.heap.size w w' := by
  have gb := (Below.refl _ w).alloc (Nat.le_refl _) (.cells #[.int .i64 N, .slice A len cap] 24)
  have g0 : (w.alloc (.cells #[.int .i64 N, .slice A len cap] 24)).cell? ⟨w.heap.size, 0, none⟩ = some (.int .i64 N) := by go_simp
  have g1 : (w.alloc (.cells #[.int .i64 N, .slice A len cap] 24)).cell? ⟨w.heap.size, 1, none⟩ = some (.slice A len cap) := by go_simp
  have HC := Lib.hid (check_any N A len cap es _ (hr.later gb) hlen)
  rw [h] at HC
  clear hr h
  go_enter Tryd.func5, Tryd.ntmps5
  go_wp2_with fail
  refine HC.out.mono ?_
  rintro _ w1 ⟨rfl, hb⟩
  have g2 := below_cell hb (show w.heap.size < _ by simp) g0
  have hbH := Lib.hid (gb.trans (hb.mono gb.size))
  clear hb
  go_wp2
  go_ret2
  exact ⟨rfl, hbH.out⟩
end
set_option maxHeartbeats 1600000 in
set_option maxRecDepth 100000 in
theorem ring_ok (N : Nat) (A : Option Addr) (len cap : Nat) (es : List E) (w : World) (hr : Rd w A len 3 (ps3 .i64 .i64 .i64 es)) (hlen : len ≤ 9223372036854775807) (h : gchk N es = 0) (h3 : 3 ≤ N) (htb : Tb w) (hgw : 0 < w.heap.size) :
    Calls Tryd.prog 5 #[.agg #[.int .i64 N, .slice A len cap]] w fun e w' => Below w.heap.size w w' ∧
      ((∃ A' c R, e = .returned (.tuple #[.slice (some A') N c, .int .i64 0]) ∧ Rd w' (some A') N 1 (ndv R) ∧ N ≤ c ∧ Wy (nearW N es) 0 (but0 N) R) ∨ (e = .returned (.tuple #[.slice none 0 0, .int .i64 5]) ∧ ∀ R, ¬ Wy (nearW N es) 0 (but0 N) R)) := by
  have gr := nearGr h
  obtain ⟨_, h10, hl45, hokE, hall⟩ := gchk_ok h
  rw [Int.toNat_natCast] at hokE
  have hel := ps3_len hr
  have gb := (Below.refl _ w).alloc (Nat.le_refl _) (.cells #[.int .i64 N, .slice A len cap] 24)
  have g0 : (w.alloc (.cells #[.int .i64 N, .slice A len cap] 24)).cell? ⟨w.heap.size, 0, none⟩ = some (.int .i64 N) := by go_simp
  have g1 : (w.alloc (.cells #[.int .i64 N, .slice A len cap] 24)).cell? ⟨w.heap.size, 1, none⟩ = some (.slice A len cap) := by go_simp
  have HC := Lib.hid (check_any N A len cap es _ (hr.later gb) hlen)
  rw [h] at HC
  have HN := Lib.hid (fun W (hb : Below w.heap.size w W) => near_any N A len cap es W (hr.later hb) (by omega) (by omega) hokE)
  have hp10 : 2 ^ N ≤ 2 ^ 10 := Nat.pow_le_pow_right (by omega) (by omega)
  have hpi : ((2 : Int) ^ N) = ((2 ^ N : Nat) : Int) := by simp
  have hE : ((2 : Int) ^ N - 1) % 4294967296 = ((2 ^ N - 1 : Nat) : Int) := by have := Nat.two_pow_pos N; rw [hpi]; omega
  have hEm : ((2 : Int) ^ min N 32 - 1) % 4294967296 = ((2 ^ N - 1 : Nat) : Int) := by rw [Nat.min_eq_left (by omega)]; exact hE
  have hA1 : bits .andNot .u32 ((2 ^ N - 1 : Nat) : Int) 1 = ((but0 N : Nat) : Int) := u32_andNot_nat (2 ^ N - 1) 1 (by have := Nat.two_pow_pos N; omega) (by omega)
  have hb0 := but0_lt (n := N)
  have hlenR := Lib.hid (fun R (hR : Wy (nearW N es) 0 (but0 N) R) => (show R.length = N by simpa using (wy_cy gr.n10 (by omega) hR).1.length_eq))
  have HO := Lib.hid (fun (p B cn : Nat) (A' : Option Addr) W (hgB : 0 < B) (hS : SK (nearW N es) N p B cn A' W []) (ht : Tb W) => on_any (nearW N es) N p B cn A' gr hgB _ 0 (but0 N) rfl (by omega) hb0 [] W hS ht)
  have htbH := Lib.hid htb
  have hE3 : ((2 : Int) ^ N % 4294967296 - 1) % 4294967296 = ((2 ^ N - 1 : Nat) : Int) := by have := Nat.two_pow_pos N; rw [hpi]; omega
  clear hr h hall hokE htb gr hpi hel
  generalize hPN : 2 ^ N - 1 = pn at *
  have hPNH := Lib.hid hPN
  have hp10H := Lib.hid hp10
  clear hPN hp10
  generalize but0 N = x0 at *
  generalize nearW N es = ns at *
  have hb0H := Lib.hid hb0
  clear hb0
  go_enter Tryd.func5, Tryd.ntmps5
  go_wp2_with fail
  refine HC.out.mono ?_
  rintro _ w1 ⟨rfl, hb⟩
  have g2 := below_cell hb (show w.heap.size < _ by simp) g0
  have g3 := below_cell hb (show w.heap.size < _ by simp) g1
  have hbg := gb.trans (hb.mono gb.size)
  have hs1 := hb.size
  simp only [World.size_alloc] at hs1
  have HN1 := Lib.hid (HN.out w1 hbg)
  have hbgH := Lib.hid hbg
  clear HN HC hb g0 g1 gb hbg
  go_wp2_with fail
  refine HN1.out.mono ?_
  rintro _ w2 ⟨g', rfl, hown, hb2⟩
  have hgl := hown.lt g' rfl
  have g4 := below_cell hb2 (show w.heap.size < _ by omega) g2
  have hs2 := hb2.size
  have hrn := Rd.of_own hown
  have hb2' := hbgH.out.trans (hb2.mono hbgH.out.size)
  have hm := isMap_made w2
  have hbm := hb2'.alloc hb2'.size (.map #[] 0)
  have hrm := hrn.alloc (.map #[] 0)
  have bkS := Blk.new (w2.alloc (.map #[] 0)) 44 #[.slice (some ⟨g', 0, none⟩) N N, .map (some w2.heap.size)]
  rw [World.size_alloc] at bkS
  have hmS := isMap_alloc hm (.cells #[.slice (some ⟨g', 0, none⟩) N N, .map (some w2.heap.size)] 44)
  have hbS := hbm.alloc hbm.size (.cells #[.slice (some ⟨g', 0, none⟩) N N, .map (some w2.heap.size)] 44)
  have hrS := hrm.alloc (.cells #[.slice (some ⟨g', 0, none⟩) N N, .map (some w2.heap.size)] 44)
  have hSK : SK ns N (w2.heap.size + 1) w2.heap.size N (some ⟨g', 0, none⟩) _ [] := ⟨bkS, hrS, hmS, fun b o e => by cases e; omega, by omega, fun c hc => by cases hc⟩
  have g5 := alloc_cell (show w.heap.size < (w2.alloc (.map #[] 0)).heap.size by simp; omega) (alloc_cell (show w.heap.size < w2.heap.size by omega) g4 (.map #[] 0)) (.cells #[.slice (some ⟨g', 0, none⟩) N N, .map (some w2.heap.size)] 44)
  have HO2 := Lib.hid (HO.out _ _ _ _ _ (by omega) hSK (htbH.out.below hgw hbS))
  have hbSH := Lib.hid hbS
  have hmm := @run_makeMap Tryd.prog
  have hN0 : (0 : Int) ≤ N := by omega
  have hN32 : (N : Int) < 32 := by omega
  clear HO HN1 hown hb2 hrn hb2' hm hbm hrm bkS hmS hbS hrS hSK g2 g3 g4
  go_wp2_with fail
  refine HO2.out.mono ?_
  rintro e w4 ⟨hg4, ⟨A', c', R, rfl, hR, hRc, hA', hW⟩ | ⟨rfl, hno, _⟩⟩
  · have hRl := hlenR.out R hW
    rw [hRl] at hR hRc
    have hfin : Below w.heap.size w w4 := hbSH.out.grown hg4 (by have := hbSH.out.size; omega) (fun k e => by cases e; omega)
    have hRlH := Lib.hid hRl; have hRH := Lib.hid hR; have hfinH := Lib.hid hfin; have hWH := Lib.hid hW
    clear hRl hR hfin hW hg4
    rw [hRlH.out]
    go_wp2
    go_ret2
    exact ⟨hfinH.out, .inl ⟨A', c', R, rfl, hRH.out, hRc, hWH.out⟩⟩
  · have hfin : Below w.heap.size w w4 := hbSH.out.grown hg4 (by have := hbSH.out.size; omega) (fun k e => by cases e; omega)
    have hfinH := Lib.hid hfin; have hnoH := Lib.hid hno
    clear hfin hno hg4
    go_wp2
    go_ret2
    exact ⟨hfinH.out, .inr ⟨rfl, hnoH.out⟩⟩
end Go.Proofs.YtknfflhmhjfkeaaDoor
