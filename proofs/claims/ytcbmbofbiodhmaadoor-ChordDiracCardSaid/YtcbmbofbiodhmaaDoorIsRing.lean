/- teamsterref.IsRing: of a ring it says that it is one. -/
import Derived.Test.YtcbmbofbiodhmaaDoorHas
import Derived.Test.YtcbmbofbiodhmaaDoorBel
import Derived.Test.YtcbmbofbiodhmaaDoorRefNearA
namespace Go.Proofs.YtcbmbofbiodhmaaDoor
open Go.RowKit

/-- a ring -/
structure RingZ (N : Nat) (es : List E) (zs : List Int) : Prop where
  at_ : ∀ k, k < zs.length → ∃ x y : Nat, zs.getD k 0 = x ∧ zs.getD ((k + 1) % zs.length) 0 = y ∧ x < N ∧ hasB (zs.take k) (zs.getD k 0) = false ∧ adj es x y = true
  l3 : 3 ≤ zs.length
set_option maxHeartbeats 1600000 in
set_option maxRecDepth 100000 in
theorem isRing_ok (N : Nat) (A : Option Addr) (len cap : Nat) (es : List E) (A2 : Option Addr) (len2 cap2 : Nat) (zs : List Int) (w : World) (hr : Rd w A len 3 (ps3 .i64 .i64 .i64 es)) (hr2 : Rd w A2 len2 1 (ints .i64 zs)) (hl : len ≤ 45) (hl2 : len2 ≤ 1000000) (hc2 : len2 ≤ cap2) (hok : ∀ e ∈ es, okE N e) (hR : RingZ N es zs) :
    Calls Tryd.prog 7 #[.agg #[.int .i64 N, .slice A len cap], .slice A2 len2 cap2] w fun e w' => e = .returned (.bool true) ∧ Below w.heap.size w w' := by
  have hel2 : zs.length = len2 := by simpa [ints] using hr2.1
  have gb := (Below.refl _ w).alloc (Nat.le_refl _) (.cells #[.int .i64 N, .slice A len cap] 24)
  have g0 : (w.alloc (.cells #[.int .i64 N, .slice A len cap] 24)).cell? ⟨w.heap.size, 0, none⟩ = some (.int .i64 N) := by go_simp
  have g1 : (w.alloc (.cells #[.int .i64 N, .slice A len cap] 24)).cell? ⟨w.heap.size, 1, none⟩ = some (.slice A len cap) := by go_simp
  have gs : (w.alloc (.cells #[.int .i64 N, .slice A len cap] 24)).heap.size = w.heap.size + 1 := by simp
  have hat := hR.at_
  have h3 := hR.l3
  rw [hel2] at hat h3
  have hrH := Lib.hid (hr.later gb); have hr2H := Lib.hid (hr2.later gb); have hokH := Lib.hid hok; have hatH := Lib.hid hat; have gbH := Lib.hid gb; have hel2H := Lib.hid hel2
  clear hr hr2 hok hR hat gb hel2
  go_enter Tryd.func7, Tryd.ntmps7
  go_wp2
  generalize w.alloc (.cells #[.int .i64 N, .slice A len cap] 24) = wg at *
  have g0l : w.heap.size < wg.heap.size := by omega
  have g0H := Lib.hid g0; have g1H := Lib.hid g1
  clear g0 g1
  go_loopw [4, 5] (fun r q wr => ∃ k : Nat, k ≤ len2 ∧ q = .int .i64 k ∧ r = .bool false ∧ Below wg.heap.size wg wr) (fun _ q _ => len2 - (intOf q).toNat)
  case atStart => exact ⟨0, Nat.zero_le _, rfl, rfl, Below.refl _ _⟩
  case round =>
    obtain ⟨k, hk, rfl, rfl, hb⟩ := hrel
    obtain ⟨wo, rfl⟩ : ∃ wo : World, wo = wr := ⟨_, rfl⟩
    by_cases hlt : k < len2
    · obtain ⟨x, y, hx, hy, hxN, hh, ha⟩ := hatH.out k hlt
      have hm := Nat.mod_lt (k + 1) (show 0 < len2 by omega)
      have htm : Int.tmod ((k : Int) + 1) (len2 : Int) = (((k + 1) % len2 : Nat) : Int) := by rw [Int.tmod_eq_emod_of_nonneg (by omega)]; simp
      have htm2 : Int.tmod (((k + 1 : Nat) : Int)) (len2 : Int) = (((k + 1) % len2 : Nat) : Int) := by rw [Int.tmod_eq_emod_of_nonneg (by omega)]; simp
      have hr2W := hr2H.out.later hb
      obtain ⟨b2, o2, hA2, hbl, ck⟩ := hr2W.int hlt
      obtain ⟨_, _, hA2', _, cm⟩ := hr2W.int hm
      rw [hA2] at hA2'
      cases hA2'
      rw [hx] at ck hh
      rw [hy] at cm
      have hrt := hr2W.part (k := k) (by omega)
      subst hA2
      generalize (k + 1) % len2 = m at *
      have hk0 : (0 : Int) ≤ k := by omega
      have hkn : (k : Int) < len2 := by omega
      have hm0 : (0 : Int) ≤ m := by omega
      have hmn : (m : Int) < len2 := by omega
      have hl0 : ((len2 : Int) == 0) = false := by simp; omega
      have hxN' : (x : Int) < N := by omega
      have hx0 : ¬ (x : Int) < 0 := by omega
      have hdx : decide (N ≤ x) = false := decide_eq_false (by omega)
      have hdm : decide (m < len2) = true := decide_eq_true (by omega)
      have g0w := below_cell hb g0l g0H.out
      have g1w := below_cell hb g0l g1H.out
      have HH := Lib.hid (fun (p : BW wo) => has_any x (some ⟨b2, o2, none⟩) k cap2 (zs.take k) p.w' (hrt.later p.hb) (by omega))
      rw [hh] at HH
      have HNr := Lib.hid (fun (p : BW wo) => refNear_any N x y A len cap es p.w' ((hrH.out.later hb).later p.hb) hl hokH.out)
      rw [ha] at HNr
      have x0 := BW.cell (w := wo) g0w; have x1 := BW.cell (w := wo) g1w; have xk := BW.cell (w := wo) ck; have xm := BW.cell (w := wo) cm
      have hbH := Lib.hid hb
      clear hrt hr2W hh ha hb
      go_upto_region 4 with fail
      refine wp_region_below (by kernel_rfl) (by kernel_rfl) ?_
      repeat (go_big_quiet_step (first | rfl | (with_reducible refine Calls.bel0 (HH.out _)) | (with_reducible refine Calls.bel (HNr.out _))))
      refine wpQuiet_nil ?_
      rintro _ ⟨p, rfl⟩
      have hfin := Lib.hid (hbH.out.trans (p.hb.mono hbH.out.size))
      clear x0 x1 xk xm ck cm g0w g1w HH HNr
      go_wp2
      go_roundw
      case rel => exact ⟨k + 1, by omega, by go_num, rfl, hfin.out⟩
      case measure => simp [intOf]; omega
    · obtain rfl : k = len2 := by omega
      have h3' : (3 : Int) ≤ k := by omega
      have hfin := Lib.hid (gbH.out.trans (hb.mono (by omega)))
      clear hb
      go_wp2
      go_ret
      exact ⟨rfl, hfin.out⟩
end Go.Proofs.YtcbmbofbiodhmaaDoor
