/- crowd.Cover: the walk. -/
import Derived.Test.YtiopngegkpbfhaaCovers
namespace Go.Proofs.Ytiopngegkpbfhaa
open Go.RowKit

theorem cover_bad (N : Int) (A : Option Addr) (len cap : Nat) (es : List E) (w : World) (hr : Rd w A len 3 (ps3 .i64 .i64 .i64 es)) (hlen : len ≤ 9223372036854775807) (hc : gchk N es ≠ 0) :
    Calls Try.prog 13 #[.agg #[.int .i64 N, .slice A len cap]] w (WBad (gchk N es) w) := by
  have hcb : (gchk N es != 0) = true := by simpa using hc
  have HC := Lib.hid (check_any N A len cap es _ (hr.alloc (.cells #[.int .i64 N, .slice A len cap] 24)) hlen)
  clear hr hc
  go_enter Try.func13, Try.ntmps13
  go_wp2_with fail
  refine HC.out.mono ?_
  rintro e w1 ⟨rfl, hb⟩
  go_wp2
  go_ret2
  exact ⟨rfl, ((Below.refl _ _).alloc (Nat.le_refl _) _).trans (hb.mono (by simp))⟩
def CPost (L : List Nat) (N : Nat) (w : World) (e : Ending) (w' : World) : Prop := ∃ b : Nat, e = .returned (.tuple #[.int .u32 (b : Int), .int .i64 0]) ∧ MinCov L N b ∧ Below w.heap.size w w'
set_option maxHeartbeats 1600000 in
theorem cover_ok (N : Nat) (A : Option Addr) (len cap : Nat) (es : List E) (w : World) (hr : Rd w A len 3 (ps3 .i64 .i64 .i64 es)) (hN : N ≤ 10) (hl : len ≤ 45) (hok : ∀ e ∈ es, okE N e) (hc : gchk N es = 0) :
    Calls Try.prog 13 #[.agg #[.int .i64 N, .slice A len cap]] w (CPost (nearW N es) N w) := by
  have HC := Lib.hid (check_any N A len cap es _ (hr.alloc (.cells #[.int .i64 N, .slice A len cap] 24)) (by omega))
  rw [hc] at HC
  have hlt := Lib.hid (nearW_lt hN hok)
  have g0 : (w.alloc (Obj.cells #[Value.int IntKind.i64 (N : Int), Value.slice A len cap] 24)).cell? ⟨w.heap.size, 0, none⟩ = some (.int .i64 N) := by go_simp
  have g1 : (w.alloc (Obj.cells #[Value.int IntKind.i64 (N : Int), Value.slice A len cap] 24)).cell? ⟨w.heap.size, 1, none⟩ = some (.slice A len cap) := by go_simp
  have hrH := Lib.hid hr; have hokH := Lib.hid hok
  have hp0 := two_pow_u32 N (by omega)
  have hstart := Lib.hid (CovTo.start (nearW N es) N)
  have hpos := Nat.two_pow_pos N
  have hle : 2 ^ N ≤ 2 ^ 10 := Nat.pow_le_pow_right (by omega) hN
  obtain ⟨m, hm⟩ : ∃ m, 2 ^ N - 1 = m := ⟨_, rfl⟩
  have hm1 : m ≤ 1023 := by omega
  have hM := Lib.hid (show 2 ^ N = m + 1 by omega)
  have hp : (2 : Int) ^ N % 4294967296 = (m : Int) + 1 := by rw [hp0, hM.out]; rfl
  rw [hm] at hstart
  clear hp0
  clear hr hc hok hpos hle hm
  go_enter Try.func13, Try.ntmps13
  go_wp2_with fail
  refine HC.out.mono ?_
  rintro e w1 ⟨rfl, hb⟩
  have q0 := below_cell hb (by simp) g0
  have q1 := below_cell hb (by simp) g1
  have hbw := ((Below.refl w.heap.size w).alloc (Nat.le_refl _) (.cells #[.int .i64 N, .slice A len cap] 24)).trans (hb.mono (by simp))
  have hS1 : w.heap.size < w1.heap.size := by have := hb.size; simp at this; omega
  have HN := Lib.hid (near_any N A len cap es w1 (hrH.out.later hbw) hN hl hokH.out)
  clear g0 g1 HC hb
  go_wp2_with fail
  refine HN.out.mono ?_
  rintro e w2 ⟨g, rfl, hown, hb2⟩
  have q0 := below_cell hb2 hS1 q0
  have hbw2 := hbw.trans (hb2.mono hbw.size)
  have rd2 := Lib.hid (Rd.of_own hown)
  have hbw2H := Lib.hid hbw2
  clear hown HN hb2 hbw q1 hbw2
  go_wp2
  clear hp
  go_loopw [6, 7, 21] (fun bv _ kv wr => ∃ k b : Nat, k ≤ m + 1 ∧ kv = .int .u32 (k : Int) ∧ bv = .int .u32 (b : Int) ∧ CovTo (nearW N es) N k b ∧ Below w2.heap.size w2 wr) (fun _ _ kv _ => m + 1 - (intOf kv).toNat)
  case atStart => exact ⟨0, m, Nat.zero_le _, rfl, rfl, hstart.out, Below.refl _ _⟩
  case round =>
    clear q0
    obtain ⟨k, b, hk, rfl, rfl, hcov, hb⟩ := hrel
    have hcovH := Lib.hid hcov
    have hbm : b < 1024 := by have := hcov.2.1; rw [hM.out] at this; omega
    clear hcov
    by_cases hlt2 : k < m + 1
    · have hk1 : (k : Int) < (m : Int) + 1 := by omega
      have O1 := fun W => Lib.hid (ones_any k W (by omega))
      have O2 := fun W => Lib.hid (ones_any b W hbm)
      have HV := fun W (h : Below w2.heap.size w2 W) => Lib.hid (covers_any (some ⟨g, 0, none⟩) N N (nearW N es) k W hN hlt.out (by omega) (rd2.out.later h))
      have hstay := Lib.hid hcovH.out.stay
      have htake := Lib.hid (fun a c => hcovH.out.take (by rw [hM.out]; exact hlt2) a c)
      clear hcovH
      generalize popc 10 k = P at *
      generalize popc 10 b = Q at *
      go_wp2_with fail
      refine (O1 _).out.mono ?_
      rintro e w3 ⟨rfl, d, rfl⟩
      go_wp2_with fail
      refine (O2 _).out.mono ?_
      rintro e w3 ⟨rfl, d2, rfl⟩
      have hb4 := below_drewN hb (d + d2)
      by_cases hPQ : (P : Int) < Q
      · have HV2 := HV _ hb4
        cases hcv : coversB (nearW N es) N k
        · rw [hcv] at HV2
          have hz := Lib.hid (hstay.out (by rw [hcv]; simp))
          clear hcv HV
          go_wp2_with fail
          refine HV2.out.mono ?_
          rintro e w5 ⟨rfl, rfl⟩
          go_wp2
          go_roundw
          case rel => exact ⟨k + 1, b, by omega, by go_num, rfl, hz.out, hb4⟩
          case measure => simp [intOf]; omega
        · rw [hcv] at HV2
          have hz := Lib.hid (htake.out (by omega) hcv)
          clear hcv HV
          go_wp2_with fail
          refine HV2.out.mono ?_
          rintro e w5 ⟨rfl, rfl⟩
          go_wp2
          go_roundw
          case rel => exact ⟨k + 1, k, by omega, by go_num, rfl, hz.out, hb4⟩
          case measure => simp [intOf]; omega
      · have hz := Lib.hid (hstay.out (by intro h; omega))
        go_wp2
        go_roundw
        case rel => exact ⟨k + 1, b, by omega, by go_num, rfl, hz.out, hb4⟩
        case measure => simp [intOf]; omega
    · obtain rfl : k = m + 1 := by omega
      have hz := Lib.hid (show MinCov (nearW N es) N b from CovTo.full (by rw [hM.out]; exact hcovH.out))
      go_wp2
      go_ret2
      exact ⟨b, rfl, hz.out, hbw2H.out.trans (hb.mono hbw2H.out.size)⟩
end Go.Proofs.Ytiopngegkpbfhaa
