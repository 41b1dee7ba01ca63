/- CrowdRamsey: the walk. -/
import Derived.Test.YtiopngegkpbfhaaMost
import Derived.Test.YtiopngegkpbfhaaRefNear
import Derived.Test.YtiopngegkpbfhaaRamseyLaw
namespace Go.Proofs.Ytiopngegkpbfhaa
open Go.RowKit

theorem cl_nonzero {L : List Nat} {n b : Nat} (h0 : 0 < n) (hm : MaxCl L n b) : b ≠ 0 := by
  intro hb
  have h1 : (1 : Nat) < 2 ^ n := Nat.one_lt_two_pow (by omega)
  have h2 := hm.2.2 1 h1 (fun i j hj hi hjs => by
    rw [show (1 : Nat) = 2 ^ 0 from rfl, tb_pow] at hi hjs
    simp at hi hjs
    omega)
  subst hb
  have h3 : popc 10 1 = 1 := by decide
  rw [h3, popc_zero] at h2
  omega
theorem ramsey_bad (N : Int) (A : Option Addr) (len cap : Nat) (es : List E) (w : World) (hr : Rd w A len 3 (ps3 .i64 .i64 .i64 es)) (hlen : len ≤ 9223372036854775807) (hcap : len ≤ cap) (hc : gchk N es ≠ 0) :
    Calls Try.prog 5 #[.agg #[.int .i64 N, .slice A len cap]] w fun e w' => e = .returned (.bool true) ∧ Below w.heap.size w w' := by
  have hcb : (gchk N es != 0) = true := by simpa using hc
  have hce : (gchk N es == 0) = false := by simpa using hc
  have HA := Lib.hid (most_bad N A len cap es _ (hr.alloc (.cells #[.int .i64 N, .slice A len cap] 24)) hlen hc)
  have HC := Lib.hid (fun W hW => apart_bad N A len cap es W (hr.later hW) hlen hc)
  have g0 : (w.alloc (Obj.cells #[Value.int IntKind.i64 N, Value.slice A len cap] 24)).cell? ⟨w.heap.size, 0, none⟩ = some (.int .i64 N) := by go_simp
  have g1 : (w.alloc (Obj.cells #[Value.int IntKind.i64 N, Value.slice A len cap] 24)).cell? ⟨w.heap.size, 1, none⟩ = some (.slice A len cap) := by go_simp
  have hrH := Lib.hid hr; have hceH := Lib.hid hce; have hcbH := Lib.hid hcb
  clear hr hc hce hcb
  go_enter Try.func5, Try.ntmps5
  go_wp2_with fail
  refine HA.out.mono ?_
  rintro e w1 ⟨rfl, hb⟩
  have q0 := below_cell hb (by simp) g0
  have q1 := below_cell hb (by simp) g1
  have hbw := ((Below.refl w.heap.size w).alloc (Nat.le_refl _) (.cells #[.int .i64 N, .slice A len cap] 24)).trans (hb.mono (by simp))
  have hS1 : w.heap.size < w1.heap.size := by have := hb.size; simp at this; omega
  clear g0 g1 hb
  go_wp2_with fail
  refine (HC.out w1 hbw).mono ?_
  rintro e w2 ⟨rfl, hb2⟩
  have q0 := below_cell hb2 hS1 q0
  have q1 := below_cell hb2 hS1 q1
  have hbw2 := hbw.trans (hb2.mono hbw.size)
  have HG := Lib.hid (good_any N A len cap es w2 (hrH.out.later hbw2) hlen hcap)
  rw [hceH.out] at HG
  have hcb := hcbH.out
  clear hb2 hbw
  go_wp2_with fail
  refine HG.out.mono ?_
  rintro e w3 ⟨rfl, hb3⟩
  go_wp2
  go_ret
  exact ⟨rfl, hbw2.trans (hb3.mono hbw2.size)⟩
set_option maxHeartbeats 3200000 in
theorem ramsey_ok (N : Nat) (A : Option Addr) (len cap : Nat) (es : List E) (w : World) (hr : Rd w A len 3 (ps3 .i64 .i64 .i64 es)) (hN : N ≤ 10) (hl : len ≤ 45) (hcap : len ≤ cap) (hok : ∀ e ∈ es, okE N e) (hc : gchk N es = 0) :
    Calls Try.prog 5 #[.agg #[.int .i64 N, .slice A len cap]] w fun e w' => e = .returned (.bool true) ∧ Below w.heap.size w w' := by
  have hce : (gchk N es == 0) = true := by simpa using hc
  have HA := Lib.hid (most_ok N A len cap es _ (hr.alloc (.cells #[.int .i64 N, .slice A len cap] 24)) hN hl hok hc)
  have HC := Lib.hid (fun W hW => apart_ok N A len cap es W (hr.later hW) hN hl hok hc)
  have g0 : (w.alloc (Obj.cells #[Value.int IntKind.i64 (N : Int), Value.slice A len cap] 24)).cell? ⟨w.heap.size, 0, none⟩ = some (.int .i64 N) := by go_simp
  have g1 : (w.alloc (Obj.cells #[Value.int IntKind.i64 (N : Int), Value.slice A len cap] 24)).cell? ⟨w.heap.size, 1, none⟩ = some (.slice A len cap) := by go_simp
  have hrH := Lib.hid hr; have hceH := Lib.hid hce; have hokH := Lib.hid hok
  clear hr hc hce hok
  go_enter Try.func5, Try.ntmps5
  go_wp2_with fail
  refine HA.out.mono ?_
  rintro e w1 ⟨x, rfl, hx1024, hmx, hb⟩
  have q0 := below_cell hb (by simp) g0
  have q1 := below_cell hb (by simp) g1
  have hbw := ((Below.refl w.heap.size w).alloc (Nat.le_refl _) (.cells #[.int .i64 N, .slice A len cap] 24)).trans (hb.mono (by simp))
  have hS1 : w.heap.size < w1.heap.size := by have := hb.size; simp at this; omega
  have hmxH := Lib.hid hmx
  clear g0 g1 hb hmx
  go_wp2_with fail
  refine (HC.out w1 hbw).mono ?_
  rintro e w2 ⟨y, rfl, hy1024, hmy, hb2⟩
  have q0 := below_cell hb2 hS1 q0
  have q1 := below_cell hb2 hS1 q1
  have hS2 : w.heap.size < w2.heap.size := by have := hb2.size; omega
  have hbw2 := hbw.trans (hb2.mono hbw.size)
  have hmyH := Lib.hid hmy
  have HG := Lib.hid (good_any N A len cap es w2 (hrH.out.later hbw2) (by omega) hcap)
  rw [hceH.out] at HG
  clear hb2 hbw hmy
  go_wp2_with fail
  refine HG.out.mono ?_
  rintro e w3 ⟨rfl, hb3⟩
  have q0 := below_cell hb3 hS2 q0
  have q1 := below_cell hb3 hS2 q1
  have hS3 : w.heap.size < w3.heap.size := by have := hb3.size; omega
  have hbw3 := hbw2.trans (hb3.mono hbw2.size)
  have K1 := Lib.hid (fun W (h : Below w3.heap.size w3 W) => crowded_any N x false A len cap es W ((hrH.out.later hbw3).later h) hl hN hx1024 hokH.out (fun i j hj hi hjs => (isCl_near hokH.out hmxH.out.2.1).1 hmxH.out.1 i j hj hi hjs))
  have K2 := Lib.hid (fun W (h : Below w3.heap.size w3 W) => crowded_any N y true A len cap es W ((hrH.out.later hbw3).later h) hl hN hy1024 hokH.out (fun i j hj hi hjs => (isCl_oth hN hokH.out hmyH.out.2.1).1 hmyH.out.1 i j hj hi hjs))
  have HSx := fun W => Lib.hid (size_any x W hx1024)
  have HSy := fun W => Lib.hid (size_any y W hy1024)
  obtain ⟨r1, r2, r3⟩ := ramsey_law hN hokH.out hmxH.out hmyH.out
  have hnz := Lib.hid (fun h0 : 0 < N => (⟨cl_nonzero h0 hmxH.out, cl_nonzero h0 hmyH.out⟩ : x ≠ 0 ∧ y ≠ 0))
  have px := popc_le 10 x
  have py := popc_le 10 y
  generalize popc 10 x = P at *
  generalize popc 10 y = Q at *
  have hcase : N < 6 ∨ (6 ≤ N ∧ N < 9 ∧ 3 ≤ P) ∨ (6 ≤ N ∧ N < 9 ∧ P < 3 ∧ 3 ≤ Q) ∨ (9 ≤ N ∧ 4 ≤ P) ∨ (9 ≤ N ∧ 3 ≤ P ∧ P < 4 ∧ 3 ≤ Q) ∨ (9 ≤ N ∧ P < 3 ∧ 4 ≤ Q) := by omega
  have hcaseH := Lib.hid hcase
  have hbw3H := Lib.hid hbw3
  have Q0 := Lib.hid q0
  have Q1 := Lib.hid q1
  clear hb3 hbw2 hbw3 HG r1 r2 r3 hcase
  have hgo : ∀ w5 : World, Below w3.heap.size w3 w5 → w5.cell? ⟨w.heap.size, 0, none⟩ = some (.int .i64 N) := fun w5 h => below_cell h hS3 Q0.out
  have hgoH := Lib.hid hgo
  clear hgo
  by_cases h0 : N = 0
  · have h0' : ¬ (0 : Int) < N := by omega
    have hl0 : (N : Int) < 6 := by omega
    have hl9 : (N : Int) < 9 := by omega
    clear h0 hnz
    go_wp2_with fail
    refine (K1.out w3 (Below.refl _ _)).mono ?_
    rintro e w4 ⟨rfl, hb4⟩
    have q0 := below_cell hb4 hS3 q0
    have q1 := below_cell hb4 hS3 q1
    go_wp2_with fail
    refine (K2.out w4 hb4).mono ?_
    rintro e w5 ⟨rfl, hb5⟩
    have hbe := hb4.trans (hb5.mono hb4.size)
    have q0 := hgoH.out w5 hbe
    go_wp2_with fail
    refine (HSx _).out.mono ?_
    rintro e w6 ⟨rfl, rfl⟩
    go_wp2_with fail
    refine (HSy _).out.mono ?_
    rintro e w6 ⟨rfl, rfl⟩
    go_wp2
    go_ret
    exact ⟨rfl, hbw3H.out.trans (hbe.mono hbw3H.out.size)⟩
  · obtain ⟨hx0, hy0⟩ := hnz.out (by omega)
    have hx0' : ((x : Int) == 0) = false := by simpa using hx0
    have hy0' : ((y : Int) == 0) = false := by simpa using hy0
    have h0' : (0 : Int) < N := by omega
    clear h0 hnz hx0 hy0
    go_wp2_with fail
    refine (K1.out w3 (Below.refl _ _)).mono ?_
    rintro e w4 ⟨rfl, hb4⟩
    have q0 := below_cell hb4 hS3 q0
    have q1 := below_cell hb4 hS3 q1
    go_wp2_with fail
    refine (K2.out w4 hb4).mono ?_
    rintro e w5 ⟨rfl, hb5⟩
    have hbe := hb4.trans (hb5.mono hb4.size)
    have q0 := hgoH.out w5 hbe
    go_wp2_with fail
    refine (HSx _).out.mono ?_
    rintro e w6 ⟨rfl, rfl⟩
    go_wp2_with fail
    refine (HSy _).out.mono ?_
    rintro e w6 ⟨rfl, rfl⟩
    rcases hcaseH.out with h | ⟨h1, h2, h3⟩ | ⟨h1, h2, h3, h4⟩ | ⟨h1, h2⟩ | ⟨h1, h2, h3, h4⟩ | ⟨h1, h2, h3⟩
    · have hl9 : (N : Int) < 9 := by omega
      have hl6 : (N : Int) < 6 := by omega
      go_wp2
      go_ret
      exact ⟨rfl, hbw3H.out.trans (hbe.mono hbw3H.out.size)⟩
    · have a1 : ¬ (N : Int) < 6 := by omega
      have a2 : (N : Int) < 9 := by omega
      have a3 : (3 : Int) ≤ P := by omega
      go_wp2
      go_ret
      exact ⟨rfl, hbw3H.out.trans (hbe.mono hbw3H.out.size)⟩
    · have a1 : ¬ (N : Int) < 6 := by omega
      have a2 : (N : Int) < 9 := by omega
      have a3 : ¬ (3 : Int) ≤ P := by omega
      have a4 : (3 : Int) ≤ Q := by omega
      go_wp2
      go_ret
      exact ⟨rfl, hbw3H.out.trans (hbe.mono hbw3H.out.size)⟩
    · have a1 : ¬ (N : Int) < 6 := by omega
      have a2 : ¬ (N : Int) < 9 := by omega
      have a3 : (3 : Int) ≤ P := by omega
      have a4 : (4 : Int) ≤ P := by omega
      go_wp2
      go_ret
      exact ⟨rfl, hbw3H.out.trans (hbe.mono hbw3H.out.size)⟩
    · have a1 : ¬ (N : Int) < 6 := by omega
      have a2 : ¬ (N : Int) < 9 := by omega
      have a3 : (3 : Int) ≤ P := by omega
      have a4 : ¬ (4 : Int) ≤ P := by omega
      have a5 : (3 : Int) ≤ Q := by omega
      go_wp2
      go_ret
      exact ⟨rfl, hbw3H.out.trans (hbe.mono hbw3H.out.size)⟩
    · have a1 : ¬ (N : Int) < 6 := by omega
      have a2 : ¬ (N : Int) < 9 := by omega
      have a3 : ¬ (3 : Int) ≤ P := by omega
      have a4 : ¬ (4 : Int) ≤ P := by omega
      have a5 : (3 : Int) ≤ Q := by omega
      have a6 : (4 : Int) ≤ Q := by omega
      go_wp2
      go_ret
      exact ⟨rfl, hbw3H.out.trans (hbe.mono hbw3H.out.size)⟩
theorem crowdRamsey_any (N : Int) (A : Option Addr) (len cap : Nat) (es : List E) (w : World) (_ : (Lit.int .i64 N).wf = true) (hr : Rd w A len 3 (ps3 .i64 .i64 .i64 es)) (hlen : len ≤ maxLen) (hcap : len ≤ cap) (_ : ∀ a ∈ es, (Lit.int .i64 a.1).wf = true ∧ (Lit.int .i64 a.2.1).wf = true ∧ (Lit.int .i64 a.2.2).wf = true) :
    Calls Try.prog 5 #[.agg #[.int .i64 N, .slice A len cap]] w fun e w' => e = .returned (.bool true) ∧ Below w.heap.size w w' := by
  unfold maxLen at hlen
  by_cases hc : gchk N es = 0
  · obtain ⟨h0, h10, h45, hok, _⟩ := gchk_ok hc
    obtain ⟨n, rfl⟩ := Int.eq_ofNat_of_zero_le h0
    rw [Int.toNat_natCast] at hok
    rw [ps3_len hr] at h45
    exact ramsey_ok n A len cap es w hr (by omega) h45 hcap hok hc
  · exact ramsey_bad N A len cap es w hr hlen hcap hc
end Go.Proofs.Ytiopngegkpbfhaa
