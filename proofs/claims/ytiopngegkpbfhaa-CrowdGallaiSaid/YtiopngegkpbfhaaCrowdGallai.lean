/- CrowdGallai: the walk. -/
import Derived.Test.YtiopngegkpbfhaaCover
import Derived.Test.YtiopngegkpbfhaaGallaiLaw
namespace Go.Proofs.Ytiopngegkpbfhaa
open Go.RowKit

theorem gallai_bad (N : Int) (A : Option Addr) (len cap : Nat) (es : List E) (w : World) (hr : Rd w A len 3 (ps3 .i64 .i64 .i64 es)) (hlen : len ≤ 9223372036854775807) (hcap : len ≤ cap) (hc : gchk N es ≠ 0) :
    Calls Try.prog 6 #[.agg #[.int .i64 N, .slice A len cap]] w fun e w' => e = .returned (.bool true) ∧ Below w.heap.size w w' := by
  have hcb : (gchk N es != 0) = true := by simpa using hc
  have hce : (gchk N es == 0) = false := by simpa using hc
  have HA := Lib.hid (apart_bad N A len cap es _ (hr.alloc (.cells #[.int .i64 N, .slice A len cap] 24)) hlen hc)
  have HC := Lib.hid (fun W hW => cover_bad N A len cap es W (hr.later hW) hlen hc)
  have g0 : (w.alloc (Obj.cells #[Value.int IntKind.i64 N, Value.slice A len cap] 24)).cell? ⟨w.heap.size, 0, none⟩ = some (.int .i64 N) := by go_simp
  have g1 : (w.alloc (Obj.cells #[Value.int IntKind.i64 N, Value.slice A len cap] 24)).cell? ⟨w.heap.size, 1, none⟩ = some (.slice A len cap) := by go_simp
  have hrH := Lib.hid hr; have hceH := Lib.hid hce; have hcbH := Lib.hid hcb
  clear hr hc hce hcb
  go_enter Try.func6, Try.ntmps6
  go_wp2_with fail
  refine HA.out.mono ?_
  rintro e w1 ⟨rfl, hb⟩
  have q0 := below_cell hb (by simp) g0
  have q1 := below_cell hb (by simp) g1
  have hbw := ((Below.refl w.heap.size w).alloc (Nat.le_refl _) (.cells #[.int .i64 N, .slice A len cap] 24)).trans (hb.mono (by simp))
  have hS1 : w.heap.size < w1.heap.size := by have := hb.size; simp at this; omega
  clear g0 g1 hb
  go_wp2_with fail
  refine (HC.out w1 hbw).mono ?_
  rintro e w2 ⟨rfl, hb2⟩
  have q0 := below_cell hb2 hS1 q0
  have q1 := below_cell hb2 hS1 q1
  have hbw2 := hbw.trans (hb2.mono hbw.size)
  have HG := Lib.hid (good_any N A len cap es w2 (hrH.out.later hbw2) hlen hcap)
  rw [hceH.out] at HG
  have hcb := hcbH.out
  clear hb2 hbw
  go_wp2_with fail
  refine HG.out.mono ?_
  rintro e w3 ⟨rfl, hb3⟩
  go_wp2
  go_ret
  exact ⟨rfl, hbw2.trans (hb3.mono hbw2.size)⟩
set_option maxHeartbeats 3200000 in
theorem gallai_ok (N : Nat) (A : Option Addr) (len cap : Nat) (es : List E) (w : World) (hr : Rd w A len 3 (ps3 .i64 .i64 .i64 es)) (hN : N ≤ 10) (hl : len ≤ 45) (hcap : len ≤ cap) (hok : ∀ e ∈ es, okE N e) (hc : gchk N es = 0) :
    Calls Try.prog 6 #[.agg #[.int .i64 N, .slice A len cap]] w fun e w' => e = .returned (.bool true) ∧ Below w.heap.size w w' := by
  have hce : (gchk N es == 0) = true := by simpa using hc
  have HA := Lib.hid (apart_ok N A len cap es _ (hr.alloc (.cells #[.int .i64 N, .slice A len cap] 24)) hN hl hok hc)
  have HC := Lib.hid (fun W hW => cover_ok N A len cap es W (hr.later hW) hN hl hok hc)
  have g0 : (w.alloc (Obj.cells #[Value.int IntKind.i64 (N : Int), Value.slice A len cap] 24)).cell? ⟨w.heap.size, 0, none⟩ = some (.int .i64 N) := by go_simp
  have g1 : (w.alloc (Obj.cells #[Value.int IntKind.i64 (N : Int), Value.slice A len cap] 24)).cell? ⟨w.heap.size, 1, none⟩ = some (.slice A len cap) := by go_simp
  have hrH := Lib.hid hr; have hceH := Lib.hid hce; have hokH := Lib.hid hok
  have hlaw := Lib.hid (fun a c => gallai_law (a := a) (c := c) hN hok)
  have hp10 : 2 ^ N ≤ 2 ^ 10 := Nat.pow_le_pow_right (by omega) hN
  have hpos := Nat.two_pow_pos N
  obtain ⟨m, hm⟩ : ∃ m, 2 ^ N - 1 = m := ⟨_, rfl⟩
  have hm1 : m ≤ 1023 := by omega
  have hp0 := two_pow_u32 N (by omega)
  have hp : (2 : Int) ^ N % 4294967296 = (m : Int) + 1 := by rw [hp0]; omega
  have hpH := Lib.hid hp
  have hM := Lib.hid (show 2 ^ N = m + 1 by omega)
  have hmH := Lib.hid hm
  clear hr hc hce hok hp10 hpos hp0 hp hm
  go_enter Try.func6, Try.ntmps6
  go_wp2_with fail
  refine HA.out.mono ?_
  rintro e w1 ⟨a, rfl, ha1024, hma, hb⟩
  have q0 := below_cell hb (by simp) g0
  have q1 := below_cell hb (by simp) g1
  have hbw := ((Below.refl w.heap.size w).alloc (Nat.le_refl _) (.cells #[.int .i64 N, .slice A len cap] 24)).trans (hb.mono (by simp))
  have hS1 : w.heap.size < w1.heap.size := by have := hb.size; simp at this; omega
  have hmaH := Lib.hid hma
  clear g0 g1 hb hma
  go_wp2_with fail
  refine (HC.out w1 hbw).mono ?_
  rintro e w2 ⟨c, rfl, hmc, hb2⟩
  have q0 := below_cell hb2 hS1 q0
  have q1 := below_cell hb2 hS1 q1
  have hS2 : w.heap.size < w2.heap.size := by have := hb2.size; omega
  have hbw2 := hbw.trans (hb2.mono hbw.size)
  have hc1024 : c ≤ 1023 := by have := hmc.2.1; rw [hM.out] at this; omega
  obtain ⟨ga1, gc1, gla, glc, hsum⟩ := hlaw.out a c hmaH.out hmc
  rw [hmH.out] at ga1 gc1 glc
  have ga1H := Lib.hid ga1; have gc1H := Lib.hid gc1; have glaH := Lib.hid gla; have glcH := Lib.hid glc; have hsumH := Lib.hid hsum
  have HG := Lib.hid (good_any N A len cap es w2 (hrH.out.later hbw2) (by omega) hcap)
  rw [hceH.out] at HG
  clear hb2 hbw hmc ga1 gc1 gla glc hsum
  go_wp2_with fail
  refine HG.out.mono ?_
  rintro e w3 ⟨rfl, hb3⟩
  have q0 := below_cell hb3 hS2 q0
  have q1 := below_cell hb3 hS2 q1
  have hS3 : w.heap.size < w3.heap.size := by have := hb3.size; omega
  have hbw3 := hbw2.trans (hb3.mono hbw2.size)
  have hp := hpH.out
  have ea : (bits .andNot .u32 (a : Int) (m : Int) == 0) = true := by rw [u32_andNot_nat a m (by omega) (by omega), show a &&& (4294967295 - m) = 0 from ga1H.out]; rfl
  have ec : (bits .andNot .u32 (c : Int) (m : Int) == 0) = true := by rw [u32_andNot_nat c m (by omega) (by omega), show c &&& (4294967295 - m) = 0 from gc1H.out]; rfl
  have hac := andN_le m c
  have em : bits .andNot .u32 (m : Int) (c : Int) = ((andN m c : Nat) : Int) := u32_andNot_nat m c (by omega) (by omega)
  have HL1 := Lib.hid (fun W (h : Below w3.heap.size w3 W) => loose_any N a A len cap es W ((hrH.out.later hbw3).later h) hl hN (by omega) hokH.out)
  have HL2 := Lib.hid (fun W (h : Below w3.heap.size w3 W) => loose_any N (andN m c) A len cap es W ((hrH.out.later hbw3).later h) hl hN (by omega) hokH.out)
  rw [glaH.out] at HL1
  rw [glcH.out] at HL2
  have HSa := fun W => Lib.hid (size_any a W (by omega))
  have HSc := fun W => Lib.hid (size_any c W (by omega))
  have hsum := hsumH.out
  have pa := popc_le 10 a
  have pc := popc_le 10 c
  have hbw3H := Lib.hid hbw3
  have r0 := Below.refl w3.heap.size w3
  clear hb3 hbw2 hbw3 HG hac hlaw
  generalize popc 10 a = P at *
  generalize popc 10 c = Q at *
  have hwr : IntKind.i64.wrap ((P : Int) + (Q : Int)) = (N : Int) := by rw [IntWalk.i64_in _ (by omega)]; omega
  go_wp2_with fail
  go_region_held3 (fun w' => w'.cell? ⟨w.heap.size, 0, none⟩ = some (.int .i64 N) ∧ w'.cell? ⟨w.heap.size, 1, none⟩ = some (.slice A len cap)) (first | go_keep | exact ⟨below_cell bB hS3 q0, below_cell bB hS3 q1⟩ | exact ⟨below_cell bA hS3 q0, below_cell bA hS3 q1⟩) ((first
    | (go_at_call 14
       (with_reducible refine (HL1.out w3.drew (Below.drew r0)).mono ?_)
       rintro e wA ⟨rfl, bA0⟩
       have bA := (Below.drew r0).trans bA0)
    | (go_at_call 14
       (with_reducible refine (HL2.out wA bA).mono ?_)
       rintro e wB ⟨rfl, bB0⟩
       have bB := bA.trans (bB0.mono bA.size))
    | (go_at_call 9
       (with_reducible refine (HSa wB).out.mono ?_)
       rintro e wC ⟨rfl, rfl⟩)
    | (go_at_call 9
       (with_reducible refine (HSc wB).out.mono ?_)
       rintro e wC ⟨rfl, rfl⟩)
    | fail))
  all_goals (go_wp2_with fail; go_ret; exact ⟨rfl, hbw3H.out.trans (bB.mono hbw3H.out.size)⟩)
theorem crowdGallai_any (N : Int) (A : Option Addr) (len cap : Nat) (es : List E) (w : World) (_ : (Lit.int .i64 N).wf = true) (hr : Rd w A len 3 (ps3 .i64 .i64 .i64 es)) (hlen : len ≤ maxLen) (hcap : len ≤ cap) (_ : ∀ a ∈ es, (Lit.int .i64 a.1).wf = true ∧ (Lit.int .i64 a.2.1).wf = true ∧ (Lit.int .i64 a.2.2).wf = true) :
    Calls Try.prog 6 #[.agg #[.int .i64 N, .slice A len cap]] w fun e w' => e = .returned (.bool true) ∧ Below w.heap.size w w' := by
  unfold maxLen at hlen
  by_cases hc : gchk N es = 0
  · obtain ⟨h0, h10, h45, hok, _⟩ := gchk_ok hc
    obtain ⟨n, rfl⟩ := Int.eq_ofNat_of_zero_le h0
    rw [Int.toNat_natCast] at hok
    rw [ps3_len hr] at h45
    exact gallai_ok n A len cap es w hr (by omega) h45 hcap hok hc
  · exact gallai_bad N A len cap es w hr hlen hcap hc
end Go.Proofs.Ytiopngegkpbfhaa
