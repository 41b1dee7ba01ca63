/- CrowdTuran: the walk. -/
import Derived.Test.YtiopngegkpbfhaaMost
import Derived.Test.YtiopngegkpbfhaaRefEdge
import Derived.Test.YtiopngegkpbfhaaTuranLaw
namespace Go.Proofs.Ytiopngegkpbfhaa
open Go.RowKit

theorem turan_num {len P N : Nat} (hl : len ≤ 45) (hP : P ≤ 10) (h1 : 1 ≤ P) (hN : N ≤ 10) (h2 : N * N ≤ (N * N - 2 * len) * P) (h3 : 2 * len ≤ N * N) :
    wrap64 (2 * (len : Int) * (P : Int)) ≤ wrap64 (wrap64 (((P : Int) - 1) * (N : Int)) * (N : Int)) := by
  obtain ⟨Q, rfl⟩ : ∃ Q, P = Q + 1 := ⟨P - 1, by omega⟩
  have e0 : ((Q + 1 : Nat) : Int) - 1 = (Q : Int) := by omega
  have b1 : 2 * len * (Q + 1) ≤ 2 * 45 * 10 := Nat.mul_le_mul (by omega) (by omega)
  have b2 : Q * N ≤ 9 * 10 := Nat.mul_le_mul (by omega) hN
  have b3 : Q * N * N ≤ 90 * 10 := Nat.mul_le_mul b2 hN
  have i1 : 2 * (len : Int) * ((Q + 1 : Nat) : Int) = ((2 * len * (Q + 1) : Nat) : Int) := by simp
  have i2 : (Q : Int) * (N : Int) = ((Q * N : Nat) : Int) := by simp
  have i3 : ((Q * N : Nat) : Int) * (N : Int) = ((Q * N * N : Nat) : Int) := by simp
  rw [e0, i1, i2, IntWalk.wrap64_in _ ⟨by omega, by omega⟩, IntWalk.wrap64_in ((Q * N : Nat) : Int) ⟨by omega, by omega⟩, i3, IntWalk.wrap64_in _ ⟨by omega, by omega⟩]
  refine Int.ofNat_le.2 ?_
  have h4 : (N * N - 2 * len) * (Q + 1) + 2 * len * (Q + 1) = N * N * (Q + 1) := by rw [← Nat.add_mul, Nat.sub_add_cancel h3]
  have h5 : N * N * (Q + 1) = Q * N * N + N * N := by rw [Nat.mul_add, Nat.mul_one, Nat.mul_comm (N * N) Q, Nat.mul_assoc]
  omega
theorem ret_true {p : Prop} [Decidable p] (h : p) : Ending.returned (.bool (decide p)) = .returned (.bool true) := by rw [decide_eq_true h]
theorem turan_bad (N : Int) (A : Option Addr) (len cap : Nat) (es : List E) (w : World) (hr : Rd w A len 3 (ps3 .i64 .i64 .i64 es)) (hlen : len ≤ 9223372036854775807) (hcap : len ≤ cap) (hc : gchk N es ≠ 0) :
    Calls Try.prog 3 #[.agg #[.int .i64 N, .slice A len cap]] w fun e w' => e = .returned (.bool true) ∧ Below w.heap.size w w' := by
  have hcb : (gchk N es != 0) = true := by simpa using hc
  have hce : (gchk N es == 0) = false := by simpa using hc
  have HA := Lib.hid (most_bad N A len cap es _ (hr.alloc (.cells #[.int .i64 N, .slice A len cap] 24)) hlen hc)
  have g0 : (w.alloc (Obj.cells #[Value.int IntKind.i64 N, Value.slice A len cap] 24)).cell? ⟨w.heap.size, 0, none⟩ = some (.int .i64 N) := by go_simp
  have g1 : (w.alloc (Obj.cells #[Value.int IntKind.i64 N, Value.slice A len cap] 24)).cell? ⟨w.heap.size, 1, none⟩ = some (.slice A len cap) := by go_simp
  have hrH := Lib.hid hr; have hceH := Lib.hid hce; have hcbH := Lib.hid hcb
  clear hr hc hce hcb
  go_enter Try.func3, Try.ntmps3
  go_wp2_with fail
  refine HA.out.mono ?_
  rintro e w1 ⟨rfl, hb⟩
  have q0 := below_cell hb (by simp) g0
  have q1 := below_cell hb (by simp) g1
  have hbw := ((Below.refl w.heap.size w).alloc (Nat.le_refl _) (.cells #[.int .i64 N, .slice A len cap] 24)).trans (hb.mono (by simp))
  have HG := Lib.hid (good_any N A len cap es w1 (hrH.out.later hbw) hlen hcap)
  rw [hceH.out] at HG
  have hcb := hcbH.out
  clear g0 g1 hb
  go_wp2_with fail
  refine HG.out.mono ?_
  rintro e w2 ⟨rfl, hb2⟩
  go_wp2
  go_ret
  exact ⟨rfl, hbw.trans (hb2.mono hbw.size)⟩
set_option maxHeartbeats 1600000 in
theorem turan_ok (N : Nat) (A : Option Addr) (len cap : Nat) (es : List E) (w : World) (hr : Rd w A len 3 (ps3 .i64 .i64 .i64 es)) (hN : N ≤ 10) (hl : len ≤ 45) (hcap : len ≤ cap) (hok : ∀ e ∈ es, okE N e) (hd : ∀ j, j < es.length → echkAt N es j = 0) (hc : gchk N es = 0) :
    Calls Try.prog 3 #[.agg #[.int .i64 N, .slice A len cap]] w fun e w' => e = .returned (.bool true) ∧ Below w.heap.size w w' := by
  have hel := ps3_len hr
  have hce : (gchk N es == 0) = true := by simpa using hc
  have HA := Lib.hid (most_ok N A len cap es _ (hr.alloc (.cells #[.int .i64 N, .slice A len cap] 24)) hN hl hok hc)
  have g0 : (w.alloc (Obj.cells #[Value.int IntKind.i64 (N : Int), Value.slice A len cap] 24)).cell? ⟨w.heap.size, 0, none⟩ = some (.int .i64 N) := by go_simp
  have g1 : (w.alloc (Obj.cells #[Value.int IntKind.i64 (N : Int), Value.slice A len cap] 24)).cell? ⟨w.heap.size, 1, none⟩ = some (.slice A len cap) := by go_simp
  have hrH := Lib.hid hr; have hceH := Lib.hid hce; have hokH := Lib.hid hok
  have hlaw := Lib.hid (fun b h => turan_law (b := b) hN h hok hd)
  rw [hel] at hlaw
  clear hr hc hce hok hd hel
  go_enter Try.func3, Try.ntmps3
  go_wp2_with fail
  refine HA.out.mono ?_
  rintro e w1 ⟨b, rfl, hb1024, hm, hb⟩
  have htur := Lib.hid (fun h => hlaw.out b h hm)
  have q0 := below_cell hb (by simp) g0
  have q1 := below_cell hb (by simp) g1
  have hbw := ((Below.refl w.heap.size w).alloc (Nat.le_refl _) (.cells #[.int .i64 N, .slice A len cap] 24)).trans (hb.mono (by simp))
  have hS1 : w.heap.size < w1.heap.size := by have := hb.size; simp at this; omega
  have HG := Lib.hid (good_any N A len cap es w1 (hrH.out.later hbw) (by omega) hcap)
  rw [hceH.out] at HG
  clear g0 g1 hb HA hm hlaw
  go_wp2_with fail
  refine HG.out.mono ?_
  rintro e w2 ⟨rfl, hb2⟩
  have q0 := below_cell hb2 hS1 q0
  have q1 := below_cell hb2 hS1 q1
  have hS2 : w.heap.size < w2.heap.size := by have := hb2.size; omega
  have hbw2 := hbw.trans (hb2.mono hbw.size)
  have hbwH := Lib.hid hbw2
  have HS := fun W => Lib.hid (size_any b W hb1024)
  have hp := popc_le 10 b
  clear hb2 hbw hbw2 HG
  by_cases h0 : N = 0
  · subst h0
    generalize popc 10 b = P at *
    go_wp2_with fail
    refine (HS _).out.mono ?_
    rintro e w3 ⟨rfl, rfl⟩
    go_wp2
    go_ret
    exact ⟨rfl, hbwH.out⟩
  · obtain ⟨t1, t2, t3⟩ := htur.out (by omega)
    have hN0 : ((N : Int) == 0) = false := by simpa using h0
    generalize popc 10 b = P at *
    have t1' : (1 : Int) ≤ P := by omega
    go_wp2_with fail
    refine (HS _).out.mono ?_
    rintro e w3 ⟨rfl, rfl⟩
    have hnum := Lib.hid (turan_num hl hp t1 hN t2 t3)
    clear t1 t2 t3 h0
    go_wp2
    go_ret
    exact ⟨ret_true hnum.out, hbwH.out⟩
theorem crowdTuran_any (N : Int) (A : Option Addr) (len cap : Nat) (es : List E) (w : World) (_ : (Lit.int .i64 N).wf = true) (hr : Rd w A len 3 (ps3 .i64 .i64 .i64 es)) (hlen : len ≤ maxLen) (hcap : len ≤ cap) (_ : ∀ a ∈ es, (Lit.int .i64 a.1).wf = true ∧ (Lit.int .i64 a.2.1).wf = true ∧ (Lit.int .i64 a.2.2).wf = true) :
    Calls Try.prog 3 #[.agg #[.int .i64 N, .slice A len cap]] w fun e w' => e = .returned (.bool true) ∧ Below w.heap.size w w' := by
  unfold maxLen at hlen
  by_cases hc : gchk N es = 0
  · obtain ⟨h0, h10, h45, hok, hd⟩ := gchk_ok hc
    obtain ⟨n, rfl⟩ := Int.eq_ofNat_of_zero_le h0
    rw [Int.toNat_natCast] at hok
    rw [ps3_len hr] at h45
    exact turan_ok n A len cap es w hr (by omega) h45 hcap hok hd hc
  · exact turan_bad N A len cap es w hr hlen hcap hc
end Go.Proofs.Ytiopngegkpbfhaa
