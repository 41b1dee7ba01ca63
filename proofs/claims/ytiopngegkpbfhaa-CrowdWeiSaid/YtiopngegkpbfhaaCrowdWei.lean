/- CrowdWei: the walk. -/
import Derived.Test.YtiopngegkpbfhaaMost
import Derived.Test.YtiopngegkpbfhaaRefEdge
namespace Go.Proofs.Ytiopngegkpbfhaa
open Go.RowKit

theorem lsum_range_succ (k : Nat) (g : Nat → Nat) : lsum (List.range (k + 1)) g = lsum (List.range k) g + g k := by
  simp [lsum, List.range_succ, List.sum_append]
def part (es : List E) (i : Nat) : Nat := 2520 / (degE es i + 1)
theorem part_le (es : List E) (i : Nat) : part es i ≤ 2520 := Nat.div_le_self _ _
theorem lsum_part_le (es : List E) : ∀ k, lsum (List.range k) (part es) ≤ 2520 * k
  | 0 => by simp [lsum]
  | k + 1 => by
    have := lsum_part_le es k
    have := part_le es k
    rw [lsum_range_succ]; omega
theorem degE_le (es : List E) (i : Nat) : degE es i ≤ es.length := List.length_filter_le _ _
theorem wei_bad (N : Int) (A : Option Addr) (len cap : Nat) (es : List E) (w : World) (hr : Rd w A len 3 (ps3 .i64 .i64 .i64 es)) (hlen : len ≤ 9223372036854775807) (hcap : len ≤ cap) (hc : gchk N es ≠ 0) :
    Calls Try.prog 4 #[.agg #[.int .i64 N, .slice A len cap]] w fun e w' => e = .returned (.bool true) ∧ Below w.heap.size w w' := by
  have hcb : (gchk N es != 0) = true := by simpa using hc
  have hce : (gchk N es == 0) = false := by simpa using hc
  have HA := Lib.hid (apart_bad N A len cap es _ (hr.alloc (.cells #[.int .i64 N, .slice A len cap] 24)) hlen hc)
  have g0 : (w.alloc (Obj.cells #[Value.int IntKind.i64 N, Value.slice A len cap] 24)).cell? ⟨w.heap.size, 0, none⟩ = some (.int .i64 N) := by go_simp
  have g1 : (w.alloc (Obj.cells #[Value.int IntKind.i64 N, Value.slice A len cap] 24)).cell? ⟨w.heap.size, 1, none⟩ = some (.slice A len cap) := by go_simp
  have hrH := Lib.hid hr; have hceH := Lib.hid hce; have hcbH := Lib.hid hcb
  clear hr hc hce hcb
  go_enter Try.func4, Try.ntmps4
  go_wp2_with fail
  refine HA.out.mono ?_
  rintro e w1 ⟨rfl, hb⟩
  have q0 := below_cell hb (by simp) g0
  have q1 := below_cell hb (by simp) g1
  have hbw := ((Below.refl w.heap.size w).alloc (Nat.le_refl _) (.cells #[.int .i64 N, .slice A len cap] 24)).trans (hb.mono (by simp))
  have HG := Lib.hid (good_any N A len cap es w1 (hrH.out.later hbw) hlen hcap)
  rw [hceH.out] at HG
  have hcb := hcbH.out
  clear g0 g1 hb
  go_wp2_with fail
  refine HG.out.mono ?_
  rintro e w2 ⟨rfl, hb2⟩
  go_wp2
  go_ret
  exact ⟨rfl, hbw.trans (hb2.mono hbw.size)⟩
set_option maxHeartbeats 1600000 in
theorem wei_ok (N : Nat) (A : Option Addr) (len cap : Nat) (es : List E) (w : World) (hr : Rd w A len 3 (ps3 .i64 .i64 .i64 es)) (hN : N ≤ 10) (hl : len ≤ 45) (hcap : len ≤ cap) (hok : ∀ e ∈ es, okE N e) (hd : ∀ j, j < es.length → echkAt N es j = 0) (hc : gchk N es = 0) :
    Calls Try.prog 4 #[.agg #[.int .i64 N, .slice A len cap]] w fun e w' => e = .returned (.bool true) ∧ Below w.heap.size w w' := by
  have hel := ps3_len hr
  have hce : (gchk N es == 0) = true := by simpa using hc
  have HA := Lib.hid (apart_ok N A len cap es _ (hr.alloc (.cells #[.int .i64 N, .slice A len cap] 24)) hN hl hok hc)
  have g0 : (w.alloc (Obj.cells #[Value.int IntKind.i64 (N : Int), Value.slice A len cap] 24)).cell? ⟨w.heap.size, 0, none⟩ = some (.int .i64 N) := by go_simp
  have g1 : (w.alloc (Obj.cells #[Value.int IntKind.i64 (N : Int), Value.slice A len cap] 24)).cell? ⟨w.heap.size, 1, none⟩ = some (.slice A len cap) := by go_simp
  have hrH := Lib.hid hr; have hceH := Lib.hid hce; have hokH := Lib.hid hok
  have hlaw := Lib.hid (fun b => wei_law (b := b) hN hok hd)
  have hdl := Lib.hid (fun i => Nat.le_trans (degE_le es i) (show es.length ≤ 45 by omega))
  clear hr hc hce hok hd hel
  go_enter Try.func4, Try.ntmps4
  go_wp2_with fail
  refine HA.out.mono ?_
  rintro e w1 ⟨b, rfl, hb1024, hm, hb⟩
  have hwei := Lib.hid (hlaw.out b hm)
  have q0 := below_cell hb (by simp) g0
  have q1 := below_cell hb (by simp) g1
  have hbw := ((Below.refl w.heap.size w).alloc (Nat.le_refl _) (.cells #[.int .i64 N, .slice A len cap] 24)).trans (hb.mono (by simp))
  have hS1 : w.heap.size < w1.heap.size := by have := hb.size; simp at this; omega
  have HG := Lib.hid (good_any N A len cap es w1 (hrH.out.later hbw) (by omega) hcap)
  rw [hceH.out] at HG
  clear g0 g1 hb HA hm hlaw
  go_wp2_with fail
  refine HG.out.mono ?_
  rintro e w2 ⟨rfl, hb2⟩
  have q0 := below_cell hb2 hS1 q0
  have q1 := below_cell hb2 hS1 q1
  have hS2 : w.heap.size < w2.heap.size := by have := hb2.size; omega
  have hbw2 := hbw.trans (hb2.mono hbw.size)
  have hbwH := Lib.hid hbw2
  have hr2 := Lib.hid (hrH.out.later hbw2)
  have Q0 := Lib.hid q0
  have Q1 := Lib.hid q1
  clear hb2 hbw hbw2 HG
  go_wp2
  go_loopw [5, 6] (fun s i wr => ∃ k : Nat, k ≤ N ∧ i = .int .i64 k ∧ s = .int .i64 (lsum (List.range k) (part es) : Nat) ∧ Below w2.heap.size w2 wr) (fun _ i _ => N - (intOf i).toNat)
  case atStart => exact ⟨0, Nat.zero_le _, rfl, rfl, Below.refl _ _⟩
  case round =>
    clear q0 q1
    obtain ⟨k, hk, rfl, rfl, hb⟩ := hrel
    have q0 := below_cell hb hS2 Q0.out
    have q1 := below_cell hb hS2 Q1.out
    have hSr := hb.size
    have hSw : w.heap.size < wr.heap.size := by omega
    have hle := lsum_part_le es k
    by_cases hlt : k < N
    · have HD := Lib.hid (degree_any N k A len cap es wr (hr2.out.later hb) hl hokH.out)
      have hs := Lib.hid (show lsum (List.range (k + 1)) (part es) = lsum (List.range k) (part es) + 2520 / (degE es k + 1) from lsum_range_succ k _)
      have hd1 := hdl.out k
      generalize lsum (List.range k) (part es) = S at *
      generalize degE es k = d at *
      go_wp2_with fail
      refine HD.out.mono ?_
      rintro e w3 ⟨rfl, hb3⟩
      have hb4 := hb.trans (hb3.mono hSr)
      have hq : (2520 : Int) / ((d : Int) + 1) = ((2520 / (d + 1) : Nat) : Int) := by simp
      have hq1 : 2520 / (d + 1) ≤ 2520 := Nat.div_le_self _ _
      have hqH := Lib.hid hq
      clear hq
      have hq2 : (0 : Int) ≤ 2520 / ((d : Int) + 1) := by rw [hqH.out]; exact Int.natCast_nonneg _
      have hq3 : (2520 : Int) / ((d : Int) + 1) ≤ 2520 := by rw [hqH.out]; exact Int.ofNat_le.2 hq1
      go_wp2
      go_roundw
      case rel => exact ⟨k + 1, by omega, by go_num, by rw [hs.out, hqH.out]; rfl, hb4⟩
      case measure => simp [intOf]; omega
    · obtain rfl : N = k := by omega
      have HS := fun W => Lib.hid (size_any b W hb1024)
      have hfin : ((lsum (List.range N) (part es) : Nat) : Int) ≤ 2520 * ((popc 10 b : Nat) : Int) := by
        have := hwei.out
        unfold part
        omega
      have hp := popc_le 10 b
      generalize lsum (List.range N) (part es) = S at *
      generalize popc 10 b = P at *
      go_wp2_with fail
      refine (HS _).out.mono ?_
      rintro e w3 ⟨rfl, rfl⟩
      go_wp2
      go_ret
      exact ⟨rfl, hbwH.out.trans (hb.mono hbwH.out.size)⟩
theorem crowdWei_any (N : Int) (A : Option Addr) (len cap : Nat) (es : List E) (w : World) (_ : (Lit.int .i64 N).wf = true) (hr : Rd w A len 3 (ps3 .i64 .i64 .i64 es)) (hlen : len ≤ maxLen) (hcap : len ≤ cap) (_ : ∀ a ∈ es, (Lit.int .i64 a.1).wf = true ∧ (Lit.int .i64 a.2.1).wf = true ∧ (Lit.int .i64 a.2.2).wf = true) :
    Calls Try.prog 4 #[.agg #[.int .i64 N, .slice A len cap]] w fun e w' => e = .returned (.bool true) ∧ Below w.heap.size w w' := by
  unfold maxLen at hlen
  by_cases hc : gchk N es = 0
  · obtain ⟨h0, h10, h45, hok, hd⟩ := gchk_ok hc
    obtain ⟨n, rfl⟩ := Int.eq_ofNat_of_zero_le h0
    rw [Int.toNat_natCast] at hok
    rw [ps3_len hr] at h45
    exact wei_ok n A len cap es w hr (by omega) h45 hcap hok hd hc
  · exact wei_bad N A len cap es w hr hlen hcap hc
end Go.Proofs.Ytiopngegkpbfhaa
