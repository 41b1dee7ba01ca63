/- crowd.largest, others, Most, Apart. -/
import Derived.Test.YtnpgnohnpbdblaaDoorSeek
import Derived.Test.YtnpgnohnpbdblaaDoorGood
namespace Go.Proofs.YtnpgnohnpbdblaaDoor
open Go.RowKit

/-- a largest set each two of which have each other in their words -/
def MaxCl (L : List Nat) (N b : Nat) : Prop := isCl L b ∧ b < 2 ^ N ∧ ∀ s, s < 2 ^ N → isCl L s → popc 10 s ≤ popc 10 b
theorem subW_full {s N : Nat} (h : s < 2 ^ N) : subW s (2 ^ N - 1) := fun i hi => by
  rw [Nat.testBit_two_pow_sub_one]
  refine decide_eq_true (Classical.byContradiction fun hh => ?_)
  rw [tb_high h (by omega)] at hi; cases hi
theorem Seek.max {L : List Nat} {N b : Nat} (h : Seek L 0 (2 ^ N - 1) 0 b) : MaxCl L N b := by
  have hp : 2 ^ N - 1 < 2 ^ N := by have := Nat.two_pow_pos N; omega
  refine ⟨?_, ?_, fun s hs hc => by simpa using h.2.2 s (subW_full hs) hc⟩
  · rcases h.2.1 with rfl | ⟨s, _, hc, rfl⟩
    · exact isCl_zero L
    · simpa using hc
  · rcases h.2.1 with rfl | ⟨s, hs, _, rfl⟩
    · exact Nat.two_pow_pos N
    · simpa using subW_lt hs hp
def LargePost (L : List Nat) (N : Nat) (w : World) (e : Ending) (w' : World) : Prop := ∃ b : Nat, e = .returned (.int .u32 (b : Int)) ∧ b < 1024 ∧ MaxCl L N b ∧ Below w.heap.size w w'
theorem pow_n_u32 (N : Nat) (hN : N ≤ 10) : ((2 : Int) ^ N % 4294967296 - 1) % 4294967296 = ((2 ^ N - 1 : Nat) : Int) := by
  rw [two_pow_u32 N (by omega)]
  have h1 := Nat.two_pow_pos N
  have h2 : 2 ^ N ≤ 2 ^ 10 := Nat.pow_le_pow_right (by omega) hN
  omega
set_option maxHeartbeats 800000 in
theorem largest_any (A : Option Addr) (N cap : Nat) (L : List Nat) (w : World) (hN : N ≤ 10) (hL : ∀ x ∈ L, x < 1024) (hr : Rd w A N 1 (wds L)) (hA : ∀ b o, A = some ⟨b, o, none⟩ → b < w.heap.size) :
    Calls Tryd.prog 47 #[.slice A N cap] w (LargePost L N w) := by
  have hc : Crw (w.alloc (.cells #[.slice A N cap, .int .u32 0] 91)) w.heap.size A N cap L 0 := ⟨by go_simp, by go_simp, by go_simp, by simp, hr.alloc _, hA⟩
  have hp2 : 2 ^ N - 1 < 2 ^ N := by have := Nat.two_pow_pos N; omega
  have HS := Lib.hid (seek_any w.heap.size A N cap L hN hL N 0 (2 ^ N - 1) 0 _ (Nat.le_refl _) hp2 (by omega) (by omega) hc)
  have hp := pow_n_u32 N hN
  clear hr hA hc hp2
  go_enter Tryd.func47, Tryd.ntmps47
  go_wp2_with fail
  refine HS.out.mono ?_
  rintro e w1 ⟨b, hb, rfl, hc, hs, hbl⟩
  have c1 := hc.c1
  have hm := Lib.hid hs.max
  have hbe := ((Below.refl w.heap.size w).alloc (Nat.le_refl _) (.cells #[.slice A N cap, .int .u32 0] 91)).trans hbl
  clear hc hs hbl
  go_wp2_with fail
  go_ret
  exact ⟨b, rfl, hb, hm.out, hbe⟩
/-- with whom each has no edge -/
def othW (n : Nat) (es : List E) : List Nat := (nearW n es).map fun x => andN (2 ^ n - 1) x
theorem othW_lt {n : Nat} (hn : n ≤ 10) (es : List E) : ∀ x ∈ othW n es, x < 1024 := by
  intro x hx
  simp only [othW, List.mem_map] at hx
  obtain ⟨y, _, rfl⟩ := hx
  have h1 := andN_le (2 ^ n - 1) y
  have h2 : 2 ^ n ≤ 2 ^ 10 := Nat.pow_le_pow_right (by omega) hn
  have h3 := Nat.two_pow_pos n
  omega
set_option maxHeartbeats 1600000 in
theorem others_any (N : Nat) (A : Option Addr) (len cap : Nat) (es : List E) (w : World) (hr : Rd w A len 3 (ps3 .i64 .i64 .i64 es)) (hN : N ≤ 10) (hl : len ≤ 45) (hok : ∀ e ∈ es, okE N e) :
    Calls Tryd.prog 48 #[.agg #[.int .i64 N, .slice A len cap]] w fun e w' => ∃ g, e = .returned (.slice (some ⟨g, 0, none⟩) N N) ∧ w'.ownsRow w.heap.size 29 1 (.slice (some ⟨g, 0, none⟩) N N) N (wds (othW N es)) ∧ Below w.heap.size w w' := by
  have g0 : (w.alloc (Obj.cells #[Value.int IntKind.i64 (N : Int), Value.slice A len cap] 24)).cell? ⟨w.heap.size, 0, none⟩ = some (.int .i64 N) := by go_simp
  have HN := Lib.hid (near_any N A len cap es _ (hr.alloc (.cells #[.int .i64 N, .slice A len cap] 24)) hN hl hok)
  have hlt := Lib.hid (nearW_lt hN hok)
  have hnl := Lib.hid (nearW_length N es)
  have hp := pow_n_u32 N hN
  clear hr hok
  go_enter Tryd.func48, Tryd.ntmps48
  go_wp2_with fail
  refine HN.out.mono ?_
  rintro e w1 ⟨g, rfl, hown, hb⟩
  have q0 := below_cell hb (by simp) g0
  have hbw := ((Below.refl w.heap.size w).alloc (Nat.le_refl _) (.cells #[.int .i64 N, .slice A len cap] 24)).trans (hb.mono (by simp))
  have hS1 : w.heap.size < w1.heap.size := by have := hb.size; simp at this; omega
  rw [World.size_alloc] at hown
  have hownH := Lib.hid hown
  have hgB := (hown.lt _ rfl).1
  have hbwH := Lib.hid hbw
  have Q0 := Lib.hid q0
  clear hown hb hbw HN g0 q0
  go_wp2
  go_loopw [4, 5, 10] (fun _ _ i wr => ∃ k : Nat, k ≤ N ∧ i = .int .i64 k ∧ wr.ownsRow (w.heap.size + 1) 29 1 (.slice (some ⟨g, 0, none⟩) N N) N (wds (((nearW N es).take k).map (fun x => andN (2 ^ N - 1) x) ++ (nearW N es).drop k)) ∧ Below (w.heap.size + 1) w1 wr) (fun _ _ i _ => N - (intOf i).toNat)
  case atStart => exact ⟨0, Nat.zero_le _, rfl, by simpa using hownH.out, Below.refl _ _⟩
  case round =>
    obtain ⟨k, hk, rfl, hown, hb⟩ := hrel
    have q0 := below_cell hb (by omega) Q0.out
    have hSr := hb.size
    have hSw : w.heap.size < wr.heap.size := by omega
    have hsg := (hown.lt _ rfl).2
    by_cases hlt2 : k < N
    · have hll : (((nearW N es).take k).map (fun x => andN (2 ^ N - 1) x) ++ (nearW N es).drop k).length = N := by simp [hnl.out]; omega
      have hge : (((nearW N es).take k).map (fun x => andN (2 ^ N - 1) x) ++ (nearW N es).drop k).getD k 0 = (nearW N es).getD k 0 := by
        simp [List.getD, List.getElem?_append, hnl.out, Nat.min_eq_left (Nat.le_of_lt hlt2)]
      have kc := (hown.cellAt k (by omega)).trans (wds_get (by omega))
      rw [hge] at kc
      have z := hown.frozenAt k
      have hx := getD_lt1024 hlt.out k
      have hset := Lib.hid (show (wds (((nearW N es).take k).map (fun x => andN (2 ^ N - 1) x) ++ (nearW N es).drop k)).set k (.int .u32 ((andN (2 ^ N - 1) ((nearW N es).getD k 0) : Nat) : Int)) = wds (((nearW N es).take (k + 1)).map (fun x => andN (2 ^ N - 1) x) ++ (nearW N es).drop (k + 1)) by
        rw [take_succ_getD' (nearW N es) 0 k (by rw [hnl.out]; exact hlt2)]
        rw [List.drop_eq_getElem_cons (show k < (nearW N es).length by rw [hnl.out]; exact hlt2)]
        simp only [wds, List.map_append, List.map_cons, List.map_nil]
        rw [List.set_append]
        simp [hnl.out, Nat.min_eq_left (Nat.le_of_lt hlt2)])
      have hownH := Lib.hid hown
      have han : bits .andNot .u32 ((2 ^ N - 1 : Nat) : Int) (((nearW N es).getD k 0 : Nat) : Int) = ((andN (2 ^ N - 1) ((nearW N es).getD k 0) : Nat) : Int) := u32_andNot_nat _ _ (by
        have h2 : 2 ^ N ≤ 2 ^ 10 := Nat.pow_le_pow_right (by omega) hN
        omega) (by omega)
      have hki : (k : Int) < N := by omega
      clear hown hll hge
      generalize (nearW N es).getD k 0 = x at *
      go_wp2
      go_roundw
      case rel => exact ⟨k + 1, by omega, by go_num, by rw [← hset.out]; exact (hownH.out.stored k _).1, hb.setCell (p := ⟨g, k, none⟩) hgB _⟩
      case measure => simp [intOf]; omega
    · obtain rfl : N = k := by omega
      have hfin := Lib.hid (show wr.ownsRow w.heap.size 29 1 (.slice (some ⟨g, 0, none⟩) N N) N (wds (othW N es)) by
        have h := own_base (Nat.le_succ w.heap.size) hown
        rwa [List.take_of_length_le (by rw [hnl.out]; omega), List.drop_of_length_le (by rw [hnl.out]; omega), List.append_nil] at h)
      clear hown
      go_wp2
      go_ret
      exact ⟨g, rfl, hfin.out, hbwH.out.trans (hb.mono (by omega))⟩
end Go.Proofs.YtnpgnohnpbdblaaDoor
