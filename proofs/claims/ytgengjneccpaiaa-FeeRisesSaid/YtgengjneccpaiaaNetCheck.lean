/- flow.Check and teamsterref.NetCheck: the code of what is wrong with a net. -/
import Derived.Test.YtgengjneccpaiaaNet
namespace Go.Proofs.Ytgengjneccpaiaa
open Go.RowKit

set_option maxHeartbeats 400000 in
theorem netCheck_large (n : Int) (A : Option Addr) (len cap : Nat) (w : World) (hlen : len ≤ 9223372036854775807) (h : nlarge n len) :
    Calls Try.prog 16 #[.agg #[.int .i64 n, .slice A len cap]] w fun e w' => e = .returned (.int .i64 1) ∧ Below w.heap.size w w' := by
  unfold nlarge at h
  by_cases h1 : n < 0
  · clear h
    go_enter Try.func16, Try.ntmps16
    go_wp2
    go_ret
    exact ⟨rfl, (Below.refl _ _).alloc (Nat.le_refl _) _⟩
  · by_cases h2 : 10 < n
    · clear h
      go_enter Try.func16, Try.ntmps16
      go_wp2
      go_ret
      exact ⟨rfl, (Below.refl _ _).alloc (Nat.le_refl _) _⟩
    · have h3 : 30 < len := by omega
      clear h
      go_enter Try.func16, Try.ntmps16
      go_wp2
      go_ret
      exact ⟨rfl, (Below.refl _ _).alloc (Nat.le_refl _) _⟩
set_option maxHeartbeats 3200000 in
set_option maxRecDepth 100000 in
theorem netCheck_small (n : Int) (A : Option Addr) (len cap : Nat) (l : List Arc) (w : World) (hr : Rd w A len 4 (arcs l)) (hn0 : 0 ≤ n) (hn : n ≤ 10) (hl : len ≤ 30) :
    Calls Try.prog 16 #[.agg #[.int .i64 n, .slice A len cap]] w fun e w' => e = .returned (.int .i64 (nfst n l)) ∧ Below w.heap.size w w' := by
  have helH := Lib.hid (arcs_len hr)
  have hrH := Lib.hid hr; clear hr
  go_enter Try.func16, Try.ntmps16
  go_wp2
  have g0 : (w.alloc (Obj.cells #[Value.int IntKind.i64 n, Value.slice A len cap] 24)).cell? ⟨w.heap.size, 0, none⟩ = some (.int .i64 n) := by go_simp
  have g1 : (w.alloc (Obj.cells #[Value.int IntKind.i64 n, Value.slice A len cap] 24)).cell? ⟨w.heap.size, 1, none⟩ = some (.slice A len cap) := by go_simp
  have hS0 : w.heap.size < (w.alloc (Obj.cells #[Value.int IntKind.i64 n, Value.slice A len cap] 24)).heap.size := by simp
  have hbw0 : Below w.heap.size w (w.alloc (Obj.cells #[Value.int IntKind.i64 n, Value.slice A len cap] 24)) := (Below.refl _ _).alloc (Nat.le_refl _) _
  generalize w.alloc (Obj.cells #[Value.int IntKind.i64 n, Value.slice A len cap] 24) = W0 at *
  have hr0 := Lib.hid (hrH.out.later hbw0)
  go_loopw [22] (fun i wr => ∃ k : Nat, k ≤ len ∧ i = .int .i64 k ∧ nfst n l = nfst n (l.drop k) ∧ Below W0.heap.size W0 wr) (fun i _ => len - (intOf i).toNat)
  case atStart => exact ⟨0, Nat.zero_le _, rfl, rfl, Below.refl _ _⟩
  case round =>
    obtain ⟨k, hk, rfl, hj, hb⟩ := hrel
    have hjH := Lib.hid hj; clear hj
    have hSr := hb.size
    have hSw : w.heap.size < wr.heap.size := by omega
    have hbw := hbw0.trans (hb.mono hbw0.size)
    by_cases hlt : k < len
    · have q0 := below_cell hb hS0 g0
      have q1 := below_cell hb hS0 g1
      obtain ⟨bb, oo, rfl, hab, hc1, hc2, hc3, hc4⟩ := (hr0.out.later hb).arc hlt
      have hstep := Lib.hid (nfst_step (n := n) (l := l) (k := k) (by rw [helH.out]; exact hlt) hjH.out)
      have hstop := Lib.hid (nfst_stop (n := n) (l := l) (k := k) (by rw [helH.out]; exact hlt) hjH.out)
      have hac := Lib.hid (show achk n (aat l k) = if (aat l k).1 < 0 ∨ n ≤ (aat l k).1 ∨ (aat l k).2.1 < 0 ∨ n ≤ (aat l k).2.1 then 2 else if (aat l k).1 = (aat l k).2.1 then 3 else if (aat l k).2.2.1 < 0 ∨ 1048576 < (aat l k).2.2.1 ∨ (aat l k).2.2.2 < -1048576 ∨ 1048576 < (aat l k).2.2.2 then 4 else 0 from rfl)
      generalize aat l k = x at *
      obtain ⟨f, t, m, e⟩ := x
      dsimp only at hc1 hc2 hc3 hc4 hac
      by_cases hout : f < 0 ∨ n ≤ f ∨ t < 0 ∨ n ≤ t
      · have hz := Lib.hid (hstop.out 2 (by rw [hac.out, if_pos hout]) (by omega))
        by_cases c1 : f < 0
        · clear hout
          go_wp2
          go_ret
          exact ⟨by rw [hz.out]; rfl, hbw.alloc hbw.size _⟩
        · have c1' : 0 ≤ f := by omega
          by_cases c2 : n ≤ f
          · clear hout c1
            go_wp2
            go_ret
            exact ⟨by rw [hz.out]; rfl, hbw.alloc hbw.size _⟩
          · have c2' : f < n := by omega
            by_cases c3 : t < 0
            · clear hout c1 c2
              go_wp2
              go_ret
              exact ⟨by rw [hz.out]; rfl, hbw.alloc hbw.size _⟩
            · have c3' : 0 ≤ t := by omega
              have c4 : n ≤ t := by omega
              clear hout c1 c2 c3
              go_wp2
              go_ret
              exact ⟨by rw [hz.out]; rfl, hbw.alloc hbw.size _⟩
      · have c1 : 0 ≤ f := by omega
        have c2 : f < n := by omega
        have c3 : 0 ≤ t := by omega
        have c4 : t < n := by omega
        have hac2 := Lib.hid (hac.out.trans (if_neg hout))
        clear hac hout
        cases heq : (f == t)
        · have hne : f ≠ t := by simpa using heq
          have hac3 := Lib.hid (hac2.out.trans (if_neg hne))
          clear hac2 hne
          by_cases hbad : m < 0 ∨ 1048576 < m ∨ e < -1048576 ∨ 1048576 < e
          · have hz := Lib.hid (hstop.out 4 (by rw [hac3.out, if_pos hbad]) (by omega))
            by_cases d1 : m < 0
            · clear hbad
              go_wp2
              go_ret
              exact ⟨by rw [hz.out]; rfl, hbw.alloc hbw.size _⟩
            · have d1' : 0 ≤ m := by omega
              by_cases d2 : 1048576 < m
              · clear hbad d1
                go_wp2
                go_ret
                exact ⟨by rw [hz.out]; rfl, hbw.alloc hbw.size _⟩
              · have d2' : m ≤ 1048576 := by omega
                by_cases d3 : e < -1048576
                · clear hbad d1 d2
                  go_wp2
                  go_ret
                  exact ⟨by rw [hz.out]; rfl, hbw.alloc hbw.size _⟩
                · have d3' : -1048576 ≤ e := by omega
                  have d4 : 1048576 < e := by omega
                  clear hbad d1 d2 d3
                  go_wp2
                  go_ret
                  exact ⟨by rw [hz.out]; rfl, hbw.alloc hbw.size _⟩
          · have d1 : 0 ≤ m := by omega
            have d2 : m ≤ 1048576 := by omega
            have d3 : -1048576 ≤ e := by omega
            have d4 : e ≤ 1048576 := by omega
            have hz := Lib.hid (hstep.out (by rw [hac3.out, if_neg hbad]))
            clear hbad
            go_wp2
            go_roundw
            case rel => exact ⟨k + 1, by omega, by go_num, hz.out, hb.alloc hb.size _⟩
            case measure => simp [intOf]; omega
        · have heq' : f = t := by simpa using heq
          have hz := Lib.hid (hstop.out 3 (by rw [hac2.out, if_pos heq']) (by omega))
          clear heq'
          go_wp2
          go_ret
          exact ⟨by rw [hz.out]; rfl, hbw.alloc hbw.size _⟩
    · have hz := Lib.hid (show nfst n l = 0 by rw [hjH.out, List.drop_of_length_le (by rw [helH.out]; omega)]; rfl)
      go_wp2
      go_ret
      exact ⟨by rw [hz.out]; rfl, hbw⟩
theorem netCheck_any (n : Int) (A : Option Addr) (len cap : Nat) (l : List Arc) (w : World) (hr : Rd w A len 4 (arcs l)) (hlen : len ≤ 9223372036854775807) :
    Calls Try.prog 16 #[.agg #[.int .i64 n, .slice A len cap]] w fun e w' => e = .returned (.int .i64 (nchk n l)) ∧ Below w.heap.size w w' := by
  have hel := arcs_len hr
  by_cases h : nlarge n len
  · rw [show nchk n l = 1 by rw [nchk, if_pos (by rw [hel]; exact h)]]
    exact netCheck_large n A len cap w hlen h
  · rw [show nchk n l = nfst n l by rw [nchk, if_neg (by rw [hel]; exact h)]]
    unfold nlarge at h
    exact netCheck_small n A len cap l w hr (by omega) (by omega) (by omega)
def isB (n i : Int) : Bool := decide (0 ≤ i) && decide (i < n)
theorem is_any (i n : Int) (p : Addr) (w : World) (hc : w.cell? p = some (.int .i64 n)) :
    Calls Try.prog 23 #[.int .i64 i, .pointer (some p)] w fun e w' => e = .returned (.bool (isB n i)) ∧ w = w' := by
  by_cases h : 0 ≤ i
  · by_cases h2 : i < n
    · go_enter Try.func23, Try.ntmps23
      go_wp2
      go_ret
      exact ⟨by simp [isB, h, h2], rfl⟩
    · go_enter Try.func23, Try.ntmps23
      go_wp2
      go_ret
      exact ⟨by simp [isB, h, h2], rfl⟩
  · go_enter Try.func23, Try.ntmps23
    go_wp2
    go_ret
    exact ⟨by simp [isB]; omega, rfl⟩
set_option maxHeartbeats 400000 in
theorem flowCheck_large (n : Int) (A : Option Addr) (len cap : Nat) (w : World) (hlen : len ≤ 9223372036854775807) (h : nlarge n len) :
    Calls Try.prog 17 #[.agg #[.int .i64 n, .slice A len cap]] w fun e w' => e = .returned (.int .i64 1) ∧ Below w.heap.size w w' := by
  unfold nlarge at h
  by_cases h1 : n < 0
  · clear h
    go_enter Try.func17, Try.ntmps17
    go_wp2
    go_ret
    exact ⟨rfl, (Below.refl _ _).alloc (Nat.le_refl _) _⟩
  · by_cases h2 : 10 < n
    · clear h
      go_enter Try.func17, Try.ntmps17
      go_wp2
      go_ret
      exact ⟨rfl, (Below.refl _ _).alloc (Nat.le_refl _) _⟩
    · have h3 : 30 < len := by omega
      clear h
      go_enter Try.func17, Try.ntmps17
      go_wp2
      go_ret
      exact ⟨rfl, (Below.refl _ _).alloc (Nat.le_refl _) _⟩
set_option maxHeartbeats 3200000 in
set_option maxRecDepth 100000 in
theorem flowCheck_small (n : Int) (A : Option Addr) (len cap : Nat) (l : List Arc) (w : World) (hr : Rd w A len 4 (arcs l)) (hn0 : 0 ≤ n) (hn : n ≤ 10) (hl : len ≤ 30) :
    Calls Try.prog 17 #[.agg #[.int .i64 n, .slice A len cap]] w fun e w' => e = .returned (.int .i64 (nfst n l)) ∧ Below w.heap.size w w' := by
  have helH := Lib.hid (arcs_len hr)
  have hrH := Lib.hid hr; clear hr
  go_enter Try.func17, Try.ntmps17
  go_wp2
  have g0 : (w.alloc (Obj.cells #[Value.int IntKind.i64 n, Value.slice A len cap] 24)).cell? ⟨w.heap.size, 0, none⟩ = some (.int .i64 n) := by go_simp
  have g1 : (w.alloc (Obj.cells #[Value.int IntKind.i64 n, Value.slice A len cap] 24)).cell? ⟨w.heap.size, 1, none⟩ = some (.slice A len cap) := by go_simp
  have hS0 : w.heap.size < (w.alloc (Obj.cells #[Value.int IntKind.i64 n, Value.slice A len cap] 24)).heap.size := by simp
  have hbw0 : Below w.heap.size w (w.alloc (Obj.cells #[Value.int IntKind.i64 n, Value.slice A len cap] 24)) := (Below.refl _ _).alloc (Nat.le_refl _) _
  generalize w.alloc (Obj.cells #[Value.int IntKind.i64 n, Value.slice A len cap] 24) = W0 at *
  have hr0 := Lib.hid (hrH.out.later hbw0)
  go_loopw [24] (fun i wr => ∃ k : Nat, k ≤ len ∧ i = .int .i64 k ∧ nfst n l = nfst n (l.drop k) ∧ Below W0.heap.size W0 wr) (fun i _ => len - (intOf i).toNat)
  case atStart => exact ⟨0, Nat.zero_le _, rfl, rfl, Below.refl _ _⟩
  case round =>
    obtain ⟨k, hk, rfl, hj, hb⟩ := hrel
    have hjH := Lib.hid hj; clear hj
    have hSr := hb.size
    have hSw : w.heap.size < wr.heap.size := by omega
    have hbw := hbw0.trans (hb.mono hbw0.size)
    by_cases hlt : k < len
    · have q0 := below_cell hb hS0 g0
      have q1 := below_cell hb hS0 g1
      obtain ⟨bb, oo, rfl, hab, hc1, hc2, hc3, hc4⟩ := (hr0.out.later hb).arc hlt
      have hstep := Lib.hid (nfst_step (n := n) (l := l) (k := k) (by rw [helH.out]; exact hlt) hjH.out)
      have hstop := Lib.hid (nfst_stop (n := n) (l := l) (k := k) (by rw [helH.out]; exact hlt) hjH.out)
      have hac := Lib.hid (show achk n (aat l k) = if (aat l k).1 < 0 ∨ n ≤ (aat l k).1 ∨ (aat l k).2.1 < 0 ∨ n ≤ (aat l k).2.1 then 2 else if (aat l k).1 = (aat l k).2.1 then 3 else if (aat l k).2.2.1 < 0 ∨ 1048576 < (aat l k).2.2.1 ∨ (aat l k).2.2.2 < -1048576 ∨ 1048576 < (aat l k).2.2.2 then 4 else 0 from rfl)
      generalize aat l k = x at *
      obtain ⟨f, t, m, e⟩ := x
      dsimp only at hc1 hc2 hc3 hc4 hac
      have hx0 := Lib.hid (alloc_cell (Nat.lt_of_lt_of_le hS0 hSr) q0 (.cells #[.int .i64 f, .int .i64 t, .int .i64 m, .int .i64 e] 53))
      have his := fun (y : Int) => Lib.hid (is_any y n ⟨w.heap.size, 0, none⟩ _ hx0.out)
      by_cases hout : f < 0 ∨ n ≤ f ∨ t < 0 ∨ n ≤ t
      · have hz := Lib.hid (hstop.out 2 (by rw [hac.out, if_pos hout]) (by omega))
        by_cases c1 : f < 0
        · clear hout
          go_wp2_with fail
          refine (his f).out.mono ?_
          rw [show isB n f = false by simp [isB]; omega]
          rintro e1 w1 ⟨rfl, rfl⟩
          go_wp2
          go_ret
          exact ⟨by rw [hz.out]; rfl, hbw.alloc hbw.size _⟩
        · have c1' : 0 ≤ f := by omega
          by_cases c2 : n ≤ f
          · clear hout c1
            go_wp2_with fail
            refine (his f).out.mono ?_
            rw [show isB n f = false by simp [isB]; omega]
            rintro e1 w1 ⟨rfl, rfl⟩
            go_wp2
            go_ret
            exact ⟨by rw [hz.out]; rfl, hbw.alloc hbw.size _⟩
          · have c2' : f < n := by omega
            by_cases c3 : t < 0
            · clear hout c1 c2
              go_wp2_with fail
              refine (his f).out.mono ?_
              rw [show isB n f = true by simp [isB]; omega]
              rintro e1 w1 ⟨rfl, rfl⟩
              go_wp2_with fail
              refine (his t).out.mono ?_
              rw [show isB n t = false by simp [isB]; omega]
              rintro e1 w1 ⟨rfl, rfl⟩
              go_wp2
              go_ret
              exact ⟨by rw [hz.out]; rfl, hbw.alloc hbw.size _⟩
            · have c3' : 0 ≤ t := by omega
              have c4 : n ≤ t := by omega
              clear hout c1 c2 c3
              go_wp2_with fail
              refine (his f).out.mono ?_
              rw [show isB n f = true by simp [isB]; omega]
              rintro e1 w1 ⟨rfl, rfl⟩
              go_wp2_with fail
              refine (his t).out.mono ?_
              rw [show isB n t = false by simp [isB]; omega]
              rintro e1 w1 ⟨rfl, rfl⟩
              go_wp2
              go_ret
              exact ⟨by rw [hz.out]; rfl, hbw.alloc hbw.size _⟩
      · have c1 : 0 ≤ f := by omega
        have c2 : f < n := by omega
        have c3 : 0 ≤ t := by omega
        have c4 : t < n := by omega
        have hac2 := Lib.hid (hac.out.trans (if_neg hout))
        clear hac hout
        cases heq : (f == t)
        · have hne : f ≠ t := by simpa using heq
          have hac3 := Lib.hid (hac2.out.trans (if_neg hne))
          clear hac2 hne
          by_cases hbad : m < 0 ∨ 1048576 < m ∨ e < -1048576 ∨ 1048576 < e
          · have hz := Lib.hid (hstop.out 4 (by rw [hac3.out, if_pos hbad]) (by omega))
            by_cases d1 : m < 0
            · clear hbad
              go_wp2_with fail
              refine (his f).out.mono ?_
              rw [show isB n f = true by simp [isB]; omega]
              rintro e1 w1 ⟨rfl, rfl⟩
              go_wp2_with fail
              refine (his t).out.mono ?_
              rw [show isB n t = true by simp [isB]; omega]
              rintro e1 w1 ⟨rfl, rfl⟩
              go_wp2
              go_ret
              exact ⟨by rw [hz.out]; rfl, hbw.alloc hbw.size _⟩
            · have d1' : 0 ≤ m := by omega
              by_cases d2 : 1048576 < m
              · clear hbad d1
                go_wp2_with fail
                refine (his f).out.mono ?_
                rw [show isB n f = true by simp [isB]; omega]
                rintro e1 w1 ⟨rfl, rfl⟩
                go_wp2_with fail
                refine (his t).out.mono ?_
                rw [show isB n t = true by simp [isB]; omega]
                rintro e1 w1 ⟨rfl, rfl⟩
                go_wp2
                go_ret
                exact ⟨by rw [hz.out]; rfl, hbw.alloc hbw.size _⟩
              · have d2' : m ≤ 1048576 := by omega
                by_cases d3 : e < -1048576
                · clear hbad d1 d2
                  go_wp2_with fail
                  refine (his f).out.mono ?_
                  rw [show isB n f = true by simp [isB]; omega]
                  rintro e1 w1 ⟨rfl, rfl⟩
                  go_wp2_with fail
                  refine (his t).out.mono ?_
                  rw [show isB n t = true by simp [isB]; omega]
                  rintro e1 w1 ⟨rfl, rfl⟩
                  go_wp2
                  go_ret
                  exact ⟨by rw [hz.out]; rfl, hbw.alloc hbw.size _⟩
                · have d3' : -1048576 ≤ e := by omega
                  have d4 : 1048576 < e := by omega
                  clear hbad d1 d2 d3
                  go_wp2_with fail
                  refine (his f).out.mono ?_
                  rw [show isB n f = true by simp [isB]; omega]
                  rintro e1 w1 ⟨rfl, rfl⟩
                  go_wp2_with fail
                  refine (his t).out.mono ?_
                  rw [show isB n t = true by simp [isB]; omega]
                  rintro e1 w1 ⟨rfl, rfl⟩
                  go_wp2
                  go_ret
                  exact ⟨by rw [hz.out]; rfl, hbw.alloc hbw.size _⟩
          · have d1 : 0 ≤ m := by omega
            have d2 : m ≤ 1048576 := by omega
            have d3 : -1048576 ≤ e := by omega
            have d4 : e ≤ 1048576 := by omega
            have hz := Lib.hid (hstep.out (by rw [hac3.out, if_neg hbad]))
            clear hbad
            go_wp2_with fail
            refine (his f).out.mono ?_
            rw [show isB n f = true by simp [isB]; omega]
            rintro e1 w1 ⟨rfl, rfl⟩
            go_wp2_with fail
            refine (his t).out.mono ?_
            rw [show isB n t = true by simp [isB]; omega]
            rintro e1 w1 ⟨rfl, rfl⟩
            go_wp2
            go_roundw
            case rel => exact ⟨k + 1, by omega, by go_num, hz.out, hb.alloc hb.size _⟩
            case measure => simp [intOf]; omega
        · have heq' : f = t := by simpa using heq
          have hz := Lib.hid (hstop.out 3 (by rw [hac2.out, if_pos heq']) (by omega))
          clear heq'
          go_wp2_with fail
          refine (his f).out.mono ?_
          rw [show isB n f = true by simp [isB]; omega]
          rintro e1 w1 ⟨rfl, rfl⟩
          go_wp2_with fail
          refine (his t).out.mono ?_
          rw [show isB n t = true by simp [isB]; omega]
          rintro e1 w1 ⟨rfl, rfl⟩
          go_wp2
          go_ret
          exact ⟨by rw [hz.out]; rfl, hbw.alloc hbw.size _⟩
    · have hz := Lib.hid (show nfst n l = 0 by rw [hjH.out, List.drop_of_length_le (by rw [helH.out]; omega)]; rfl)
      go_wp2
      go_ret
      exact ⟨by rw [hz.out]; rfl, hbw⟩
theorem flowCheck_any (n : Int) (A : Option Addr) (len cap : Nat) (l : List Arc) (w : World) (hr : Rd w A len 4 (arcs l)) (hlen : len ≤ 9223372036854775807) :
    Calls Try.prog 17 #[.agg #[.int .i64 n, .slice A len cap]] w fun e w' => e = .returned (.int .i64 (nchk n l)) ∧ Below w.heap.size w w' := by
  have hel := arcs_len hr
  by_cases h : nlarge n len
  · rw [show nchk n l = 1 by rw [nchk, if_pos (by rw [hel]; exact h)]]
    exact flowCheck_large n A len cap w hlen h
  · rw [show nchk n l = nfst n l by rw [nchk, if_neg (by rw [hel]; exact h)]]
    unfold nlarge at h
    exact flowCheck_small n A len cap l w hr (by omega) (by omega) (by omega)
end Go.Proofs.Ytgengjneccpaiaa
