/- net, short.wrong, Longs. -/
import Derived.Test.YtemcolhpghjnkaaNetCheck
import Derived.Test.YtemcolhpghjnkaaInside
import Derived.Test.YtemcolhpghjnkaaRow
namespace Go.Proofs.Ytemcolhpghjnkaa
open Go.RowKit

def netB (n : Int) (l : List Arc) (s : Int) : Bool := decide (nchk n l = 0) && decide (0 ≤ s) && decide (s < n)
theorem net_bad (n s : Int) (A : Option Addr) (len cap : Nat) (l : List Arc) (w : World) (hr : Rd w A len 4 (arcs l)) (hlen : len ≤ 9223372036854775807) (h : nchk n l ≠ 0) :
    Calls Try.prog 7 #[.agg #[.int .i64 n, .slice A len cap], .int .i64 s] w fun e w' => e = .returned (.bool (netB n l s)) ∧ Below w.heap.size w w' := by
  have hz := Lib.hid (show netB n l s = false by simp [netB, h])
  have hb : (nchk n l == 0) = false := by simpa using h
  have HC := Lib.hid (netCheck_any n A len cap l _ (hr.alloc (.cells #[.int .i64 n, .slice A len cap] 24)) hlen)
  clear hr h
  go_enter Try.func7, Try.ntmps7
  go_wp2_with fail
  refine HC.out.mono ?_
  rintro e w' ⟨rfl, hbw⟩
  go_wp2
  go_ret
  exact ⟨by rw [hz.out]; rfl, ((Below.refl _ _).alloc (Nat.le_refl _) _).trans (hbw.mono (by simp))⟩
theorem insideB_one (n s : Int) : insideB n [s] = (decide (0 ≤ s) && decide (s < n)) := by simp [insideB, inB]
theorem net_ok (n s : Int) (A : Option Addr) (len cap : Nat) (l : List Arc) (w : World) (hr : Rd w A len 4 (arcs l)) (hlen : len ≤ 9223372036854775807) (h : nchk n l = 0) :
    Calls Try.prog 7 #[.agg #[.int .i64 n, .slice A len cap], .int .i64 s] w fun e w' => e = .returned (.bool (netB n l s)) ∧ Below w.heap.size w w' := by
  have hz := Lib.hid (show netB n l s = insideB n [s] by rw [insideB_one]; simp [netB, h])
  have HC := Lib.hid (netCheck_any n A len cap l _ (hr.alloc (.cells #[.int .i64 n, .slice A len cap] 24)) hlen)
  rw [h] at HC
  have HI := fun (W : World) => Lib.hid (inside_any n (some ⟨W.heap.size, 0, none⟩) 1 1 [s] _ (rd_new1 W (.int .i64 s) 3) (by omega))
  clear hr h
  go_enter Try.func7, Try.ntmps7
  go_wp2_with fail
  refine HC.out.mono ?_
  rintro e w1 ⟨rfl, hbw⟩
  have hb := ((Below.refl _ _).alloc (Nat.le_refl _) _).trans (hbw.mono (by simp))
  have hsz := hbw.size
  simp at hsz
  have q0 : w1.cell? ⟨w.heap.size, 0, none⟩ = some (.int .i64 n) := below_cell hbw (by simp) (by go_simp)
  go_wp2_with fail
  refine (HI w1).out.mono ?_
  rintro e w2 ⟨rfl, rfl⟩
  go_wp2
  go_ret
  exact ⟨by rw [hz.out]; rfl, hb.alloc hb.size _⟩
theorem net_any (n s : Int) (A : Option Addr) (len cap : Nat) (l : List Arc) (w : World) (hr : Rd w A len 4 (arcs l)) (hlen : len ≤ 9223372036854775807) :
    Calls Try.prog 7 #[.agg #[.int .i64 n, .slice A len cap], .int .i64 s] w fun e w' => e = .returned (.bool (netB n l s)) ∧ Below w.heap.size w w' := by
  by_cases h : nchk n l = 0
  · exact net_ok n s A len cap l w hr hlen h
  · exact net_bad n s A len cap l w hr hlen h
def swrong (n : Int) (l : List Arc) (zs : List Int) : Int := if nchk n l ≠ 0 then nchk n l else if insideB n zs then 0 else 2
set_option maxHeartbeats 800000 in
theorem wrong_any (n : Int) (A : Option Addr) (len cap : Nat) (l : List Arc) (B : Option Addr) (len2 cap2 : Nat) (zs : List Int) (w : World) (hr : Rd w A len 4 (arcs l)) (hlen : len ≤ 9223372036854775807) (hz : Rd w B len2 1 (ints .i64 zs)) (hl2 : len2 ≤ 9223372036854775807) :
    Calls Try.prog 13 #[.agg #[.int .i64 n, .slice A len cap], .slice B len2 cap2] w fun e w' => e = .returned (.int .i64 (swrong n l zs)) ∧ Below w.heap.size w w' := by
  have hzl : zs.length = len2 := by simpa [ints] using hz.1
  have HC := Lib.hid (flowCheck_any n A len cap l _ (hr.alloc (.cells #[.int .i64 n, .slice A len cap] 24)) hlen)
  have hzlH := Lib.hid hzl; have hzH := Lib.hid hz
  by_cases h : nchk n l = 0
  · have hs := Lib.hid (show swrong n l zs = if insideB n zs then 0 else 2 by rw [swrong, if_neg (by simpa using h)])
    rw [h] at HC
    clear hr h hz hzl
    go_enter Try.func13, Try.ntmps13
    go_wp2_with fail
    refine HC.out.mono ?_
    rintro e w1 ⟨rfl, hbw⟩
    have hb := ((Below.refl _ _).alloc (Nat.le_refl _) _).trans (hbw.mono (by simp))
    have hsz := hbw.size
    simp at hsz
    have q0 : w1.cell? ⟨w.heap.size, 0, none⟩ = some (.int .i64 n) := below_cell hbw (by simp) (by go_simp)
    have hz1 := Lib.hid (hzH.out.later hb)
    go_wp2
    go_loop [7, 15] (fun _ i => ∃ k : Nat, k ≤ len2 ∧ i = .int .i64 k ∧ (zs.take k).all (inB n) = true) (fun _ i => len2 - (intOf i).toNat)
    case atStart => exact ⟨0, Nat.zero_le _, rfl, rfl⟩
    case round =>
      obtain ⟨k, hk, rfl, hp⟩ := hrel
      have hpH := Lib.hid hp; clear hp
      by_cases hlt : k < len2
      · obtain ⟨b, o, rfl, hab, hc⟩ := hz1.out.int hlt
        have hy := Lib.hid (all_take_succ' (inB n) 0 zs k (by rw [hzlH.out]; exact hlt) hpH.out)
        have hno := Lib.hid (all_of_getD' (inB n) 0 zs k (by rw [hzlH.out]; exact hlt))
        generalize zs.getD k 0 = a at *
        by_cases h0 : a < 0
        · have hq := Lib.hid (show swrong n l zs = 2 by rw [hs.out, show insideB n zs = false from hno.out (by simp [inB]; omega)]; rfl)
          go_wp2
          go_ret
          exact ⟨by rw [hq.out]; rfl, hb⟩
        · have h0' : 0 ≤ a := by omega
          by_cases h1 : a < n
          · have hq := Lib.hid (show inB n a = true by simp [inB]; omega)
            go_wp2
            go_round
            case rel => exact ⟨k + 1, by omega, by go_num, hy.out hq.out⟩
            case measure => simp [intOf]; omega
          · have hq := Lib.hid (show swrong n l zs = 2 by rw [hs.out, show insideB n zs = false from hno.out (by simp [inB]; omega)]; rfl)
            have h1' : n ≤ a := by omega
            clear h1
            go_wp2
            go_ret
            exact ⟨by rw [hq.out]; rfl, hb⟩
      · have hq := Lib.hid (show swrong n l zs = 0 by
          have := hpH.out
          rw [List.take_of_length_le (by rw [hzlH.out]; omega)] at this
          rw [hs.out, show insideB n zs = true from this]; rfl)
        go_wp2
        go_ret
        exact ⟨by rw [hq.out]; rfl, hb⟩
  · have hs := Lib.hid (show swrong n l zs = nchk n l by rw [swrong, if_pos h])
    have hcb : (nchk n l != 0) = true := by simpa using h
    clear hr h hz hzl
    go_enter Try.func13, Try.ntmps13
    go_wp2_with fail
    refine HC.out.mono ?_
    rintro e w1 ⟨rfl, hbw⟩
    have hb := ((Below.refl _ _).alloc (Nat.le_refl _) _).trans (hbw.mono (by simp))
    go_wp2
    go_ret
    exact ⟨by rw [hs.out]; rfl, hb⟩
set_option maxHeartbeats 800000 in
theorem longs_any (A B : Option Addr) (n c c' : Nat) (F G : Nat → Int) (w : World) (hr : Rd w A n 1 (row n F)) (hr2 : Rd w B n 1 (row n G)) (hn : n ≤ 10) (hne : ∃ i, i < n ∧ F i ≠ G i) :
    Calls Try.prog 15 #[.slice A n c, .slice B n c'] w fun e w' => e = .returned (.bool false) ∧ Below w.heap.size w w' := by
  have hrH := Lib.hid hr; have hr2H := Lib.hid hr2; have hneH := Lib.hid hne
  clear hr hr2 hne
  go_enter Try.func15, Try.ntmps15
  go_wp2
  go_loopw [5] (fun i wr => ∃ k : Nat, k ≤ n ∧ i = .int .i64 k ∧ (∀ j, j < k → F j = G j) ∧ Below w.heap.size w wr) (fun i _ => n - (intOf i).toNat)
  case atStart => exact ⟨0, Nat.zero_le _, rfl, fun j hj => absurd hj (by omega), Below.refl _ _⟩
  case round =>
    obtain ⟨k, hk, rfl, hp, hb⟩ := hrel
    have hpH := Lib.hid hp; clear hp
    by_cases hlt : k < n
    · obtain ⟨b, o, rfl, hab, hc⟩ := (hrH.out.later hb).row hlt
      obtain ⟨b2, o2, rfl, hab2, hc2⟩ := (hr2H.out.later hb).row hlt
      have hk0 : (k : Int) < n := by omega
      have hnext := Lib.hid (show F k = G k → ∀ j, j < k + 1 → F j = G j from fun h j hj => by
        rcases Nat.lt_or_ge j k with h' | h'
        · exact hpH.out j h'
        · obtain rfl : j = k := by omega
          exact h)
      generalize F k = x at *
      generalize G k = y at *
      cases hq : (x == y)
      · have hq' : (x != y) = true := by simpa using hq
        go_wp2
        go_quiet (fail)
        go_wp2
        go_ret
        exact ⟨rfl, below_drewN hb _⟩
      · have hq' : (x != y) = false := by simpa using hq
        have hxy := Lib.hid (hnext.out (by simpa using hq))
        go_wp2
        go_quiet (fail)
        go_wp2
        go_roundw
        case rel => exact ⟨k + 1, by omega, by go_num, hxy.out, below_drewN hb _⟩
        case measure => simp [intOf]; omega
    · exfalso
      obtain ⟨i, hi, hne⟩ := hneH.out
      exact hne (hpH.out i (by omega))
end Go.Proofs.Ytemcolhpghjnkaa
