/- JobsCheck, Each, line.next. -/
import Derived.Test.YtgmoehkddohhfaaLineA
namespace Go.Proofs.Ytgmoehkddohhfaa
open Go.RowKit

set_option maxHeartbeats 1600000 in
theorem jobsCheck_any (A : Option Addr) (len cap : Nat) (l : List Jb) (w : World) (hr : RdJ w A len l) (hl : len ≤ 9223372036854775807) :
    Calls Try.prog 6 #[.slice A len cap] w fun e w' => e = .returned (.int .i64 (jchk l)) ∧ Below w.heap.size w w' := by
  have hel := hr.1
  by_cases h10 : 10 < len
  · have hv := Lib.hid (show jchk l = 1 by rw [jchk, if_pos (by omega)])
    clear hr hel
    go_enter Try.func6, Try.ntmps6
    go_wp2
    go_ret
    exact ⟨by rw [hv.out]; rfl, Below.refl _ _⟩
  · have hv0 := Lib.hid (show jchk l = if l.any longJ then 1 else jfst l.length l by rw [jchk, if_neg (by omega)])
    have hrH := Lib.hid hr; have helH := Lib.hid hel
    have hlen : len ≤ 10 := by omega
    clear hr hel h10
    go_enter Try.func6, Try.ntmps6
    go_wp2
    go_loopw [4, 14] (fun _ i wr => ∃ k : Nat, k ≤ len ∧ i = .int .i64 k ∧ (l.take k).any longJ = false ∧ Below w.heap.size w wr) (fun _ i _ => len - (intOf i).toNat)
    case atStart => exact ⟨0, Nat.zero_le _, rfl, rfl, Below.refl _ _⟩
    case round =>
      obtain ⟨k, hk, rfl, hj, hbr⟩ := hrel
      have hjH := Lib.hid hj
      have hsz := hbr.size
      clear hj
      by_cases hlt : k < len
      · obtain ⟨b, o, rfl, hab, hc0, hc1, hc2, hc3, hfit⟩ := (hrH.out.later hbr).at hlt
        have hy := Lib.hid (any_take_at (p := longJ) (l := l) (k := k) (by rw [helH.out]; exact hlt) hjH.out)
        have hno := Lib.hid (any_at (p := longJ) (l := l) (k := k) (by rw [helH.out]; exact hlt))
        have hlj := Lib.hid (show longJ (jat l k) = decide (10 < (jat l k).len) from rfl)
        generalize jat l k = a at *
        obtain ⟨t, A', l', c', du, wo, af⟩ := a
        have hl' := hfit.2.1
        unfold maxLen at hl'
        clear hfit
        simp only at hl'
        by_cases h10 : 10 < l'
        · have hres := Lib.hid (show jchk l = 1 by rw [hv0.out, if_pos (hno.out (by rw [hlj.out]; simpa using h10))])
          go_wp2
          go_ret
          exact ⟨by rw [hres.out]; rfl, hbr.alloc hsz _⟩
        · have hz := Lib.hid (hy.out (by rw [hlj.out]; simpa using h10))
          have h10' : l' ≤ 10 := by omega
          clear h10
          go_wp2
          go_roundw
          case rel => exact ⟨k + 1, by omega, by go_num, hz.out, hbr.alloc hsz _⟩
          case measure => simp [intOf]; omega
      · have hv := Lib.hid (show jchk l = jfst l.length l by
          have := hjH.out
          rw [List.take_of_length_le (by rw [helH.out]; omega)] at this
          rw [hv0.out, this]; rfl)
        clear hv0 hjH
        have hbrH := Lib.hid hbr
        clear hbr
        obtain rfl : k = len := by omega
        go_wp2
        go_loopw [6, 8, 25, 38, 39, 40] (fun _ _ i _ _ _ wr => ∃ m : Nat, m ≤ k ∧ i = .int .i64 m ∧ jfst l.length l = jfst l.length (l.drop m) ∧ Below w.heap.size w wr) (fun _ _ i _ _ _ _ => k - (intOf i).toNat)
        case atStart => exact ⟨0, Nat.zero_le _, rfl, rfl, hbrH.out⟩
        case round =>
          obtain ⟨m, hm, rfl, hj, hbr⟩ := hrel
          have hjH := Lib.hid hj
          have hsz := hbr.size
          clear hj
          by_cases hlt : m < k
          · obtain ⟨b, o, rfl, hab, hc0, hc1, hc2, hc3, hfit⟩ := (hrH.out.later hbr).at hlt
            have hstep := Lib.hid (jfst_step (n := l.length) (l := l) (k := m) (by rw [helH.out]; exact hlt) hjH.out)
            have hstop := Lib.hid (@jfst_stop l.length l m (by rw [helH.out]; exact hlt) hjH.out)
            have hbad := Lib.hid (show jbad l.length (jat l m) = if (jat l m).time < 0 ∨ 1048576 < (jat l m).time then 4 else if (jat l m).after.any (outK k) then 2 else 0 by rw [jbad, helH.out])
            generalize jat l m = a at *
            obtain ⟨t, A', l', c', du, wo, af⟩ := a
            have hfH := Lib.hid hfit.1
            have hl' := hfit.2.1
            unfold maxLen at hl'
            clear hfit
            simp only at hl'
            by_cases ht : t < 0 ∨ 1048576 < t
            · have hres := Lib.hid (show jchk l = 4 by rw [hv.out]; exact hstop.out 4 (by rw [hbad.out, if_pos ht]) (by omega))
              rcases ht with ht | ht
              all_goals
                go_wp2
                go_ret
                exact ⟨by rw [hres.out]; rfl, hbr.alloc hsz _⟩
            · have hb4 := Lib.hid (hbr.alloc hsz (.cells #[.int .i64 t, .slice A' l' c', .int .i64 du, .int .i64 wo] 32))
              have hfa := Lib.hid (hfH.out.alloc (.cells #[.int .i64 t, .slice A' l' c', .int .i64 du, .int .i64 wo] 32))
              have ht0 : 0 ≤ t := by omega
              have ht1 : t ≤ 1048576 := by omega
              have hbad2 := Lib.hid (show jbad l.length ⟨t, A', l', c', du, wo, af⟩ = if af.any (outK k) then 2 else 0 by rw [hbad.out]; exact if_neg ht)
              have hafl := Lib.hid (show af.length = l' by have := hfH.out.1; simpa [ints] using this)
              clear hbad ht
              go_wp2
              obtain ⟨wo', hwo⟩ : ∃ wo' : World, wo' = wr.alloc (.cells #[.int .i64 t, .slice A' l' c', .int .i64 du, .int .i64 wo] 32) := ⟨_, rfl⟩
              rw [← hwo] at hb4 hfa ⊢
              clear hwo
              go_loop [8, 40] (fun _ i => ∃ q : Nat, q ≤ l' ∧ i = .int .i64 q ∧ (af.take q).any (outK k) = false) (fun _ i => l' - (intOf i).toNat)
              case atStart => exact ⟨0, Nat.zero_le _, rfl, rfl⟩
              case round =>
                obtain ⟨q, hq, rfl, hp⟩ := hrel
                have hpH := Lib.hid hp; clear hp
                by_cases hlt2 : q < l'
                · obtain ⟨b2, o2, rfl, hab2, hc5⟩ := hfa.out.int hlt2
                  have hy := Lib.hid (any_take_succ' (outK k) 0 af q (by rw [hafl.out]; exact hlt2) hpH.out)
                  have hno := Lib.hid (any_of_getD' (outK k) 0 af q (by rw [hafl.out]; exact hlt2))
                  generalize af.getD q 0 = z at *
                  by_cases hz : 0 ≤ z ∧ z < k
                  · have hz' := Lib.hid (hy.out (by simp [outK]; omega))
                    obtain ⟨hz0, hz1⟩ := hz
                    go_wp2
                    go_round
                    case rel => exact ⟨q + 1, by omega, by go_num, hz'.out⟩
                    case measure => simp [intOf]; omega
                  · have hres := Lib.hid (show jchk l = 2 by rw [hv.out]; exact hstop.out 2 (by rw [hbad2.out, if_pos (hno.out (by simp [outK]; omega))]) (by omega))
                    by_cases hz0 : z < 0
                    · go_wp2
                      go_ret
                      exact ⟨by rw [hres.out]; rfl, hb4.out⟩
                    · have hz1 : (k : Int) ≤ z := by omega
                      go_wp2
                      go_ret
                      exact ⟨by rw [hres.out]; rfl, hb4.out⟩
                · have hz := Lib.hid (hstep.out (by
                    have := hpH.out
                    rw [List.take_of_length_le (by rw [hafl.out]; omega)] at this
                    rw [hbad2.out, this]; rfl))
                  go_wp2
                  go_roundw
                  case rel => exact ⟨m + 1, by omega, by go_num, hz.out, hb4.out⟩
                  case measure => simp [intOf]; omega
          · have hz := Lib.hid (show jchk l = 0 by rw [hv.out, hjH.out, List.drop_of_length_le (by rw [helH.out]; omega)]; rfl)
            go_wp2
            go_ret
            exact ⟨by rw [hz.out]; rfl, hbr⟩
end Go.Proofs.Ytgmoehkddohhfaa
