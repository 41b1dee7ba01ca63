/- teamsterref.Each: is each number from 0 to below n once in a list? -/
import Derived.Test.YtcbmbofbiodhmaaDoorHas
namespace Go.Proofs.YtcbmbofbiodhmaaDoor
open Go.RowKit

theorem Rd.takeI {w : World} {A : Option Addr} {n : Nat} {k : IntKind} {zs : List Int} (h : Rd w A n 1 (ints k zs)) {j : Nat} (hj : j ≤ n) : Rd w A j 1 (ints k (zs.take j)) := by
  have hl : zs.length = n := by simpa [ints] using h.1
  refine ⟨by simp [ints]; omega, fun h0 => ?_⟩
  obtain ⟨b, o, rfl, hlt, hc⟩ := h.2 (by omega)
  refine ⟨b, o, rfl, hlt, fun i hi => ?_⟩
  rw [hc i (by omega)]
  simp only [ints, List.map_take]
  rw [List.getElem?_take_of_lt (by omega)]
def badE (n : Int) (zs : List Int) (k : Nat) : Bool := decide (zs.getD k 0 < 0) || decide (n ≤ zs.getD k 0) || hasB (zs.take k) (zs.getD k 0)
def eachB (n : Int) (zs : List Int) : Bool := !(List.range zs.length).any (badE n zs) && decide ((zs.length : Int) = n)
theorem eachTo_succ {n : Int} {zs : List Int} {k : Nat} (h : (List.range k).any (badE n zs) = false) (h' : badE n zs k = false) : (List.range (k + 1)).any (badE n zs) = false := by
  rw [List.range_succ, List.any_append, h, List.any_cons, h']; rfl
theorem each_stop {n : Int} {zs : List Int} {k : Nat} (hk : k < zs.length) (h' : badE n zs k = true) : eachB n zs = false := by
  unfold eachB
  rw [List.any_eq_true.2 ⟨k, by simpa using hk, h'⟩]
  rfl
set_option maxHeartbeats 800000 in
theorem eachL_any (n : Int) (A : Option Addr) (len cap : Nat) (zs : List Int) (w : World) (hz : Rd w A len 1 (ints .i64 zs)) (hl : len ≤ 9223372036854775807) (hcap : len ≤ cap) :
    Calls Tryd.prog 8 #[.int .i64 n, .slice A len cap] w fun e w' => e = .returned (.bool (eachB n zs)) ∧ w = w' := by
  have hzl : zs.length = len := by simpa [ints] using hz.1
  have hzl := Lib.hid hzl
  have hzH := Lib.hid hz; clear hz
  go_enter Tryd.func8, Tryd.ntmps8
  go_wp2
  go_loop [5, 6, 9] (fun _ _ i => ∃ k : Nat, k ≤ len ∧ i = .int .i64 k ∧ (List.range k).any (badE n zs) = false) (fun _ _ i => len - (intOf i).toNat)
  case atStart => exact ⟨0, Nat.zero_le _, rfl, rfl⟩
  case round =>
    obtain ⟨k, hk, rfl, hp⟩ := hrel
    have hpH := Lib.hid hp; clear hp
    by_cases hlt : k < len
    · obtain ⟨b, o, rfl, hab, hc⟩ := hzH.out.int hlt
      have hy := Lib.hid (@eachTo_succ n zs k hpH.out)
      have hno := Lib.hid (@each_stop n zs k (by rw [hzl.out]; exact hlt))
      have hbd := Lib.hid (show badE n zs k = (decide (zs.getD k 0 < 0) || decide (n ≤ zs.getD k 0) || hasB (zs.take k) (zs.getD k 0)) from rfl)
      have HH := Lib.hid (has_any (zs.getD k 0) (some ⟨b, o, none⟩) k cap (zs.take k) w (hzH.out.takeI (Nat.le_of_lt hlt)) (by omega))
      generalize zs.getD k 0 = a at *
      by_cases h0 : a < 0
      · have hr := Lib.hid (show eachB n zs = false from hno.out (by rw [hbd.out]; simp [h0]))
        go_wp2
        go_ret
        exact ⟨by rw [hr.out]; rfl, rfl⟩
      · by_cases h1 : n ≤ a
        · have hr := Lib.hid (show eachB n zs = false from hno.out (by rw [hbd.out]; simp [h1]))
          go_wp2
          go_ret
          exact ⟨by rw [hr.out]; rfl, rfl⟩
        · have h0' : 0 ≤ a := by omega
          have h1' : a < n := by omega
          have hbd2 := Lib.hid (show badE n zs k = hasB (zs.take k) a by rw [hbd.out]; simp [h0, h1])
          have hkc : k ≤ cap := by omega
          clear h0 h1 hbd
          cases hq : hasB (zs.take k) a
          · rw [hq] at HH
            have hqH := Lib.hid (hy.out (by rw [hbd2.out, hq]))
            clear hq
            go_wp2_with fail
            refine HH.out.mono ?_
            rintro e w' ⟨rfl, rfl⟩
            go_wp2
            go_round
            case rel => exact ⟨k + 1, by omega, by go_num, hqH.out⟩
            case measure => simp [intOf]; omega
          · rw [hq] at HH
            have hr := Lib.hid (show eachB n zs = false from hno.out (by rw [hbd2.out, hq]))
            clear hq
            go_wp2_with fail
            refine HH.out.mono ?_
            rintro e w' ⟨rfl, rfl⟩
            go_wp2
            go_ret
            exact ⟨by rw [hr.out]; rfl, rfl⟩
    · obtain rfl : k = len := by omega
      have hr := Lib.hid (show eachB n zs = decide ((k : Int) = n) by
        have := hpH.out
        unfold eachB
        rw [hzl.out, this]; rfl)
      go_wp2
      go_ret
      exact ⟨by rw [hr.out]; simp [Bool.beq_eq_decide_eq], rfl⟩
end Go.Proofs.YtcbmbofbiodhmaaDoor
