/- teamsterref.Has: is a number in a list? -/
import Derived.Test.YtnkmfnnkophccaaDoorRows
import Derived.Test.YtnkmfnnkophccaaDoorBase
namespace Go.Proofs.YtnkmfnnkophccaaDoor
open Go.RowKit

theorem Rd.part {w : World} {A : Option Addr} {n : Nat} {zs : List Int} (h : Rd w A n 1 (ints .i64 zs)) {k : Nat} (hk : k ≤ n) : Rd w A k 1 (ints .i64 (zs.take k)) := by
  have hl : zs.length = n := by simpa [ints] using h.1
  refine ⟨by simp [ints]; omega, fun hn => ?_⟩
  obtain ⟨b, o, hA, hlt, hc⟩ := h.2 (by omega)
  refine ⟨b, o, hA, hlt, fun j hj => ?_⟩
  have h1 : j < k := by simpa [ints, Nat.min_eq_left (show k ≤ zs.length by omega)] using hj
  have := hc j (by simpa using Nat.lt_of_lt_of_le h1 hk)
  rw [this]
  simp [ints, h1, show j < zs.length by omega]
def hasB (zs : List Int) (x : Int) : Bool := zs.any fun y => x == y
set_option maxHeartbeats 400000 in
theorem has_any (x : Int) (A : Option Addr) (len cap : Nat) (zs : List Int) (w : World) (hz : Rd w A len 1 (ints .i64 zs)) (hl : len ≤ 9223372036854775807) :
    Calls Tryd.prog 18 #[.slice A len cap, .int .i64 x] w fun e w' => e = .returned (.bool (hasB zs x)) ∧ w = w' := by
  have hzl : zs.length = len := by simpa [ints] using hz.1
  have hzl := Lib.hid hzl
  have hzH := Lib.hid hz; clear hz
  go_enter Tryd.func18, Tryd.ntmps18
  go_wp2
  go_loop [9] (fun i => ∃ k : Nat, k ≤ len ∧ i = .int .i64 k ∧ (zs.take k).any (fun y => x == y) = false) (fun i => len - (intOf i).toNat)
  case atStart => exact ⟨0, Nat.zero_le _, rfl, rfl⟩
  case round =>
    obtain ⟨k, hk, rfl, hp⟩ := hrel
    have hpH := Lib.hid hp; clear hp
    by_cases hlt : k < len
    · obtain ⟨b, o, rfl, hab, hc⟩ := hzH.out.int hlt
      have hy := Lib.hid (any_take_succ' (fun y => x == y) 0 zs k (by rw [hzl.out]; exact hlt) hpH.out)
      have hno := Lib.hid (any_of_getD' (fun y => x == y) 0 zs k (by rw [hzl.out]; exact hlt))
      generalize zs.getD k 0 = a at *
      cases hq : (x == a)
      · have hqH := Lib.hid hq
        go_wp2
        go_round
        case rel => exact ⟨k + 1, by omega, by go_num, hy.out hqH.out⟩
        case measure => simp [intOf]; omega
      · have hr := Lib.hid (show hasB zs x = true from hno.out hq)
        go_wp2
        go_ret
        exact ⟨by rw [hr.out]; rfl, rfl⟩
    · have hr := Lib.hid (show hasB zs x = false by
        have := hpH.out
        rwa [List.take_of_length_le (by rw [hzl.out]; omega)] at this)
      go_wp2
      go_ret
      exact ⟨by rw [hr.out]; rfl, rfl⟩
end Go.Proofs.YtnkmfnnkophccaaDoor
