/- teamsterkeep.once: does each number come once? -/
import Derived.Test.YtdmbbddkbfknlaaHas
namespace Go.Proofs.Ytdmbbddkbfknlaa
open Go.RowKit

def onceB (zs : List Int) : Bool := (List.range zs.length).all fun k => !hasB (zs.take k) (zs.getD k 0)
theorem onceB_yes {zs : List Int} (h : ∀ k, k < zs.length → hasB (zs.take k) (zs.getD k 0) = false) : onceB zs = true := by
  unfold onceB
  rw [List.all_eq_true]
  intro k hk
  rw [h k (by simpa using hk)]
  rfl
theorem onceB_no {zs : List Int} {k : Nat} (hk : k < zs.length) (h : hasB (zs.take k) (zs.getD k 0) = true) : onceB zs = false := by
  unfold onceB
  rw [List.all_eq_false]
  exact ⟨k, by simpa using hk, by rw [h]; simp⟩
theorem onceB_of {n : Nat} {F : Nat → Int} (h : ∀ i k, i < k → k < n → F i ≠ F k) : onceB ((List.range n).map F) = true := by
  refine onceB_yes fun k hk => ?_
  have hk : k < n := by simpa using hk
  unfold hasB
  rw [List.any_eq_false]
  intro y hy
  obtain ⟨i, hi, hy⟩ := List.mem_take_iff_getElem.1 hy
  simp at hy hi
  subst hy
  have := h i k (by omega) hk
  simp [List.getD, hk]
  exact fun e => this e.symm
set_option maxHeartbeats 400000 in
theorem once_any (A : Option Addr) (len cap : Nat) (zs : List Int) (w : World) (hz : Rd w A len 1 (ints .i64 zs)) (hl : len ≤ 9223372036854775807) (hcap : len ≤ cap) :
    Calls Try.prog 19 #[.slice A len cap] w fun e w' => e = .returned (.bool (onceB zs)) ∧ w = w' := by
  have hzl : zs.length = len := by simpa [ints] using hz.1
  have hzl := Lib.hid hzl
  have hzH := Lib.hid hz; clear hz
  go_enter Try.func19, Try.ntmps19
  go_wp2
  go_loop [7] (fun i => ∃ k : Nat, k ≤ len ∧ i = .int .i64 k ∧ ∀ j, j < k → hasB (zs.take j) (zs.getD j 0) = false) (fun i => len - (intOf i).toNat)
  case atStart => exact ⟨0, Nat.zero_le _, rfl, fun j hj => absurd hj (by omega)⟩
  case round =>
    obtain ⟨k, hk, rfl, hp⟩ := hrel
    have hpH := Lib.hid hp; clear hp
    by_cases hlt : k < len
    · have HH := Lib.hid (fun W (h : w = W) => has_any (zs.getD k 0) A k cap (zs.take k) W (h ▸ hzH.out.part hk) (by omega))
      have hno := Lib.hid (onceB_no (zs := zs) (k := k) (by rw [hzl.out]; exact hlt))
      have hyes : hasB (zs.take k) (zs.getD k 0) = false → ∀ j, j < k + 1 → hasB (zs.take j) (zs.getD j 0) = false := fun h j hj => by
        by_cases hjk : j = k
        · subst hjk; exact h
        · exact hpH.out j (by omega)
      have hyes := Lib.hid hyes
      obtain ⟨b, o, rfl, hab, hc⟩ := hzH.out.int hlt
      generalize hasB (zs.take k) (zs.getD k 0) = bo at *
      generalize zs.getD k 0 = a at *
      have hk0 : (0 : Int) ≤ (k : Int) := by omega
      have hkc : (k : Int) ≤ cap := by omega
      cases bo
      · have hy := Lib.hid (hyes.out rfl)
        clear hyes hno
        go_wp2_with fail
        refine (HH.out _ rfl).mono ?_
        rintro e w3 ⟨rfl, rfl⟩
        go_wp2
        go_round
        case rel => exact ⟨k + 1, by omega, by go_num, hy.out⟩
        case measure => simp [intOf]; omega
      · have hy := Lib.hid (hno.out rfl)
        clear hyes hno
        go_wp2_with fail
        refine (HH.out _ rfl).mono ?_
        rintro e w3 ⟨rfl, rfl⟩
        go_wp2
        go_ret
        exact ⟨by rw [hy.out]; rfl, rfl⟩
    · have hy := Lib.hid (onceB_yes (zs := zs) (by rw [hzl.out]; intro j hj; exact hpH.out j (by omega)))
      go_wp2
      go_ret
      exact ⟨by rw [hy.out]; rfl, rfl⟩
end Go.Proofs.Ytdmbbddkbfknlaa
