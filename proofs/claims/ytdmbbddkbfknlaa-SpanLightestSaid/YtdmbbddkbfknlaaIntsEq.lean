/- teamsterref.Ints: are two lists of numbers the same? -/
import Derived.Test.YtdmbbddkbfknlaaRows
import Derived.Test.YtdmbbddkbfknlaaBase
import Derived.BigQuiet
namespace Go.Proofs.Ytdmbbddkbfknlaa
open Go.RowKit

theorem eq_of_getD {zs ys : List Int} (hl : zs.length = ys.length) (h : ∀ j, j < zs.length → zs.getD j 0 = ys.getD j 0) : zs = ys := by
  refine List.ext_getElem hl fun i h1 h2 => ?_
  have := h i h1
  simpa [List.getD, h1, h2] using this
set_option maxHeartbeats 400000 in
theorem ints_any (A : Option Addr) (len cap : Nat) (zs : List Int) (B : Option Addr) (len' cap' : Nat) (ys : List Int) (w : World) (hz : Rd w A len 1 (ints .i64 zs)) (hl : len ≤ 9223372036854775807) (hy : Rd w B len' 1 (ints .i64 ys)) :
    Calls Try.prog 21 #[.slice A len cap, .slice B len' cap'] w fun e w' => e = .returned (.bool (decide (zs = ys))) ∧ Below w.heap.size w w' := by
  have hzl : zs.length = len := by simpa [ints] using hz.1
  have hyl : ys.length = len' := by simpa [ints] using hy.1
  by_cases hne : len = len'
  · subst hne
    have heq := Lib.hid (fun h => eq_of_getD (zs := zs) (ys := ys) (by omega) h)
    have hzl := Lib.hid hzl
    have hzH := Lib.hid hz; have hyH := Lib.hid hy; clear hz hy hyl
    have hnn : ((len : Int) != (len : Int)) = false := by simp
    go_enter Try.func21, Try.ntmps21
    go_wp2
    go_loopw [5] (fun i wr => ∃ k : Nat, k ≤ len ∧ i = .int .i64 k ∧ (∀ j, j < k → zs.getD j 0 = ys.getD j 0) ∧ Below w.heap.size w wr) (fun i _ => len - (intOf i).toNat)
    case atStart => exact ⟨0, Nat.zero_le _, rfl, fun j hj => absurd hj (by omega), Below.refl _ _⟩
    case round =>
      obtain ⟨k, hk, rfl, hp, hb⟩ := hrel
      have hpH := Lib.hid hp; clear hp
      have hbH := Lib.hid hb
      by_cases hlt : k < len
      · have hno : zs.getD k 0 ≠ ys.getD k 0 → decide (zs = ys) = false := fun h => by
          rw [decide_eq_false_iff_not]
          exact fun e => h (by rw [e])
        have hno := Lib.hid hno
        have hyes : zs.getD k 0 = ys.getD k 0 → ∀ j, j < k + 1 → zs.getD j 0 = ys.getD j 0 := fun h j hj => by
          by_cases hjk : j = k
          · subst hjk; exact h
          · exact hpH.out j (by omega)
        have hyes := Lib.hid hyes
        obtain ⟨b, o, rfl, hab, hc⟩ := (hzH.out.later hb).int hlt
        obtain ⟨b', o', rfl, hab', hc'⟩ := (hyH.out.later hb).int hlt
        generalize zs.getD k 0 = x at *
        generalize ys.getD k 0 = y at *
        have hk0 : (0 : Int) ≤ (k : Int) := by omega
        have hkl : (k : Int) < len := by omega
        clear hb
        by_cases hxy : x = y
        · have hy := Lib.hid (hyes.out hxy)
          subst hxy
          have hxx : (x != x) = false := by simp
          clear hyes hno
          go_wp2
          go_quiet (fail)
          go_wp2
          go_roundw
          case rel => exact ⟨k + 1, by omega, by go_num, hy.out, below_drewN hbH.out nq⟩
          case measure => simp [intOf]; omega
        · have hy := Lib.hid (hno.out hxy)
          have hxx : (x != y) = true := by simp [hxy]
          clear hyes hno hxy
          go_wp2
          go_quiet (fail)
          go_wp2
          go_ret
          exact ⟨by rw [hy.out]; rfl, below_drewN hbH.out nq⟩
      · have hy := Lib.hid (show decide (zs = ys) = true by
          rw [decide_eq_true_iff]
          exact heq.out fun j hj => hpH.out j (by rw [hzl.out] at hj; omega))
        go_wp2
        go_ret
        exact ⟨by rw [hy.out]; rfl, hbH.out⟩
  · have hv := Lib.hid (show decide (zs = ys) = false by
      rw [decide_eq_false_iff_not]
      exact fun e => hne (by rw [← hzl, ← hyl, e]))
    have hn : ((len : Int) != (len' : Int)) = true := by simp; omega
    clear hz hy hzl hyl
    go_enter Try.func21, Try.ntmps21
    go_wp2
    go_ret
    exact ⟨by rw [hv.out]; rfl, Below.refl _ _⟩
end Go.Proofs.Ytdmbbddkbfknlaa
