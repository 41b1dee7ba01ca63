/- slices.Max, Index at int64 (split off XMinMax64). -/
import Derived.Test.YtnpmmmicgpngpaaRows
import Derived.Test.YtnpmmmicgpngpaaRow
namespace Go.Proofs.Ytnpmmmicgpngpaa
open Go.RowKit

theorem max_any (A : Option Addr) (n cap : Nat) (F : Nat → Int) (w : World) (hr : Rd w A n 1 (row n F)) (hn : 0 < n) (hl : n ≤ 9223372036854775807) :
    Calls Try.prog 13 #[.slice A n cap] w fun e w' => (∃ j, j < n ∧ e = .returned (.int .i64 (F j)) ∧ ∀ b, b < n → F b ≤ F j) ∧ w = w' := by
  obtain ⟨b0, o0, rfl, hab, hc0⟩ := hr.row hn
  have hrH := Lib.hid hr
  clear hr
  have h1 : (1 : Int) ≤ n := by omega
  have h0 : (0 : Int) < n := by omega
  rw [Nat.add_zero] at hc0
  go_enter Try.func13, Try.ntmps13
  go_wp2
  go_loop [3, 4] (fun m i => ∃ k j : Nat, 1 ≤ k ∧ k ≤ n ∧ i = .int .i64 k ∧ j < n ∧ m = .int .i64 (F j) ∧ ∀ b, b < k → F b ≤ F j) (fun _ i => n - (intOf i).toNat)
  case atStart => exact ⟨1, 0, Nat.le_refl _, by omega, rfl, hn, rfl, fun b hb => by have hb0 : b = 0 := (by omega); subst hb0; exact Int.le_refl _⟩
  case round =>
    obtain ⟨k, j, hk1, hk, rfl, hj, rfl, hm⟩ := hrel
    have hmH := Lib.hid hm
    clear hm
    by_cases hlt : k < n
    · obtain ⟨_, _, hA, _, hck⟩ := hrH.out.row hlt
      injection hA with hA
      injection hA with e1 e2 _
      subst e1 e2
      generalize ha : F j = a at *
      generalize hb : F k = c at *
      have haH := Lib.hid ha; have hbH := Lib.hid hb
      clear ha hb
      go_wp2
      go_round
      case rel =>
        by_cases hlt2 : a < c
        · exact ⟨k + 1, k, by omega, by omega, by go_num, hlt, by rw [hbH.out, if_pos hlt2], fun b hb => by
            rw [hbH.out]
            by_cases hbk : b < k
            · have := hmH.out b hbk; omega
            · obtain rfl : b = k := by omega
              rw [hbH.out]; exact Int.le_refl _⟩
        · exact ⟨k + 1, j, by omega, by omega, by go_num, hj, by rw [haH.out, if_neg hlt2], fun b hb => by
            rw [haH.out]
            by_cases hbk : b < k
            · exact hmH.out b hbk
            · obtain rfl : b = k := by omega
              rw [hbH.out]; omega⟩
      case measure => simp [intOf]; omega
    · obtain rfl : k = n := by omega
      go_wp2
      go_ret
      exact ⟨⟨j, hj, rfl, hmH.out⟩, rfl⟩
theorem index_any (A : Option Addr) (n cap : Nat) (F : Nat → Int) (r : Int) (w : World) (hr : Rd w A n 1 (row n F)) (hx : ∃ j, j < n ∧ F j = r) (hl : n ≤ 9223372036854775807) :
    Calls Try.prog 14 #[.slice A n cap, .int .i64 r] w fun e w' => (∃ k : Nat, k < n ∧ e = .returned (.int .i64 k) ∧ F k = r) ∧ w = w' := by
  have hrH := Lib.hid hr
  have hxH := Lib.hid hx
  clear hr hx
  go_enter Try.func14, Try.ntmps14
  go_wp2
  go_loop [5, 8] (fun _ i => ∃ k : Nat, k ≤ n ∧ i = .int .i64 k ∧ ∀ b, b < k → F b ≠ r) (fun _ i => n - (intOf i).toNat)
  case atStart => exact ⟨0, Nat.zero_le _, rfl, fun b hb => absurd hb (by omega)⟩
  case round =>
    obtain ⟨k, hk, rfl, hm⟩ := hrel
    have hmH := Lib.hid hm
    clear hm
    by_cases hlt : k < n
    · obtain ⟨b, o, rfl, hab, hck⟩ := hrH.out.row hlt
      generalize hb : F k = c at *
      have hbH := Lib.hid hb
      clear hb
      by_cases he : r = c
      · subst he
        go_wp2
        go_ret
        exact ⟨⟨k, hlt, rfl, hbH.out⟩, rfl⟩
      · have heb : (r == c) = false := by simpa using he
        have heH := Lib.hid he
        clear he
        go_wp2
        go_round
        case rel =>
          exact ⟨k + 1, by omega, by go_num, fun b hb => by
            by_cases hbk : b < k
            · exact hmH.out b hbk
            · obtain rfl : b = k := by omega
              rw [hbH.out]; exact fun e => heH.out e.symm⟩
        case measure => simp [intOf]; omega
    · obtain rfl : k = n := by omega
      obtain ⟨j, hj, he⟩ := hxH.out
      exact absurd he (hmH.out j hj)
end Go.Proofs.Ytnpmmmicgpngpaa
