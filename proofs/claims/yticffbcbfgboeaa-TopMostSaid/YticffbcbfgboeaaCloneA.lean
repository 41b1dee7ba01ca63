/- slices.Clone at int and at Worker, of whatever slice. -/
import Derived.Test.YticffbcbfgboeaaRows
import Derived.Test.YticffbcbfgboeaaBase
namespace Go.Proofs.Yticffbcbfgboeaa
open Go.RowKit
theorem tiIc : TI Try.prog 29 3 (.int .i64 0) 1 8 := TI.mk' Try.underlying29 (by kernel_rfl) rfl (by decide)
theorem tiWc : TI Try.prog 22 39 (.agg #[.int .i64 0, .int .u32 0]) 2 16 := TI.mk' Try.underlying22 (by kernel_rfl) rfl (by decide)
set_option maxHeartbeats 800000 in
theorem cloneAI (A : Option Addr) (n cap : Nat) (xs : List Int) (w : World) (hr : Rd w A n 1 (ints .i64 xs)) (hn : n ≤ 65536) :
    Calls Try.prog 31 #[.slice A n cap] w fun e w' => ∃ v, e = .returned v ∧ w'.ownsRow w.heap.size 3 1 v n (ints .i64 xs) ∧ Below w.heap.size w w' := by
  have hrH := Lib.hid hr
  have hxl : xs.length = n := by simpa [ints] using hr.1
  have hnil := fun W => Lib.run_eql_slice_nil (P := Try.prog) W 29 3 A n cap 0 0 Try.underlying29
  cases A with
  | none =>
    obtain rfl : n = 0 := Nat.eq_zero_of_not_pos fun h => by obtain ⟨b, o, e, _⟩ := hr.2 h; cases e
    have hx : xs = [] := List.length_eq_zero_iff.1 hxl
    subst hx
    clear hr
    go_enter Try.func31, Try.ntmps31
    go_wp2
    go_ret
    exact ⟨_, rfl, World.ownsRow_nil _ _ _ _, Below.refl _ _⟩
  | some a =>
    clear hr
    go_enter Try.func31, Try.ntmps31
    go_wp2_with (at_builtin; refine wpList_app (s := .tmp 5) (x := .tmp 6) _ tiIc (World.ownsRow_lit (base := w.heap.size) w #[] 0 (Nat.le_refl _) (Nat.zero_le _) rfl) (hrH.out.alloc _) ints_one (by omega) (by omega) (by simp) rfl rfl rfl rfl ?_)
    intro v' w' hown hg hat
    have hb : Below w.heap.size w w' := ((Below.refl _ _).alloc (Nat.le_refl _) _).grown hg (by simp) (by simp [Value.ownBlock])
    clear hg hat hnil
    go_wp2
    go_ret
    exact ⟨_, rfl, hown, hb⟩
set_option maxHeartbeats 800000 in
theorem cloneAW (A : Option Addr) (n cap : Nat) (xs : List (Int × Int)) (w : World) (hr : Rd w A n 2 (ps2 .i64 .u32 xs)) (hn : n ≤ 65536) :
    Calls Try.prog 27 #[.slice A n cap] w fun e w' => ∃ v, e = .returned v ∧ w'.ownsRow w.heap.size 39 2 v n (ps2 .i64 .u32 xs) ∧ Below w.heap.size w w' := by
  have hrH := Lib.hid hr
  have hxl : xs.length = n := by have := hr.1; rw [ps2_length] at this; omega
  have hnil := fun W => Lib.run_eql_slice_nil (P := Try.prog) W 22 39 A n cap 0 0 Try.underlying22
  cases A with
  | none =>
    obtain rfl : n = 0 := Nat.eq_zero_of_not_pos fun h => by obtain ⟨b, o, e, _⟩ := hr.2 h; cases e
    have hx : xs = [] := List.length_eq_zero_iff.1 hxl
    subst hx
    clear hr
    go_enter Try.func27, Try.ntmps27
    go_wp2
    go_ret
    exact ⟨_, rfl, World.ownsRow_nil _ _ _ _, Below.refl _ _⟩
  | some a =>
    clear hr
    go_enter Try.func27, Try.ntmps27
    go_wp2_with (at_builtin; refine wpList_app (s := .tmp 5) (x := .tmp 6) _ tiWc (World.ownsRow_lit (base := w.heap.size) w #[] 0 (Nat.le_refl _) (Nat.zero_le _) rfl) (hrH.out.alloc _) (ps2_one (l := xs)) (by omega) (by omega) (by simp) rfl rfl rfl rfl ?_)
    intro v' w' hown hg hat
    have hb : Below w.heap.size w w' := ((Below.refl _ _).alloc (Nat.le_refl _) _).grown hg (by simp) (by simp [Value.ownBlock])
    clear hg hat hnil
    go_wp2
    go_ret
    exact ⟨_, rfl, hown, hb⟩
end Go.Proofs.Yticffbcbfgboeaa
