/- slices.Clone at int, of whatever slice (split off XCloneA). -/
import Derived.Test.YtfbomimkjiaohaaRows
import Derived.Test.YtfbomimkjiaohaaBase
namespace Go.Proofs.Ytfbomimkjiaohaa
open Go.RowKit
theorem tiIc : TI Try.prog 22 3 (.int .i64 0) 1 8 := TI.mk' Try.underlying22 (by kernel_rfl) rfl (by decide)
set_option maxHeartbeats 800000 in
theorem cloneAI (A : Option Addr) (n cap : Nat) (xs : List Int) (w : World) (hr : Rd w A n 1 (ints .i64 xs)) (hn : n ≤ 65536) :
    Calls Try.prog 11 #[.slice A n cap] w fun e w' => ∃ v, e = .returned v ∧ w'.ownsRow w.heap.size 3 1 v n (ints .i64 xs) ∧ Below w.heap.size w w' := by
  have hrH := Lib.hid hr
  have hxl : xs.length = n := by simpa [ints] using hr.1
  have hnil := fun W => Lib.run_eql_slice_nil (P := Try.prog) W 22 3 A n cap 0 0 Try.underlying22
  cases A with
  | none =>
    obtain rfl : n = 0 := Nat.eq_zero_of_not_pos fun h => by obtain ⟨b, o, e, _⟩ := hr.2 h; cases e
    have hx : xs = [] := List.length_eq_zero_iff.1 hxl
    subst hx
    clear hr
    go_enter Try.func11, Try.ntmps11
    go_wp2
    go_ret
    exact ⟨_, rfl, World.ownsRow_nil _ _ _ _, Below.refl _ _⟩
  | some a =>
    clear hr
    go_enter Try.func11, Try.ntmps11
    go_wp2_with (at_builtin; refine wpList_app (s := .tmp 5) (x := .tmp 6) _ tiIc (World.ownsRow_lit (base := w.heap.size) w #[] 0 (Nat.le_refl _) (Nat.zero_le _) rfl) (hrH.out.alloc _) ints_one (by omega) (by omega) (by simp) rfl rfl rfl rfl ?_)
    intro v' w' hown hg hat
    have hb : Below w.heap.size w w' := ((Below.refl _ _).alloc (Nat.le_refl _) _).grown hg (by simp) (by simp [Value.ownBlock])
    clear hg hat hnil
    go_wp2
    go_ret
    exact ⟨_, rfl, hown, hb⟩
end Go.Proofs.Ytfbomimkjiaohaa
