/- slices.Clone at int. -/
import Derived.Test.YtednlnlppedkiaaRows
import Derived.Test.YtednlnlppedkiaaBase
namespace Go.Proofs.Ytednlnlppedkiaa
open Go.RowKit
theorem tiIc : TI Try.prog 23 3 (.int .i64 0) 1 8 := TI.mk' Try.underlying23 (by kernel_rfl) rfl (by decide)
set_option maxHeartbeats 400000 in
theorem cloneI_any (g n cap : Nat) (xs : List Int) (w : World) (hr : Rd w (some ⟨g, 0, none⟩) n 1 (ints .i64 xs)) (hn : n ≤ 65536) :
    Calls Try.prog 30 #[.slice (some ⟨g, 0, none⟩) n cap] w fun e w' => ∃ g' cap', e = .returned (.slice (some ⟨g', 0, none⟩) n cap') ∧ w'.ownsRow w.heap.size 3 1 (.slice (some ⟨g', 0, none⟩) n cap') n (ints .i64 xs) ∧ Below w.heap.size w w' := by
  have hrH := Lib.hid hr; clear hr
  have hnil := fun W => Lib.run_eql_slice_nil (P := Try.prog) W 23 3 (some ⟨g, 0, none⟩) n cap 0 0 Try.underlying23
  go_enter Try.func30, Try.ntmps30
  go_wp2_with (at_builtin; refine wpList_app (s := .tmp 5) (x := .tmp 6) _ tiIc (World.ownsRow_lit (base := w.heap.size) w #[] 0 (Nat.le_refl _) (Nat.zero_le _) rfl) (hrH.out.alloc _) ints_one (by omega) (by omega) (by simp) rfl rfl rfl rfl ?_)
  intro v' w' hown hg hat
  have hb : Below w.heap.size w w' := ((Below.refl _ _).alloc (Nat.le_refl _) _).grown hg (by simp) (by simp [Value.ownBlock])
  obtain ⟨g', cap', hv⟩ : ∃ g' cap', v' = .slice (some ⟨g', 0, none⟩) n cap' := by
    rcases Nat.eq_zero_or_pos n with h0 | h0
    · rcases hown.2 with ⟨rfl, _⟩ | ⟨g', cap', cur, rfl, _⟩
      · simp [Value.ownBlock] at hat
      · exact ⟨g', cap', rfl⟩
    · obtain ⟨g', cap', rfl, _⟩ := hown.form h0
      exact ⟨g', cap', rfl⟩
  subst hv
  clear hg hat hnil
  go_wp2
  go_ret
  exact ⟨g', cap', rfl, hown, hb⟩
end Go.Proofs.Ytednlnlppedkiaa
