/- slices.Clone at jobs. (After XClose's cloneE.) -/
import Derived.Test.YtnpmmmicgpngpaaSortJ
namespace Go.Proofs.Ytnpmmmicgpngpaa
open Go.RowKit

theorem tiJ : TI Try.prog 22 31 (.agg #[.int .i64 0, .slice none 0 0, .int .i64 0, .int .i64 0]) 4 48 := TI.mk' Try.underlying22 (by kernel_rfl) rfl (by decide)
theorem jv_one (l : List Jb) : ∀ u ∈ l.flatMap jv, u.oneCell' = true := by
  intro u hu
  obtain ⟨j, _, hj⟩ := List.mem_flatMap.1 hu
  simp only [jv, List.mem_cons, List.not_mem_nil, or_false] at hj
  rcases hj with rfl | rfl | rfl | rfl <;> rfl
theorem JR_range (l : List Jb) : JR l (List.range l.length) = l.flatMap jv := by
  have : (List.range l.length).map (jat l) = l := by
    refine List.ext_getElem (by simp) fun i h1 h2 => ?_
    simp [jat, List.getD, h2]
  conv => rhs; rw [← this, List.flatMap_map]
  rfl
set_option maxHeartbeats 800000 in
theorem cloneJ (A : Option Addr) (n cap : Nat) (l : List Jb) (w : World) (hr : RdJ w A n l) (hn : n ≤ 65536) :
    Calls Try.prog 10 #[.slice A n cap] w fun e w' => ∃ v, e = .returned v ∧ w'.ownsRow w.heap.size 31 4 v n (JR l (List.range n)) ∧ Below w.heap.size w w' := by
  obtain ⟨hl, hr, _⟩ := hr
  have hrH := Lib.hid hr
  have hnil := fun W => Lib.run_eql_slice_nil (P := Try.prog) W 22 31 A n cap 0 0 Try.underlying22
  have hlH := Lib.hid hl
  have hJ := Lib.hid (show JR l (List.range n) = l.flatMap jv by rw [← hl]; exact JR_range l)
  cases A with
  | none =>
    obtain rfl : n = 0 := Nat.eq_zero_of_not_pos fun h => by obtain ⟨b, o, e, _⟩ := hr.2 (by omega); cases e
    have hx := Lib.hid (show JR l (List.range 0) = [] from rfl)
    clear hr hl
    go_enter Try.func10, Try.ntmps10
    go_wp2
    go_ret
    exact ⟨_, rfl, World.ownsRow_nil _ _ _ _, Below.refl _ _⟩
  | some a =>
    clear hr hl
    go_enter Try.func10, Try.ntmps10
    go_wp2_with (at_builtin; refine wpList_app (s := .tmp 5) (x := .tmp 6) _ tiJ (World.ownsRow_lit (base := w.heap.size) w #[] 0 (Nat.le_refl _) (Nat.zero_le _) rfl) (hrH.out.alloc _) (jv_one l) (by omega) (by omega) (by simp) rfl rfl rfl rfl ?_)
    intro v' w' hown hg hat
    have hb : Below w.heap.size w w' := ((Below.refl _ _).alloc (Nat.le_refl _) _).grown hg (by simp) (by simp [Value.ownBlock])
    clear hg hat hnil
    go_wp2
    go_ret
    exact ⟨_, rfl, by rw [hJ.out]; simpa using hown, hb⟩
end Go.Proofs.Ytnpmmmicgpngpaa
