/- slices.Clone at int64; work and ends. -/
import Derived.Test.YtecillikakfdnaaSplitA
namespace Go.Proofs.Ytecillikakfdnaa
open Go.RowKit

theorem tiL : TI Try.prog 22 2 (.int .i64 0) 1 8 := TI.mk' Try.underlying22 (by kernel_rfl) rfl (by decide)
set_option maxHeartbeats 400000 in
theorem cloneL_any (g n cap : Nat) (xs : List Int) (w : World) (hr : Rd w (some ⟨g, 0, none⟩) n 1 (ints .i64 xs)) (hn : n ≤ 65536) :
    Calls Try.prog 12 #[.slice (some ⟨g, 0, none⟩) n cap] w fun e w' => ∃ g' cap', e = .returned (.slice (some ⟨g', 0, none⟩) n cap') ∧ w'.ownsRow w.heap.size 2 1 (.slice (some ⟨g', 0, none⟩) n cap') n (ints .i64 xs) ∧ Below w.heap.size w w' := by
  have hrH := Lib.hid hr; clear hr
  have hnil := fun W => Lib.run_eql_slice_nil (P := Try.prog) W 22 2 (some ⟨g, 0, none⟩) n cap 0 0 Try.underlying22
  go_enter Try.func12, Try.ntmps12
  go_wp2_with (at_builtin; refine wpList_app (s := .tmp 5) (x := .tmp 6) _ tiL (World.ownsRow_lit (base := w.heap.size) w #[] 0 (Nat.le_refl _) (Nat.zero_le _) rfl) (hrH.out.alloc _) ints_one (by omega) (by omega) (by simp) rfl rfl rfl rfl ?_)
  intro v' w' hown hg hat
  have hb : Below w.heap.size w w' := ((Below.refl _ _).alloc (Nat.le_refl _) _).grown hg (by simp) (by simp [Value.ownBlock])
  obtain ⟨g', cap', hv⟩ : ∃ g' cap', v' = .slice (some ⟨g', 0, none⟩) n cap' := by
    rcases Nat.eq_zero_or_pos n with h0 | h0
    · rcases hown.2 with ⟨rfl, _⟩ | ⟨g', cap', cur, rfl, _⟩
      · simp [Value.ownBlock] at hat
      · exact ⟨g', cap', rfl⟩
    · obtain ⟨g', cap', rfl, _⟩ := hown.form h0
      exact ⟨g', cap', rfl⟩
  subst hv
  clear hg hat hnil
  go_wp2
  go_ret
  exact ⟨g', cap', rfl, hown, hb⟩
theorem work_any (A : Option Addr) (len cap : Nat) (ts : List Int) (hands : Int) (w : World) (hr : Rd w A len 1 (ints .i64 ts)) (hl : len ≤ 9223372036854775807) :
    Calls Try.prog 7 #[.slice A len cap, .int .i64 hands] w fun e w' => e = .returned (.bool (schk ts hands == 0)) ∧ w = w' := by
  have H := Lib.hid (splitCheck_any A len cap ts hands w hr hl)
  clear hr
  go_enter Try.func7, Try.ntmps7
  go_wp2_with fail
  refine H.out.mono ?_
  rintro e w' ⟨rfl, rfl⟩
  go_wp2
  go_ret
  exact ⟨rfl, rfl⟩
/-- when all is done, as a list has it -/
def endsF (ts l : List Int) (hands : Nat) : Int := if l.length = ts.length ∧ insideB hands l = true then endTo ts l hands else -1
theorem ends_any (A A2 : Option Addr) (len cap len2 cap2 : Nat) (ts l : List Int) (hands : Nat) (w : World) (hr : Rd w A len 1 (ints .i64 ts)) (hr2 : Rd w A2 len2 1 (ints .i64 l)) (hl : len ≤ 100) (hl2 : len2 ≤ 9223372036854775807)
    (hb : ∀ i, 0 ≤ ts.getD i 0 ∧ ts.getD i 0 ≤ 1048576) (hh : hands ≤ 100) :
    Calls Try.prog 8 #[.slice A len cap, .int .i64 hands, .slice A2 len2 cap2] w fun e w' => e = .returned (.int .i64 (endsF ts l hands)) ∧ w = w' := by
  have hel : ts.length = len := by simpa [ints] using hr.1
  have hel2 : l.length = len2 := by simpa [ints] using hr2.1
  cases hq : ((len2 : Int) == (len : Int))
  · have hv := Lib.hid (show endsF ts l hands = -1 by rw [endsF, if_neg]; simp at hq; omega)
    have hq' : ((len2 : Int) != (len : Int)) = true := by simpa using hq
    clear hr hr2 hb hq
    go_enter Try.func8, Try.ntmps8
    go_wp2
    go_ret
    exact ⟨by rw [hv.out]; rfl, rfl⟩
  · have hq' : ((len2 : Int) != (len : Int)) = false := by simpa using hq
    have heq : len2 = len := by have := eq_of_beq hq; omega
    have H := Lib.hid (inside_any (hands : Int) A2 len2 cap2 l w hr2 hl2)
    have HE := Lib.hid (end_any A A2 len cap len2 cap2 ts l hands w hr hr2 (by omega) hl hb hh)
    have hv : endsF ts l hands = if insideB hands l = true then endTo ts l hands else -1 := by
      unfold endsF
      by_cases h : insideB hands l = true
      · rw [if_pos ⟨by omega, h⟩, if_pos h]
      · rw [if_neg (fun h' => h h'.2), if_neg h]
    have hvH := Lib.hid hv
    clear hr hr2 hb hq hv heq hel hel2
    go_enter Try.func8, Try.ntmps8
    go_wp2_with fail
    refine H.out.mono ?_
    rintro e w' ⟨rfl, rfl⟩
    cases hi : insideB hands l
    · have hv2 := Lib.hid (show endsF ts l hands = -1 by rw [hvH.out, hi]; rfl)
      go_wp2
      go_ret
      exact ⟨by rw [hv2.out]; rfl, rfl⟩
    · have hv2 := Lib.hid (show endsF ts l hands = endTo ts l hands by rw [hvH.out, hi]; rfl)
      go_wp2_with fail
      refine HE.out.mono ?_
      rintro e w' ⟨rfl, rfl⟩
      go_wp2
      go_ret
      exact ⟨by rw [hv2.out]; rfl, rfl⟩
end Go.Proofs.Ytecillikakfdnaa
