/- Sinks. -/
import Derived.Test.YtemcolhpghjnkaaShortB
namespace Go.Proofs.Ytemcolhpghjnkaa
open Go.RowKit

set_option maxHeartbeats 1600000 in
theorem sinks_any (N s : Nat) (A : Option Addr) (len cap : Nat) (l : List Arc) (w : World) (hr : Rd w A len 4 (arcs l)) (hN : N ≤ 10) (hl : len ≤ 30) (hs : s < N) (hok : ∀ a ∈ l, AOk N a) (hne : ∃ i, i < N ∧ reach l s N i ≠ reach l s (N + 1) i) :
    Calls Try.prog 8 #[.agg #[.int .i64 N, .slice A len cap], .int .i64 s] w fun e w' => e = .returned (.bool true) ∧ Below w.heap.size w w' := by
  have hbw0 : Below w.heap.size w (w.alloc (Obj.cells #[Value.int IntKind.i64 (N : Int), Value.slice A len cap] 24)) := (Below.refl _ _).alloc (Nat.le_refl _) _
  have g0 : (w.alloc (Obj.cells #[Value.int IntKind.i64 (N : Int), Value.slice A len cap] 24)).cell? ⟨w.heap.size, 0, none⟩ = some (.int .i64 N) := by go_simp
  have g1 : (w.alloc (Obj.cells #[Value.int IntKind.i64 (N : Int), Value.slice A len cap] 24)).cell? ⟨w.heap.size, 1, none⟩ = some (.slice A len cap) := by go_simp
  have hS0 : w.heap.size < (w.alloc (Obj.cells #[Value.int IntKind.i64 (N : Int), Value.slice A len cap] 24)).heap.size := by simp
  go_enter Try.func8, Try.ntmps8
  go_wp2_with fail
  generalize w.alloc (Obj.cells #[Value.int IntKind.i64 (N : Int), Value.slice A len cap] 24) = W0 at *
  have hr0 := hr.later hbw0
  have HN := fun W (h : Below W0.heap.size W0 W) => reach_any N s N A len cap l W (hr0.later h) hN hl hs (by omega) hok
  have HM : ∀ W, Below W0.heap.size W0 W → Calls Try.prog 16 #[.agg #[.int .i64 N, .slice A len cap], .int .i64 s, .int .i64 ((N : Int) + 1)] W (RowPost N (reach l s (N + 1)) W) := fun W h => reach_any N s (N + 1) A len cap l W (hr0.later h) hN hl hs (by omega) hok
  have HL := fun A B c c' W (h1 : Rd W A N 1 (row N (reach l s N))) (h2 : Rd W B N 1 (row N (reach l s (N + 1)))) => longs_any A B N c c' _ _ W h1 h2 hN hne
  have HNH := Lib.hid HN; have HMH := Lib.hid HM; have HLH := Lib.hid HL
  have r0 := Below.refl W0.heap.size W0
  have hwr : IntKind.i64.wrap ((N : Int) + 1) = (N : Int) + 1 := IntWalk.i64_in _ (by omega)
  clear HN HM HL hr hok hne hr0
  go_region_held3 (fun w' => w'.cell? ⟨w.heap.size, 0, none⟩ = some (.int .i64 N) ∧ w'.cell? ⟨w.heap.size, 1, none⟩ = some (.slice A len cap)) (first | go_keep | exact ⟨below_cell bC hS0 g0, below_cell bC hS0 g1⟩ | exact ⟨below_cell bB hS0 g0, below_cell bB hS0 g1⟩ | exact ⟨below_cell bA hS0 g0, below_cell bA hS0 g1⟩) ((first
    | (go_at_call 16
       (with_reducible refine (HNH.out W0.drew (Below.drew r0)).mono ?_)
       rintro e wA ⟨A1, c1, rfl, hc1, rdA, bA0⟩
       have bA := (Below.drew r0).trans bA0)
    | (go_at_call 16
       (with_reducible refine (HMH.out W0.drew (Below.drew r0)).mono ?_)
       rintro e wA ⟨A2, c2, rfl, hc2, rdA, bA0⟩
       have bA := (Below.drew r0).trans bA0)
    | (go_at_call 16
       (with_reducible refine (HMH.out wA bA).mono ?_)
       rintro e wB ⟨A2, c2, rfl, hc2, rdB, bB0⟩
       have rd1 := rdA.later bB0
       have bB := bA.trans (bB0.mono bA.size))
    | (go_at_call 16
       (with_reducible refine (HNH.out wA bA).mono ?_)
       rintro e wB ⟨A1, c1, rfl, hc1, rd1, bB0⟩
       have rdB := rdA.later bB0
       have bB := bA.trans (bB0.mono bA.size))
    | (go_at_call 15
       (with_reducible refine (HLH.out A1 A2 c1 c2 wB rd1 rdB).mono ?_)
       rintro e wC ⟨rfl, bC0⟩
       have bC := bB.trans (bC0.mono bB.size))
    | fail))
  all_goals (go_wp2_with fail; go_ret; exact ⟨rfl, hbw0.trans (bC.mono hbw0.size)⟩)
end Go.Proofs.Ytemcolhpghjnkaa
