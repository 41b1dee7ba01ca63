/- short.Far. -/
import Derived.Test.YtemcolhpghjnkaaShortD
namespace Go.Proofs.Ytemcolhpghjnkaa
open Go.RowKit

def nil3 (c : Int) : Ending := .returned (.tuple #[.slice none 0 0, .slice none 0 0, .int .i64 c])
def FarBad (c : Int) (w : World) (e : Ending) (w' : World) : Prop := e = nil3 c ∧ Below w.heap.size w w'
def FarPost (N s : Nat) (l : List Arc) (w : World) (e : Ending) (w' : World) : Prop :=
  Below w.heap.size w w' ∧ (((bfRun l (N + 1) (bfInit s)).2 = false ∧ e = nil3 5) ∨ ((bfRun l (N + 1) (bfInit s)).2 = true ∧
    ∃ bf bh, e = .returned (.tuple #[.slice (some ⟨bf, 0, none⟩) N N, .slice (some ⟨bh, 0, none⟩) N N, .int .i64 0]) ∧
      w'.ownsRow w.heap.size 2 1 (.slice (some ⟨bf, 0, none⟩) N N) N (row N (bfRun l (N + 1) (bfInit s)).1.F) ∧ w'.ownsRow w.heap.size 4 1 (.slice (some ⟨bh, 0, none⟩) N N) N (brow N (bfRun l (N + 1) (bfInit s)).1.T)))
set_option maxHeartbeats 800000 in
theorem far_bad (n s : Int) (A : Option Addr) (len cap : Nat) (l : List Arc) (w : World) (hr : Rd w A len 4 (arcs l)) (hlen : len ≤ 9223372036854775807) (hc : swrong n l [s] ≠ 0) :
    Calls Try.prog 6 #[.agg #[.int .i64 n, .slice A len cap], .int .i64 s] w (FarBad (swrong n l [s]) w) := by
  have hcb : (swrong n l [s] != 0) = true := by simpa using hc
  have HW := Lib.hid (wrong_any n A len cap l (some ⟨(w.alloc (.cells #[.int .i64 n, .slice A len cap] 24)).heap.size, 0, none⟩) 1 1 [s] _ ((hr.alloc (.cells #[.int .i64 n, .slice A len cap] 24)).alloc (.cells #[.int .i64 s] 3)) hlen (rd_new1 _ (.int .i64 s) 3) (by omega))
  rw [World.size_alloc] at HW
  clear hr hc
  go_enter Try.func6, Try.ntmps6
  go_wp2_with fail
  refine HW.out.mono ?_
  rintro e w1 ⟨rfl, hb⟩
  go_wp2
  go_ret3
  exact ⟨rfl, (((Below.refl _ _).alloc (Nat.le_refl _) _).alloc (by simp) _).trans (hb.mono (by simp; omega))⟩
set_option maxHeartbeats 1600000 in
theorem far_ok (N s : Nat) (A : Option Addr) (len cap : Nat) (l : List Arc) (w : World) (hr : Rd w A len 4 (arcs l)) (hN : N ≤ 10) (hl : len ≤ 30) (hs : s < N) (hok : ∀ a ∈ l, AOk N a) (hc : swrong N l [(s : Int)] = 0) :
    Calls Try.prog 6 #[.agg #[.int .i64 N, .slice A len cap], .int .i64 s] w (FarPost N s l w) := by
  have HW := Lib.hid (wrong_any N A len cap l (some ⟨(w.alloc (.cells #[.int .i64 N, .slice A len cap] 24)).heap.size, 0, none⟩) 1 1 [(s : Int)] _ ((hr.alloc (.cells #[.int .i64 N, .slice A len cap] 24)).alloc (.cells #[.int .i64 s] 3)) (by omega) (rd_new1 _ (.int .i64 s) 3) (by omega))
  rw [World.size_alloc, hc] at HW
  have g0 : (w.alloc (Obj.cells #[Value.int IntKind.i64 (N : Int), Value.slice A len cap] 24)).cell? ⟨w.heap.size, 0, none⟩ = some (.int .i64 N) := by go_simp
  have g1 : (w.alloc (Obj.cells #[Value.int IntKind.i64 (N : Int), Value.slice A len cap] 24)).cell? ⟨w.heap.size, 1, none⟩ = some (.slice A len cap) := by go_simp
  have hrH := Lib.hid hr; have hokH := Lib.hid hok
  clear hr hok hc
  go_enter Try.func6, Try.ntmps6
  go_wp2_with fail
  refine HW.out.mono ?_
  rintro e w1 ⟨rfl, hb⟩
  have hbw := (((Below.refl w.heap.size w).alloc (Nat.le_refl _) (.cells #[.int .i64 N, .slice A len cap] 24)).alloc (by simp) (.cells #[.int .i64 s] 3)).trans (hb.mono (by simp; omega))
  have hsz := hb.size
  simp at hsz
  have q0 : w1.cell? ⟨w.heap.size, 0, none⟩ = some (.int .i64 N) := below_cell hb (by simp; omega) (alloc_cell (by simp) g0 _)
  have q1 : w1.cell? ⟨w.heap.size, 1, none⟩ = some (.slice A len cap) := below_cell hb (by simp; omega) (alloc_cell (by simp) g1 _)
  have HF := Lib.hid (from_any N s A len cap l w1 (hrH.out.later hbw) hN hl hs hokH.out)
  clear HW hb g0 g1
  go_wp2_with fail
  refine HF.out.mono ?_
  rintro e w2 ⟨bf, bh, rfl, rf, rh, hb2⟩
  have hbe := hbw.trans (hb2.mono hbw.size)
  have rfH := Lib.hid rf; have rhH := Lib.hid rh
  have hbase := hbw.size
  clear rf rh HF
  cases hq : (bfRun l (N + 1) (bfInit s)).2
  · have hqH := Lib.hid hq
    clear hq
    go_wp2
    go_ret3
    exact ⟨hbe.alloc hbe.size _, .inl ⟨hqH.out, rfl⟩⟩
  · have hqH := Lib.hid hq
    clear hq
    go_wp2
    go_quiet (fail)
    go_wp2
    go_ret3
    exact ⟨below_drewN (hbe.alloc hbe.size _) _, .inr ⟨hqH.out, bf, bh, rfl, own_drewN ((own_base hbase rfH.out).alloc _) _, own_drewN ((own_base hbase rhH.out).alloc _) _⟩⟩
end Go.Proofs.Ytemcolhpghjnkaa
