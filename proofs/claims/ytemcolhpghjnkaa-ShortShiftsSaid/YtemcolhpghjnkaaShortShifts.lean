/- ShortShifts: the walk. -/
import Derived.Test.YtemcolhpghjnkaaShortBellman
import Derived.Test.YtemcolhpghjnkaaShiftsLaw
namespace Go.Proofs.Ytemcolhpghjnkaa
open Go.RowKit

def FarRes (N s : Nat) (l : List Arc) (B : Nat) (w' : World) (x y : Value) (c : Int) : Prop :=
  ((bfRun l (N + 1) (bfInit s)).2 = false ∧ x = .slice none 0 0 ∧ y = .slice none 0 0 ∧ c = 5) ∨ ((bfRun l (N + 1) (bfInit s)).2 = true ∧ ∃ bf bh, x = .slice (some ⟨bf, 0, none⟩) N N ∧ y = .slice (some ⟨bh, 0, none⟩) N N ∧ c = 0 ∧
    w'.ownsRow B 2 1 (.slice (some ⟨bf, 0, none⟩) N N) N (row N (bfRun l (N + 1) (bfInit s)).1.F) ∧ w'.ownsRow B 4 1 (.slice (some ⟨bh, 0, none⟩) N N) N (brow N (bfRun l (N + 1) (bfInit s)).1.T))
theorem FarPost.split {N s : Nat} {l : List Arc} {w w' : World} {e : Ending} (h : FarPost N s l w e w') : Below w.heap.size w w' ∧ ∃ x y c, e = .returned (.tuple #[x, y, .int .i64 c]) ∧ FarRes N s l w.heap.size w' x y c := by
  obtain ⟨h1, h2 | ⟨h2, bf, bh, rfl, h3, h4⟩⟩ := h
  · exact ⟨h1, _, _, _, h2.2, .inl ⟨h2.1, rfl, rfl, rfl⟩⟩
  · exact ⟨h1, _, _, _, rfl, .inr ⟨h2, bf, bh, rfl, rfl, rfl, h3, h4⟩⟩
theorem FarRes.later {N s : Nat} {l : List Arc} {B : Nat} {w w' : World} {x y : Value} {c : Int} (h : FarRes N s l B w x y c) (hb : Below w.heap.size w w') : FarRes N s l B w' x y c := by
  rcases h with h | ⟨h1, bf, bh, h2, h3, h4, h5, h6⟩
  · exact .inl h
  · exact .inr ⟨h1, bf, bh, h2, h3, h4, own_below h5 hb, own_below h6 hb⟩
theorem tiA : TI Try.prog 22 32 (.agg #[.int .i64 0, .int .i64 0, .int .i64 0, .int .i64 0]) 4 32 := TI.mk' Try.underlying22 (by kernel_rfl) rfl (by decide)
theorem shifts_bad (n s : Int) (A : Option Addr) (len cap : Nat) (l : List Arc) (B : Option Addr) (len2 cap2 : Nat) (w : World) (hr : Rd w A len 4 (arcs l)) (hlen : len ≤ 9223372036854775807) (hc : swrong n l [s] ≠ 0) :
    Calls Try.prog 4 #[.agg #[.int .i64 n, .slice A len cap], .int .i64 s, .slice B len2 cap2] w fun e w' => e = .returned (.bool true) ∧ Below w.heap.size w w' := by
  have hcb : (swrong n l [s] != 0) = true := by simpa using hc
  have hnB := Lib.hid (show netB n l s = false by rw [netB_swrong]; simpa using hc)
  have HF := Lib.hid (far_bad n s A len cap l _ (hr.alloc (.cells #[.int .i64 n, .slice A len cap] 24)) hlen hc)
  have hrH := Lib.hid hr
  have hcbH := Lib.hid hcb
  clear hr hc hcb
  have g0 : (w.alloc (Obj.cells #[Value.int IntKind.i64 n, Value.slice A len cap] 24)).cell? ⟨w.heap.size, 0, none⟩ = some (.int .i64 n) := by go_simp
  have g1 : (w.alloc (Obj.cells #[Value.int IntKind.i64 n, Value.slice A len cap] 24)).cell? ⟨w.heap.size, 1, none⟩ = some (.slice A len cap) := by go_simp
  go_enter Try.func4, Try.ntmps4
  go_wp2_with fail
  refine HF.out.mono ?_
  rintro e w1 ⟨rfl, hb⟩
  have hbw := ((Below.refl w.heap.size w).alloc (Nat.le_refl _) (.cells #[.int .i64 n, .slice A len cap] 24)).trans (hb.mono (by simp))
  have hS1 : w.heap.size < w1.heap.size := by have := hb.size; simp at this; omega
  have q0 : w1.cell? ⟨w.heap.size, 0, none⟩ = some (.int .i64 n) := below_cell hb (by simp) g0
  have q1 : w1.cell? ⟨w.heap.size, 1, none⟩ = some (.slice A len cap) := below_cell hb (by simp) g1
  have HN := Lib.hid (fun W (h : Below w1.heap.size w1 W) => net_any n s A len cap l W ((hrH.out.later hbw).later h) hlen)
  rw [hnB.out] at HN
  have hcb := hcbH.out
  clear g0 g1 hb
  unfold nil3
  go_wp2_with fail
  refine (HN.out w1 (Below.refl _ _)).mono ?_
  rintro e w2 ⟨rfl, hb2⟩
  have q0 := below_cell hb2 hS1 q0
  have q1 := below_cell hb2 hS1 q1
  go_wp2_with fail
  refine (HN.out w2 hb2).mono ?_
  rintro e w3 ⟨rfl, hb3⟩
  go_wp2
  go_ret
  exact ⟨rfl, (hbw.trans (hb2.mono hbw.size)).trans (hb3.mono (by have := hb2.size; omega))⟩
theorem shifts_len (N s : Nat) (A : Option Addr) (len cap : Nat) (l : List Arc) (B : Option Addr) (len2 cap2 : Nat) (w : World) (hr : Rd w A len 4 (arcs l)) (hN : N ≤ 10) (hl : len ≤ 30) (hs : s < N) (hok : ∀ a ∈ l, AOk N a) (hc : swrong N l [(s : Int)] = 0) (h2 : len2 ≠ N) :
    Calls Try.prog 4 #[.agg #[.int .i64 N, .slice A len cap], .int .i64 s, .slice B len2 cap2] w fun e w' => e = .returned (.bool true) ∧ Below w.heap.size w w' := by
  have hnB := Lib.hid (show netB N l s = true by rw [netB_swrong]; simpa using hc)
  have HF := Lib.hid (far_ok N s A len cap l _ (hr.alloc (.cells #[.int .i64 N, .slice A len cap] 24)) hN hl hs hok hc)
  have hrH := Lib.hid hr
  have hne : ((len2 : Int) != (N : Int)) = true := by simp; omega
  clear hr hc hok h2
  have g0 : (w.alloc (Obj.cells #[Value.int IntKind.i64 (N : Int), Value.slice A len cap] 24)).cell? ⟨w.heap.size, 0, none⟩ = some (.int .i64 N) := by go_simp
  have g1 : (w.alloc (Obj.cells #[Value.int IntKind.i64 (N : Int), Value.slice A len cap] 24)).cell? ⟨w.heap.size, 1, none⟩ = some (.slice A len cap) := by go_simp
  go_enter Try.func4, Try.ntmps4
  go_wp2_with fail
  refine HF.out.mono ?_
  intro e w1 hpost
  obtain ⟨hb, x, y, c, rfl, _⟩ := FarPost.split hpost
  have hbw := ((Below.refl w.heap.size w).alloc (Nat.le_refl _) (.cells #[.int .i64 N, .slice A len cap] 24)).trans (hb.mono (by simp))
  have hS1 : w.heap.size < w1.heap.size := by have := hb.size; simp at this; omega
  have q0 : w1.cell? ⟨w.heap.size, 0, none⟩ = some (.int .i64 N) := below_cell hb (by simp) g0
  have q1 : w1.cell? ⟨w.heap.size, 1, none⟩ = some (.slice A len cap) := below_cell hb (by simp) g1
  have HN := Lib.hid (fun W (h : Below w1.heap.size w1 W) => net_any N s A len cap l W ((hrH.out.later hbw).later h) (by omega))
  rw [hnB.out] at HN
  clear g0 g1 hb hpost HF
  go_wp2_with fail
  refine (HN.out w1 (Below.refl _ _)).mono ?_
  rintro e w2 ⟨rfl, hb2⟩
  have q0 := below_cell hb2 hS1 q0
  have q1 := below_cell hb2 hS1 q1
  have hS2 : w.heap.size < w2.heap.size := by have := hb2.size; omega
  go_wp2_with fail
  refine (HN.out w2 hb2).mono ?_
  rintro e w3 ⟨rfl, hb3⟩
  go_wp2
  go_ret
  exact ⟨rfl, (hbw.trans (hb2.mono hbw.size)).trans (hb3.mono (by have := hb2.size; omega))⟩
end Go.Proofs.Ytemcolhpghjnkaa
