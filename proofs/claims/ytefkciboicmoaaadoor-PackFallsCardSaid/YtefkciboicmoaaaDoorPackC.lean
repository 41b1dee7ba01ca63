/- pack.Fewest: the memory of the search; cmp.Or, cmp.Compare at int. -/
import Derived.Test.YtefkciboicmoaaaDoorPackLaw
import Derived.Test.YtefkciboicmoaaaDoorPackA
import Derived.Test.YtefkciboicmoaaaDoorCmp
import Derived.Test.YtefkciboicmoaaaDoorEachBits
import Derived.Test.YtefkciboicmoaaaDoorStillRound
import Derived.Test.YtefkciboicmoaaaDoorMarks
import Derived.Test.YtefkciboicmoaaaDoorCalm
import Derived.Test.YtefkciboicmoaaaDoorBlk
namespace Go.Proofs.YtefkciboicmoaaaDoor
open Go.RowKit Go.Shelf

theorem isNaNI_any (a : Int) (w : World) : Calls Tryd.prog 27 #[.int .i64 a] w fun e w' => e = .returned (.bool false) ∧ w = w' := by
  go_enter Tryd.func27, Tryd.ntmps27
  go_wp2
  go_ret
  exact ⟨by simp, rfl⟩
theorem cmpN_any (a b : Int) (w : World) : Calls Tryd.prog 16 #[.int .i64 a, .int .i64 b] w fun e w' => e = .returned (.int .i64 (cmpI a b)) ∧ w = w' := by
  have HA := Lib.hid (isNaNI_any a w)
  have HB := Lib.hid (isNaNI_any b w)
  rcases Int.lt_trichotomy a b with h | h | h
  · have e : cmpI a b = -1 := by unfold cmpI; rw [if_pos h]
    rw [e]
    go_enter Tryd.func16, Tryd.ntmps16
    go_wp2_with fail
    refine HA.out.mono ?_
    rintro _ w1 ⟨rfl, rfl⟩
    go_wp2_with fail
    refine HB.out.mono ?_
    rintro _ w1 ⟨rfl, rfl⟩
    go_wp2
    go_ret
    exact ⟨rfl, rfl⟩
  · have e : cmpI a b = 0 := by unfold cmpI; rw [if_neg (by omega), if_neg (by omega)]
    subst h
    rw [e]
    go_enter Tryd.func16, Tryd.ntmps16
    go_wp2_with fail
    refine HA.out.mono ?_
    rintro _ w1 ⟨rfl, rfl⟩
    go_wp2_with fail
    refine HB.out.mono ?_
    rintro _ w1 ⟨rfl, rfl⟩
    go_wp2
    go_ret
    exact ⟨rfl, rfl⟩
  · have h1 : b ≤ a := by omega
    have e : cmpI a b = 1 := by unfold cmpI; rw [if_neg (by omega), if_pos h]
    rw [e]
    go_enter Tryd.func16, Tryd.ntmps16
    go_wp2_with fail
    refine HA.out.mono ?_
    rintro _ w1 ⟨rfl, rfl⟩
    go_wp2_with fail
    refine HB.out.mono ?_
    rintro _ w1 ⟨rfl, rfl⟩
    go_wp2
    go_ret
    exact ⟨rfl, rfl⟩
def orI (a b : Int) : Int := if a = 0 then b else a
theorem orI_neg {a b : Int × Int} : orI (cmpI a.1 b.1) (cmpI a.2 b.2) < 0 ↔ lexlt a b := by
  unfold orI lexlt
  rw [← cmpI_neg (a := a.1), ← cmpI_neg (a := a.2)]
  have e : cmpI a.1 b.1 = 0 ↔ a.1 = b.1 := by
    unfold cmpI
    split
    · constructor
      · intro h; omega
      · intro h; omega
    · split
      · constructor
        · intro h; omega
        · intro h; omega
      · constructor
        · intro _; omega
        · intro _; rfl
  split
  · rename_i h
    constructor
    · intro h2; exact .inr ⟨e.1 h, h2⟩
    · rintro (h2 | ⟨_, h2⟩)
      · omega
      · exact h2
  · rename_i h
    constructor
    · intro h2; exact .inl h2
    · rintro (h2 | ⟨h2, _⟩)
      · exact h2
      · exact absurd (e.2 h2) h
theorem or_any (A : Option Addr) (c : Nat) (a b : Int) (w : World) (hr : Rd w A 2 1 (ints .i64 [a, b])) :
    Calls Tryd.prog 15 #[.slice A 2 c] w fun e w' => e = .returned (.int .i64 (orI a b)) ∧ w = w' := by
  obtain ⟨g, o, rfl, hg, h0⟩ := hr.int (show 0 < 2 by omega)
  obtain ⟨_, _, hA, _, h1⟩ := hr.int (show 1 < 2 by omega)
  cases hA
  have h0 : w.cell? ⟨g, o, none⟩ = some (.int .i64 a) := h0
  have h1 : w.cell? ⟨g, o + 1, none⟩ = some (.int .i64 b) := h1
  clear hr
  go_enter Tryd.func15, Tryd.ntmps15
  go_wp2
  go_loop [5, 8] (fun _ i => ∃ k : Nat, k ≤ 2 ∧ i = .int .i64 k ∧ (1 ≤ k → a = 0) ∧ (2 ≤ k → b = 0)) (fun _ i => 2 - (intOf i).toNat)
  case atStart => exact ⟨0, by omega, rfl, fun h => absurd h (by omega), fun h => absurd h (by omega)⟩
  case round =>
    obtain ⟨k, hk, rfl, ha, hb⟩ := hrel
    rcases (show k = 0 ∨ k = 1 ∨ k = 2 by omega) with rfl | rfl | rfl
    · clear ha hb
      by_cases hz : a = 0
      · have hzH := Lib.hid hz
        have hzb : (a != 0) = false := by simp [hz]
        clear hz
        go_wp2
        go_round
        case rel => exact ⟨1, by omega, by go_num, fun _ => hzH.out, fun h => absurd h (by omega)⟩
        case measure => simp [intOf]
      · have hv := Lib.hid (show orI a b = a by unfold orI; rw [if_neg hz])
        have hzb : (a != 0) = true := by simp [hz]
        clear hz
        go_wp2
        go_ret
        exact ⟨by rw [hv.out]; rfl, rfl⟩
    · have ha := ha (by omega)
      clear hb
      have hv := Lib.hid (show orI a b = b by unfold orI; rw [if_pos ha])
      have haH := Lib.hid ha
      clear ha
      by_cases hz : b = 0
      · have hzH := Lib.hid hz
        have hzb : (b != 0) = false := by simp [hz]
        clear hz
        go_wp2
        go_round
        case rel => exact ⟨2, by omega, by go_num, fun _ => haH.out, fun _ => hzH.out⟩
        case measure => simp [intOf]
      · have hzb : (b != 0) = true := by simp [hz]
        clear hz
        go_wp2
        go_ret
        exact ⟨by first | (rw [hv.out]; rfl) | (unfold orI; rw [if_pos rfl]; rfl), rfl⟩
    · have hv := Lib.hid (show orI a b = 0 by unfold orI; rw [if_pos (ha (by omega))]; exact hb (by omega))
      clear ha hb
      go_wp2
      go_ret
      exact ⟨by rw [hv.out]; rfl, rfl⟩
def flatT (T : Nat → Int × Int) (k : Nat) : Int := if k % 2 = 0 then (T (k / 2)).1 else (T (k / 2)).2
def updT (T : Nat → Int × Int) (j : Nat) (s : Int × Int) : Nat → Int × Int := fun i => if i = j then s else T i
theorem tab_set (S : Nat) (T : Nat → Int × Int) (j : Nat) (s : Int × Int) : ((row (S * 2) (flatT T)).set (j * 2) (.int .i64 s.1)).set (j * 2 + 1) (.int .i64 s.2) = row (S * 2) (flatT (updT T j s)) := by
  rw [row_set, row_set]
  refine row_congr fun i _ => ?_
  unfold flatT updT
  by_cases h1 : i = j * 2 + 1
  · rw [if_pos h1, if_neg (by omega), if_pos (by omega)]
  · rw [if_neg h1]
    by_cases h2 : i = j * 2
    · rw [if_pos h2, if_pos (by omega), if_pos (by omega)]
    · rw [if_neg h2]
      have : i / 2 ≠ j := by omega
      rw [if_neg this]
theorem tiS : TI Tryd.prog 35 37 (.agg #[.int .i64 0, .int .i64 0]) 2 16 := TI.mk' Tryd.underlying35 (by kernel_rfl) rfl (by decide)
theorem made_tab (S : Nat) : (madeCells (Value.agg #[.int .i64 0, .int .i64 0]).cells (S * 2)).toList = row (S * 2) (flatT fun _ => (0, 0)) := by
  apply List.ext_getElem?
  intro i
  by_cases hi : i < S * 2
  · have : i % 2 = 0 ∨ i % 2 = 1 := by omega
    rcases this with h | h <;> simp [madeCells, hi, row, flatT, Value.cells, h]
  · rw [List.getElem?_eq_none (by simp [madeCells]; omega), List.getElem?_eq_none (by simp [row]; omega)]
end Go.Proofs.YtefkciboicmoaaaDoor
