/- teamsterref.Near, Crowded. -/
import Derived.Test.YtnkmfnnkophccaaDoorAdj
namespace Go.Proofs.YtnkmfnnkophccaaDoor
open Go.RowKit
theorem ok_at {n : Nat} {es : List E} (hok : ∀ e ∈ es, okE n e) {k : Nat} (hk : k < es.length) : ∃ (x y : Nat) (c : Int), es.getD k (0, 0, 0) = ((x : Int), (y : Int), c) ∧ x < n ∧ y < n ∧ x ≠ y := by
  obtain ⟨x, y, h1, h2, h3, h4, h5⟩ := hok (es.getD k (0, 0, 0)) (by simp [List.getD, hk])
  exact ⟨x, y, (es.getD k (0, 0, 0)).2.2, by rw [← h1, ← h2], h3, h4, h5⟩

set_option maxHeartbeats 1600000 in
theorem refNear_any (n : Nat) (i j : Nat) (A : Option Addr) (len cap : Nat) (es : List E) (w : World) (hr : Rd w A len 3 (ps3 .i64 .i64 .i64 es)) (hl : len ≤ 45) (hok : ∀ e ∈ es, okE n e) :
    Calls Tryd.prog 24 #[.agg #[.int .i64 n, .slice A len cap], .int .i64 (i : Int), .int .i64 (j : Int)] w fun e w' => e = .returned (.bool (adj es i j)) ∧ Below w.heap.size w w' := by
  have helH := Lib.hid (ps3_len hr)
  have hrH := Lib.hid hr; have hokH := Lib.hid hok
  clear hr hok
  go_enter Tryd.func24, Tryd.ntmps24
  go_wp2
  have hb0 := (Below.refl w.heap.size w).alloc (Nat.le_refl _) (.cells #[.int .i64 n, .slice A len cap] 27)
  go_loopw [12] (fun q wr => ∃ k : Nat, k ≤ len ∧ q = .int .i64 k ∧ (es.take k).any (adjE i j) = false ∧ Below w.heap.size w wr) (fun q _ => len - (intOf q).toNat)
  case atStart => exact ⟨0, Nat.zero_le _, rfl, rfl, hb0⟩
  case round =>
    obtain ⟨k, hk, rfl, hp, hb⟩ := hrel
    have hpH := Lib.hid hp; clear hp
    have hSr := hb.size
    by_cases hlt : k < len
    · obtain ⟨bb, oo, rfl, hab, hc1, hc2, hc3⟩ := (hrH.out.later hb).triple hlt
      have hke : k < es.length := by rw [helH.out]; exact hlt
      obtain ⟨x, y, c, hat, hx, hy, _⟩ := ok_at hokH.out hke
      have hyy := any_take_succ' (adjE i j) (0, 0, 0) es k hke hpH.out
      have hno := any_of_getD' (adjE i j) (0, 0, 0) es k hke
      rw [hat] at hc1 hc2 hc3 hyy hno
      dsimp only at hc1 hc2 hc3
      have hd := Lib.hid (show adjE i j ((x : Int), (y : Int), c) = (((x : Int) == (i : Int) && (y : Int) == (j : Int)) || ((x : Int) == (j : Int) && (y : Int) == (i : Int))) from rfl)
      have hyH := Lib.hid hyy; have hnoH := Lib.hid hno
      clear hat hke hyy hno
      cases hq : adjE i j ((x : Int), (y : Int), c)
      · have hz := Lib.hid (hyH.out hq)
        have hq2 := hd.out.symm.trans hq
        clear hq
        cases a1 : ((x : Int) == (i : Int)) <;> cases a2 : ((y : Int) == (j : Int)) <;> cases a3 : ((x : Int) == (j : Int)) <;> cases a4 : ((y : Int) == (i : Int))
        all_goals first
          | (rw [a1, a2, a3, a4] at hq2; cases hq2; done)
          | (clear hq2
             go_wp2
             go_roundw
             case rel => exact ⟨k + 1, by omega, by go_num, hz.out, hb.alloc hSr _⟩
             case measure => simp [intOf]; omega)
      · have hz := Lib.hid (show adj es i j = true from hnoH.out hq)
        have hq2 := hd.out.symm.trans hq
        clear hq
        cases a1 : ((x : Int) == (i : Int)) <;> cases a2 : ((y : Int) == (j : Int)) <;> cases a3 : ((x : Int) == (j : Int)) <;> cases a4 : ((y : Int) == (i : Int))
        all_goals first
          | (rw [a1, a2, a3, a4] at hq2; cases hq2; done)
          | (clear hq2
             go_wp2
             go_ret
             exact ⟨by rw [hz.out]; rfl, hb.alloc hSr _⟩)
    · have hz := Lib.hid (show adj es i j = false by
        have := hpH.out
        rw [List.take_of_length_le (by rw [helH.out]; omega)] at this
        exact this)
      go_wp2
      go_ret
      exact ⟨by rw [hz.out]; rfl, hb⟩
end Go.Proofs.YtnkmfnnkophccaaDoor
