/- teamsterref.Degree. -/
import Derived.Test.YtnpgnohnpbdblaaDoorRefBit
import Derived.Test.YtnpgnohnpbdblaaDoorCrowdLaw
namespace Go.Proofs.YtnpgnohnpbdblaaDoor
open Go.RowKit

theorem filter_len_succ {p : E → Bool} {es : List E} {k : Nat} (hk : k < es.length) : ((es.take (k + 1)).filter p).length = ((es.take k).filter p).length + if p (es.getD k (0, 0, 0)) then 1 else 0 := by
  rw [take_succ_getD' es (0, 0, 0) k hk, List.filter_append, List.length_append, List.filter_cons]
  cases h : p (es.getD k (0, 0, 0)) <;> simp
theorem ok_at {n : Nat} {es : List E} (hok : ∀ e ∈ es, okE n e) {k : Nat} (hk : k < es.length) : ∃ (x y : Nat) (c : Int), es.getD k (0, 0, 0) = ((x : Int), (y : Int), c) ∧ x < n ∧ y < n ∧ x ≠ y := by
  obtain ⟨x, y, h1, h2, h3, h4, h5⟩ := hok (es.getD k (0, 0, 0)) (by simp [List.getD, hk])
  exact ⟨x, y, (es.getD k (0, 0, 0)).2.2, by rw [← h1, ← h2], h3, h4, h5⟩
set_option maxHeartbeats 800000 in
theorem degree_any (n : Nat) (i : Nat) (A : Option Addr) (len cap : Nat) (es : List E) (w : World) (hr : Rd w A len 3 (ps3 .i64 .i64 .i64 es)) (hl : len ≤ 45) (hok : ∀ e ∈ es, okE n e) :
    Calls Tryd.prog 19 #[.agg #[.int .i64 n, .slice A len cap], .int .i64 (i : Int)] w fun e w' => e = .returned (.int .i64 (degE es i : Nat)) ∧ Below w.heap.size w w' := by
  have helH := Lib.hid (ps3_len hr)
  have hrH := Lib.hid hr; have hokH := Lib.hid hok
  clear hr hok
  go_enter Tryd.func19, Tryd.ntmps19
  go_wp2
  have hb0 := (Below.refl w.heap.size w).alloc (Nat.le_refl _) (.cells #[.int .i64 n, .slice A len cap] 24)
  go_loopw [5, 11] (fun d j wr => ∃ k : Nat, k ≤ len ∧ j = .int .i64 k ∧ d = .int .i64 (((es.take k).filter (incE i)).length : Nat) ∧ Below w.heap.size w wr) (fun _ j _ => len - (intOf j).toNat)
  case atStart => exact ⟨0, Nat.zero_le _, rfl, rfl, hb0⟩
  case round =>
    obtain ⟨k, hk, rfl, rfl, hb⟩ := hrel
    have hSr := hb.size
    by_cases hlt : k < len
    · obtain ⟨bb, oo, rfl, hab, hc1, hc2, hc3⟩ := (hrH.out.later hb).triple hlt
      have hke : k < es.length := by rw [helH.out]; exact hlt
      obtain ⟨x, y, c, hat, hx, hy, _⟩ := ok_at hokH.out hke
      have hs := Lib.hid (filter_len_succ (p := incE i) hke)
      have hle : ((es.take k).filter (incE i)).length ≤ k := Nat.le_trans (List.length_filter_le _ _) (List.length_take_le _ _)
      rw [hat] at hc1 hc2 hc3 hs
      dsimp only at hc1 hc2 hc3
      have hinc := Lib.hid (show incE i ((x : Int), (y : Int), c) = (((x : Int) == (i : Int)) || ((y : Int) == (i : Int))) from rfl)
      clear hat hke
      generalize ((es.take k).filter (incE i)).length = d at *
      cases h1 : ((x : Int) == (i : Int))
      · cases h2 : ((y : Int) == (i : Int))
        · have hz := Lib.hid (show ((es.take (k + 1)).filter (incE i)).length = d by rw [hs.out, hinc.out, h1, h2]; rfl)
          go_wp2
          go_roundw
          case rel => exact ⟨k + 1, by omega, by go_num, by rw [hz.out], hb.alloc hSr _⟩
          case measure => simp [intOf]; omega
        · have hz := Lib.hid (show ((es.take (k + 1)).filter (incE i)).length = d + 1 by rw [hs.out, hinc.out, h1, h2]; rfl)
          go_wp2
          go_roundw
          case rel => exact ⟨k + 1, by omega, by go_num, by rw [hz.out]; go_num, hb.alloc hSr _⟩
          case measure => simp [intOf]; omega
      · have hz := Lib.hid (show ((es.take (k + 1)).filter (incE i)).length = d + 1 by rw [hs.out, hinc.out, h1]; rfl)
        go_wp2
        go_roundw
        case rel => exact ⟨k + 1, by omega, by go_num, by rw [hz.out]; go_num, hb.alloc hSr _⟩
        case measure => simp [intOf]; omega
    · have hz := Lib.hid (show ((es.take k).filter (incE i)).length = degE es i by rw [List.take_of_length_le (by rw [helH.out]; omega)]; rfl)
      rw [hz.out]
      go_wp2
      go_ret
      exact ⟨rfl, hb⟩
end Go.Proofs.YtnpgnohnpbdblaaDoor
