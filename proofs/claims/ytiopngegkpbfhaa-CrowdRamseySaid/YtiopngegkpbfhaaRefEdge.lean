/- teamsterref.Degree, Loose. -/
import Derived.Test.YtiopngegkpbfhaaRefBit
import Derived.Test.YtiopngegkpbfhaaCrowdLaw
namespace Go.Proofs.Ytiopngegkpbfhaa
open Go.RowKit

theorem filter_len_succ {p : E → Bool} {es : List E} {k : Nat} (hk : k < es.length) : ((es.take (k + 1)).filter p).length = ((es.take k).filter p).length + if p (es.getD k (0, 0, 0)) then 1 else 0 := by
  rw [take_succ_getD' es (0, 0, 0) k hk, List.filter_append, List.length_append, List.filter_cons]
  cases h : p (es.getD k (0, 0, 0)) <;> simp
theorem ok_at {n : Nat} {es : List E} (hok : ∀ e ∈ es, okE n e) {k : Nat} (hk : k < es.length) : ∃ (x y : Nat) (c : Int), es.getD k (0, 0, 0) = ((x : Int), (y : Int), c) ∧ x < n ∧ y < n ∧ x ≠ y := by
  obtain ⟨x, y, h1, h2, h3, h4, h5⟩ := hok (es.getD k (0, 0, 0)) (by simp [List.getD, hk])
  exact ⟨x, y, (es.getD k (0, 0, 0)).2.2, by rw [← h1, ← h2], h3, h4, h5⟩
set_option maxHeartbeats 800000 in
theorem degree_any (n : Nat) (i : Nat) (A : Option Addr) (len cap : Nat) (es : List E) (w : World) (hr : Rd w A len 3 (ps3 .i64 .i64 .i64 es)) (hl : len ≤ 45) (hok : ∀ e ∈ es, okE n e) :
    Calls Try.prog 11 #[.agg #[.int .i64 n, .slice A len cap], .int .i64 (i : Int)] w fun e w' => e = .returned (.int .i64 (degE es i : Nat)) ∧ Below w.heap.size w w' := by
  have helH := Lib.hid (ps3_len hr)
  have hrH := Lib.hid hr; have hokH := Lib.hid hok
  clear hr hok
  go_enter Try.func11, Try.ntmps11
  go_wp2
  have hb0 := (Below.refl w.heap.size w).alloc (Nat.le_refl _) (.cells #[.int .i64 n, .slice A len cap] 24)
  go_loopw [5, 11] (fun d j wr => ∃ k : Nat, k ≤ len ∧ j = .int .i64 k ∧ d = .int .i64 (((es.take k).filter (incE i)).length : Nat) ∧ Below w.heap.size w wr) (fun _ j _ => len - (intOf j).toNat)
  case atStart => exact ⟨0, Nat.zero_le _, rfl, rfl, hb0⟩
  case round =>
    obtain ⟨k, hk, rfl, rfl, hb⟩ := hrel
    have hSr := hb.size
    by_cases hlt : k < len
    · obtain ⟨bb, oo, rfl, hab, hc1, hc2, hc3⟩ := (hrH.out.later hb).triple hlt
      have hke : k < es.length := by rw [helH.out]; exact hlt
      obtain ⟨x, y, c, hat, hx, hy, _⟩ := ok_at hokH.out hke
      have hs := Lib.hid (filter_len_succ (p := incE i) hke)
      have hle : ((es.take k).filter (incE i)).length ≤ k := Nat.le_trans (List.length_filter_le _ _) (List.length_take_le _ _)
      rw [hat] at hc1 hc2 hc3 hs
      dsimp only at hc1 hc2 hc3
      have hinc := Lib.hid (show incE i ((x : Int), (y : Int), c) = (((x : Int) == (i : Int)) || ((y : Int) == (i : Int))) from rfl)
      clear hat hke
      generalize ((es.take k).filter (incE i)).length = d at *
      cases h1 : ((x : Int) == (i : Int))
      · cases h2 : ((y : Int) == (i : Int))
        · have hz := Lib.hid (show ((es.take (k + 1)).filter (incE i)).length = d by rw [hs.out, hinc.out, h1, h2]; rfl)
          go_wp2
          go_roundw
          case rel => exact ⟨k + 1, by omega, by go_num, by rw [hz.out], hb.alloc hSr _⟩
          case measure => simp [intOf]; omega
        · have hz := Lib.hid (show ((es.take (k + 1)).filter (incE i)).length = d + 1 by rw [hs.out, hinc.out, h1, h2]; rfl)
          go_wp2
          go_roundw
          case rel => exact ⟨k + 1, by omega, by go_num, by rw [hz.out]; go_num, hb.alloc hSr _⟩
          case measure => simp [intOf]; omega
      · have hz := Lib.hid (show ((es.take (k + 1)).filter (incE i)).length = d + 1 by rw [hs.out, hinc.out, h1]; rfl)
        go_wp2
        go_roundw
        case rel => exact ⟨k + 1, by omega, by go_num, by rw [hz.out]; go_num, hb.alloc hSr _⟩
        case measure => simp [intOf]; omega
    · have hz := Lib.hid (show ((es.take k).filter (incE i)).length = degE es i by rw [List.take_of_length_le (by rw [helH.out]; omega)]; rfl)
      rw [hz.out]
      go_wp2
      go_ret
      exact ⟨rfl, hb⟩
def tight (x : Nat) (e : E) : Bool := x.testBit e.1.toNat && x.testBit e.2.1.toNat
def looseB (es : List E) (x : Nat) : Bool := !es.any (tight x)
set_option maxHeartbeats 800000 in
theorem loose_any (n : Nat) (x : Nat) (A : Option Addr) (len cap : Nat) (es : List E) (w : World) (hr : Rd w A len 3 (ps3 .i64 .i64 .i64 es)) (hl : len ≤ 45) (hn : n ≤ 10) (hx : x < 1024) (hok : ∀ e ∈ es, okE n e) :
    Calls Try.prog 14 #[.agg #[.int .i64 n, .slice A len cap], .int .u32 (x : Int)] w fun e w' => e = .returned (.bool (looseB es x)) ∧ Below w.heap.size w w' := by
  have helH := Lib.hid (ps3_len hr)
  have hrH := Lib.hid hr; have hokH := Lib.hid hok
  clear hr hok
  go_enter Try.func14, Try.ntmps14
  go_wp2
  have hb0 := (Below.refl w.heap.size w).alloc (Nat.le_refl _) (.cells #[.int .i64 n, .slice A len cap] 24)
  go_loopw [10] (fun j wr => ∃ k : Nat, k ≤ len ∧ j = .int .i64 k ∧ (es.take k).any (tight x) = false ∧ Below w.heap.size w wr) (fun j _ => len - (intOf j).toNat)
  case atStart => exact ⟨0, Nat.zero_le _, rfl, rfl, hb0⟩
  case round =>
    obtain ⟨k, hk, rfl, hp, hb⟩ := hrel
    have hpH := Lib.hid hp; clear hp
    have hSr := hb.size
    by_cases hlt : k < len
    · obtain ⟨bb, oo, rfl, hab, hc1, hc2, hc3⟩ := (hrH.out.later hb).triple hlt
      have hke : k < es.length := by rw [helH.out]; exact hlt
      obtain ⟨a, b, c, hat, ha, hb', _⟩ := ok_at hokH.out hke
      have hy := any_take_succ' (tight x) (0, 0, 0) es k hke hpH.out
      have hno := any_of_getD' (tight x) (0, 0, 0) es k hke
      rw [hat] at hc1 hc2 hc3 hy hno
      dsimp only at hc1 hc2 hc3
      have ht := Lib.hid (show tight x ((a : Int), (b : Int), c) = (x.testBit a && x.testBit b) from rfl)
      have hyH := Lib.hid hy; have hnoH := Lib.hid hno
      have B1 := fun W => Lib.hid (bit_any x a W (by omega) (by omega))
      have B2 := fun W => Lib.hid (bit_any x b W (by omega) (by omega))
      clear hat hke hy hno
      cases h1 : x.testBit a
      · have hz := Lib.hid (hyH.out (by rw [ht.out, h1]; rfl))
        rw [h1] at B1
        clear h1
        go_wp2_with fail
        refine (B1 _).out.mono ?_
        rintro e w' ⟨rfl, rfl⟩
        go_wp2
        go_roundw
        case rel => exact ⟨k + 1, by omega, by go_num, hz.out, hb.alloc hSr _⟩
        case measure => simp [intOf]; omega
      · rw [h1] at B1
        cases h2 : x.testBit b
        · have hz := Lib.hid (hyH.out (by rw [ht.out, h1, h2]; rfl))
          rw [h2] at B2
          clear h1 h2
          go_wp2_with fail
          refine (B1 _).out.mono ?_
          rintro e w' ⟨rfl, rfl⟩
          go_wp2_with fail
          refine (B2 _).out.mono ?_
          rintro e w' ⟨rfl, rfl⟩
          go_wp2
          go_roundw
          case rel => exact ⟨k + 1, by omega, by go_num, hz.out, hb.alloc hSr _⟩
          case measure => simp [intOf]; omega
        · have hz := Lib.hid (show looseB es x = false by unfold looseB; rw [hnoH.out (by rw [ht.out, h1, h2]; rfl)]; rfl)
          rw [h2] at B2
          clear h1 h2
          go_wp2_with fail
          refine (B1 _).out.mono ?_
          rintro e w' ⟨rfl, rfl⟩
          go_wp2_with fail
          refine (B2 _).out.mono ?_
          rintro e w' ⟨rfl, rfl⟩
          go_wp2
          go_ret
          exact ⟨by rw [hz.out]; rfl, hb.alloc hSr _⟩
    · have hz := Lib.hid (show looseB es x = true by
        have := hpH.out
        rw [List.take_of_length_le (by rw [helH.out]; omega)] at this
        unfold looseB; rw [this]; rfl)
      go_wp2
      go_ret
      exact ⟨by rw [hz.out]; rfl, hb⟩
end Go.Proofs.Ytiopngegkpbfhaa
