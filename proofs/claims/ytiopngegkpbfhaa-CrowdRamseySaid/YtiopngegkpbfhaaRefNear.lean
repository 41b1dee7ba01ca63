/- teamsterref.Near, Crowded. -/
import Derived.Test.YtiopngegkpbfhaaRefEdge
namespace Go.Proofs.Ytiopngegkpbfhaa
open Go.RowKit

set_option maxHeartbeats 1600000 in
theorem refNear_any (n : Nat) (i j : Nat) (A : Option Addr) (len cap : Nat) (es : List E) (w : World) (hr : Rd w A len 3 (ps3 .i64 .i64 .i64 es)) (hl : len ≤ 45) (hok : ∀ e ∈ es, okE n e) :
    Calls Try.prog 21 #[.agg #[.int .i64 n, .slice A len cap], .int .i64 (i : Int), .int .i64 (j : Int)] w fun e w' => e = .returned (.bool (adj es i j)) ∧ Below w.heap.size w w' := by
  have helH := Lib.hid (ps3_len hr)
  have hrH := Lib.hid hr; have hokH := Lib.hid hok
  clear hr hok
  go_enter Try.func21, Try.ntmps21
  go_wp2
  have hb0 := (Below.refl w.heap.size w).alloc (Nat.le_refl _) (.cells #[.int .i64 n, .slice A len cap] 24)
  go_loopw [12] (fun q wr => ∃ k : Nat, k ≤ len ∧ q = .int .i64 k ∧ (es.take k).any (adjE i j) = false ∧ Below w.heap.size w wr) (fun q _ => len - (intOf q).toNat)
  case atStart => exact ⟨0, Nat.zero_le _, rfl, rfl, hb0⟩
  case round =>
    obtain ⟨k, hk, rfl, hp, hb⟩ := hrel
    have hpH := Lib.hid hp; clear hp
    have hSr := hb.size
    by_cases hlt : k < len
    · obtain ⟨bb, oo, rfl, hab, hc1, hc2, hc3⟩ := (hrH.out.later hb).triple hlt
      have hke : k < es.length := by rw [helH.out]; exact hlt
      obtain ⟨x, y, c, hat, hx, hy, _⟩ := ok_at hokH.out hke
      have hyy := any_take_succ' (adjE i j) (0, 0, 0) es k hke hpH.out
      have hno := any_of_getD' (adjE i j) (0, 0, 0) es k hke
      rw [hat] at hc1 hc2 hc3 hyy hno
      dsimp only at hc1 hc2 hc3
      have hd := Lib.hid (show adjE i j ((x : Int), (y : Int), c) = (((x : Int) == (i : Int) && (y : Int) == (j : Int)) || ((x : Int) == (j : Int) && (y : Int) == (i : Int))) from rfl)
      have hyH := Lib.hid hyy; have hnoH := Lib.hid hno
      clear hat hke hyy hno
      cases hq : adjE i j ((x : Int), (y : Int), c)
      · have hz := Lib.hid (hyH.out hq)
        have hq2 := hd.out.symm.trans hq
        clear hq
        cases a1 : ((x : Int) == (i : Int)) <;> cases a2 : ((y : Int) == (j : Int)) <;> cases a3 : ((x : Int) == (j : Int)) <;> cases a4 : ((y : Int) == (i : Int))
        all_goals first
          | (rw [a1, a2, a3, a4] at hq2; cases hq2; done)
          | (clear hq2
             go_wp2
             go_roundw
             case rel => exact ⟨k + 1, by omega, by go_num, hz.out, hb.alloc hSr _⟩
             case measure => simp [intOf]; omega)
      · have hz := Lib.hid (show adj es i j = true from hnoH.out hq)
        have hq2 := hd.out.symm.trans hq
        clear hq
        cases a1 : ((x : Int) == (i : Int)) <;> cases a2 : ((y : Int) == (j : Int)) <;> cases a3 : ((x : Int) == (j : Int)) <;> cases a4 : ((y : Int) == (i : Int))
        all_goals first
          | (rw [a1, a2, a3, a4] at hq2; cases hq2; done)
          | (clear hq2
             go_wp2
             go_ret
             exact ⟨by rw [hz.out]; rfl, hb.alloc hSr _⟩)
    · have hz := Lib.hid (show adj es i j = false by
        have := hpH.out
        rw [List.take_of_length_le (by rw [helH.out]; omega)] at this
        exact this)
      go_wp2
      go_ret
      exact ⟨by rw [hz.out]; rfl, hb⟩
set_option maxHeartbeats 1600000 in
theorem crowded_any (n x : Nat) (ap : Bool) (A : Option Addr) (len cap : Nat) (es : List E) (w : World) (hr : Rd w A len 3 (ps3 .i64 .i64 .i64 es)) (hl : len ≤ 45) (hn : n ≤ 10) (hx : x < 1024) (hok : ∀ e ∈ es, okE n e)
    (hcl : ∀ i j, j < i → x.testBit i = true → x.testBit j = true → adj es i j = !ap) :
    Calls Try.prog 12 #[.agg #[.int .i64 n, .slice A len cap], .int .u32 (x : Int), .bool ap] w fun e w' => e = .returned (.bool true) ∧ Below w.heap.size w w' := by
  have hbw0 : Below w.heap.size w (w.alloc (Obj.cells #[Value.int IntKind.i64 (n : Int), Value.slice A len cap] 24)) := (Below.refl _ _).alloc (Nat.le_refl _) _
  have g0 : (w.alloc (Obj.cells #[Value.int IntKind.i64 (n : Int), Value.slice A len cap] 24)).cell? ⟨w.heap.size, 0, none⟩ = some (.int .i64 n) := by go_simp
  have g1 : (w.alloc (Obj.cells #[Value.int IntKind.i64 (n : Int), Value.slice A len cap] 24)).cell? ⟨w.heap.size, 1, none⟩ = some (.slice A len cap) := by go_simp
  have hS0 : w.heap.size < (w.alloc (Obj.cells #[Value.int IntKind.i64 (n : Int), Value.slice A len cap] 24)).heap.size := by simp
  have hrH := Lib.hid hr; have hokH := Lib.hid hok; have hclH := Lib.hid hcl
  clear hr hok hcl
  go_enter Try.func12, Try.ntmps12
  go_wp2
  generalize w.alloc (Obj.cells #[Value.int IntKind.i64 (n : Int), Value.slice A len cap] 24) = W0 at *
  have hr0 := Lib.hid (hrH.out.later hbw0)
  have B := fun i (hi : i < 32) W => Lib.hid (bit_any x i W (by omega) hi)
  go_loopw [7, 8] (fun iv _ wr => ∃ i : Nat, i ≤ n ∧ iv = .int .i64 i ∧ Below W0.heap.size W0 wr) (fun iv _ _ => n - (intOf iv).toNat)
  case atStart => exact ⟨0, Nat.zero_le _, rfl, Below.refl _ _⟩
  case round =>
    obtain ⟨i, hi, rfl, hb⟩ := hrel
    have q0 := below_cell hb hS0 g0
    have hSr := hb.size
    have hSw : w.heap.size < wr.heap.size := by omega
    by_cases hin : i < n
    · have hbH := Lib.hid hb
      clear hb
      go_wp2
      obtain ⟨wo, hwo⟩ : ∃ wo : World, wo = wr := ⟨_, rfl⟩
      clear hwo
      go_loopw [8] (fun jv wr => ∃ j : Nat, j ≤ i ∧ jv = .int .i64 j ∧ Below W0.heap.size W0 wr) (fun jv _ => i - (intOf jv).toNat)
      case atStart => exact ⟨0, Nat.zero_le _, rfl, hbH.out⟩
      case round =>
        clear q0 hSr hSw
        obtain ⟨j, hj, rfl, hb⟩ := hrel
        have q0 := below_cell hb hS0 g0
        have q1 := below_cell hb hS0 g1
        have hSr := hb.size
        have hSw : w.heap.size < wr.heap.size := by omega
        by_cases hji : j < i
        · have Bi := B i (by omega)
          have Bj := B j (by omega)
          have hc := hclH.out i j hji
          have HN := Lib.hid (refNear_any n i j A len cap es wr (hr0.out.later hb) hl hokH.out)
          have hji' : (j : Int) < i := by omega
          cases h1 : x.testBit i
          · rw [h1] at Bi
            clear hc h1
            go_wp2_with fail
            refine (Bi _).out.mono ?_
            rintro e w' ⟨rfl, rfl⟩
            go_wp2
            go_roundw
            case rel => exact ⟨j + 1, by omega, by go_num, hb⟩
            case measure => simp [intOf]; omega
          · rw [h1] at Bi
            cases h2 : x.testBit j
            · rw [h2] at Bj
              clear hc h1 h2
              go_wp2_with fail
              refine (Bi _).out.mono ?_
              rintro e w' ⟨rfl, rfl⟩
              go_wp2_with fail
              refine (Bj _).out.mono ?_
              rintro e w' ⟨rfl, rfl⟩
              go_wp2
              go_roundw
              case rel => exact ⟨j + 1, by omega, by go_num, hb⟩
              case measure => simp [intOf]; omega
            · rw [h2] at Bj
              have ha := hc h1 h2
              rw [ha] at HN
              clear hc h1 h2 ha
              go_wp2_with fail
              refine (Bi _).out.mono ?_
              rintro e w' ⟨rfl, rfl⟩
              go_wp2_with fail
              refine (Bj _).out.mono ?_
              rintro e w' ⟨rfl, rfl⟩
              go_wp2_with fail
              refine HN.out.mono ?_
              rintro e w3 ⟨rfl, hb3⟩
              have hb4 := hb.trans (hb3.mono hSr)
              cases ap
              all_goals
                go_wp2
                go_roundw
                case rel => exact ⟨j + 1, by omega, by go_num, hb4⟩
                case measure => simp [intOf]; omega
        · go_wp2
          go_roundw
          case rel => exact ⟨i + 1, by omega, by go_num, hb⟩
          case measure => simp [intOf]; omega
    · go_wp2
      go_ret
      exact ⟨rfl, hbw0.trans (hb.mono hbw0.size)⟩
end Go.Proofs.Ytiopngegkpbfhaa
