/- teamsterref.Crowded (any word, 'apart' false), Crowd. -/
import Derived.Test.YtonalhedjjobeaaDoorRefNearA
import Derived.Test.YtonalhedjjobeaaDoorRefBit
namespace Go.Proofs.YtonalhedjjobeaaDoor
open Go.RowKit

def cwAt (es : List E) (x i j : Nat) : Bool := !(x.testBit i && (x.testBit j && !adj es i j))
def cwRow (es : List E) (x i : Nat) : Bool := (List.range i).all (cwAt es x i)
def cwB (n : Nat) (es : List E) (x : Nat) : Bool := (List.range n).all (cwRow es x)
theorem all_yesC {n : Nat} {p : Nat → Bool} (h : ∀ j, j < n → p j = true) : (List.range n).all p = true := by rw [List.all_eq_true]; intro j hj; exact h j (List.mem_range.1 hj)
theorem all_noC {n : Nat} {p : Nat → Bool} {j : Nat} (hj : j < n) (h : p j = false) : (List.range n).all p = false := by rw [List.all_eq_false]; exact ⟨j, List.mem_range.2 hj, by rw [h]; simp⟩
set_option maxHeartbeats 3200000 in
theorem crowdedB_any (n x : Nat) (A : Option Addr) (len cap : Nat) (es : List E) (w : World) (hr : Rd w A len 3 (ps3 .i64 .i64 .i64 es)) (hl : len ≤ 45) (hn : n ≤ 10) (hx : x < 1024) (hok : ∀ e ∈ es, okE n e) :
    Calls Tryd.prog 25 #[.agg #[.int .i64 n, .slice A len cap], .int .u32 (x : Int), .bool false] w fun e w' => e = .returned (.bool (cwB n es x)) ∧ Below w.heap.size w w' := by
  have hbw0 : Below w.heap.size w (w.alloc (Obj.cells #[Value.int IntKind.i64 (n : Int), Value.slice A len cap] 24)) := (Below.refl _ _).alloc (Nat.le_refl _) _
  have g0 : (w.alloc (Obj.cells #[Value.int IntKind.i64 (n : Int), Value.slice A len cap] 24)).cell? ⟨w.heap.size, 0, none⟩ = some (.int .i64 n) := by go_simp
  have g1 : (w.alloc (Obj.cells #[Value.int IntKind.i64 (n : Int), Value.slice A len cap] 24)).cell? ⟨w.heap.size, 1, none⟩ = some (.slice A len cap) := by go_simp
  have hS0 : w.heap.size < (w.alloc (Obj.cells #[Value.int IntKind.i64 (n : Int), Value.slice A len cap] 24)).heap.size := by simp
  have hrH := Lib.hid hr; have hokH := Lib.hid hok
  clear hr hok
  go_enter Tryd.func25, Tryd.ntmps25
  go_wp2
  generalize w.alloc (Obj.cells #[Value.int IntKind.i64 (n : Int), Value.slice A len cap] 24) = W0 at *
  have hr0 := Lib.hid (hrH.out.later hbw0)
  have B := fun i (hi : i < 32) W => Lib.hid (bit_any x i W (by omega) hi)
  go_loopw [7, 8] (fun iv _ wr => ∃ i : Nat, i ≤ n ∧ iv = .int .i64 i ∧ (∀ a, a < i → cwRow es x a = true) ∧ Below W0.heap.size W0 wr) (fun iv _ _ => n - (intOf iv).toNat)
  case atStart => exact ⟨0, Nat.zero_le _, rfl, fun a ha => absurd ha (by omega), Below.refl _ _⟩
  case round =>
    obtain ⟨i, hi, rfl, hp, hb⟩ := hrel
    have hpH := Lib.hid hp; clear hp
    have q0 := below_cell hb hS0 g0
    have hSr := hb.size
    have hSw : w.heap.size < wr.heap.size := by omega
    by_cases hin : i < n
    · have hbH := Lib.hid hb
      have hnoR := Lib.hid (show cwRow es x i = false → cwB n es x = false from fun h => all_noC hin h)
      have hyR := Lib.hid (show cwRow es x i = true → ∀ a, a < i + 1 → cwRow es x a = true from fun h a ha => by
        by_cases e : a = i
        · subst e; exact h
        · exact hpH.out a (by omega))
      clear hb
      go_wp2
      obtain ⟨wo, hwo⟩ : ∃ wo : World, wo = wr := ⟨_, rfl⟩
      clear hwo
      go_loopw [8] (fun jv wr => ∃ j : Nat, j ≤ i ∧ jv = .int .i64 j ∧ (∀ t, t < j → cwAt es x i t = true) ∧ Below W0.heap.size W0 wr) (fun jv _ => i - (intOf jv).toNat)
      case atStart => exact ⟨0, Nat.zero_le _, rfl, fun t ht => absurd ht (by omega), hbH.out⟩
      case round =>
        clear q0 hSr hSw
        obtain ⟨j, hj, rfl, hpj, hb⟩ := hrel
        have hpjH := Lib.hid hpj; clear hpj
        have q0 := below_cell hb hS0 g0
        have q1 := below_cell hb hS0 g1
        have hSr := hb.size
        have hSw : w.heap.size < wr.heap.size := by omega
        by_cases hji : j < i
        · have Bi := B i (by omega)
          have Bj := B j (by omega)
          have hat : cwAt es x i j = !(x.testBit i && (x.testBit j && !adj es i j)) := rfl
          have hno := Lib.hid (show cwAt es x i j = false → cwB n es x = false from fun h => hnoR.out (all_noC hji h))
          have hyes := Lib.hid (show cwAt es x i j = true → ∀ t, t < j + 1 → cwAt es x i t = true from fun h t ht => by
            by_cases e : t = j
            · subst e; exact h
            · exact hpjH.out t (by omega))
          have hatH := Lib.hid hat; clear hat
          have HN := Lib.hid (refNear_any n i j A len cap es wr (hr0.out.later hb) hl hokH.out)
          have hji' : (j : Int) < i := by omega
          generalize adj es i j = ba at *
          generalize x.testBit i = b1 at *
          generalize x.testBit j = b2 at *
          cases b1
          · have hy := Lib.hid (hyes.out (by rw [hatH.out]; rfl))
            clear hno hyes hatH
            go_wp2_with fail
            refine (Bi _).out.mono ?_
            rintro e w' ⟨rfl, rfl⟩
            go_wp2
            go_roundw
            case rel => exact ⟨j + 1, by omega, by go_num, hy.out, hb⟩
            case measure => simp [intOf]; omega
          · cases b2
            · have hy := Lib.hid (hyes.out (by rw [hatH.out]; rfl))
              clear hno hyes hatH
              go_wp2_with fail
              refine (Bi _).out.mono ?_
              rintro e w' ⟨rfl, rfl⟩
              go_wp2_with fail
              refine (Bj _).out.mono ?_
              rintro e w' ⟨rfl, rfl⟩
              go_wp2
              go_roundw
              case rel => exact ⟨j + 1, by omega, by go_num, hy.out, hb⟩
              case measure => simp [intOf]; omega
            · go_wp2_with fail
              refine (Bi _).out.mono ?_
              rintro e w' ⟨rfl, rfl⟩
              go_wp2_with fail
              refine (Bj _).out.mono ?_
              rintro e w' ⟨rfl, rfl⟩
              go_wp2_with fail
              refine HN.out.mono ?_
              rintro e w3 ⟨rfl, hb3⟩
              have hb4 := Lib.hid (hb.trans (hb3.mono hSr))
              clear hb3 hb
              cases ba
              · have hf := Lib.hid (hno.out (by rw [hatH.out]; rfl))
                clear hno hyes hatH
                go_wp2
                go_ret
                exact ⟨by rw [hf.out]; rfl, hbw0.trans (hb4.out.mono hbw0.size)⟩
              · have hy := Lib.hid (hyes.out (by rw [hatH.out]; rfl))
                clear hno hyes hatH
                go_wp2
                go_roundw
                case rel => exact ⟨j + 1, by omega, by go_num, hy.out, hb4.out⟩
                case measure => simp [intOf]; omega
        · obtain rfl : j = i := by omega
          have hy := Lib.hid (hyR.out (all_yesC hpjH.out))
          go_wp2
          go_roundw
          case rel => exact ⟨j + 1, by omega, by go_num, hy.out, hb⟩
          case measure => simp [intOf]; omega
    · obtain rfl : i = n := by omega
      have hy := Lib.hid (show cwB i es x = true from all_yesC hpH.out)
      go_wp2
      go_ret
      exact ⟨by rw [hy.out]; rfl, hbw0.trans (hb.mono hbw0.size)⟩
set_option maxHeartbeats 3200000 in
theorem crowdR_any (n : Nat) (A : Option Addr) (len cap : Nat) (es : List E) (w : World) (hr : Rd w A len 3 (ps3 .i64 .i64 .i64 es)) (hl : len ≤ 45) (hn : n ≤ 10) (hok : ∀ e ∈ es, okE n e) :
    Calls Tryd.prog 12 #[.agg #[.int .i64 n, .slice A len cap], .bool false] w fun e w' => ∃ b : Nat, e = .returned (.int .u32 (b : Int)) ∧ b < 1024 ∧ (∀ x, x < 2 ^ n → cwB n es x = true → popc 10 x ≤ popc 10 b) ∧ Below w.heap.size w w' := by
  have hbw0 : Below w.heap.size w (w.alloc (Obj.cells #[Value.int IntKind.i64 (n : Int), Value.slice A len cap] 24)) := (Below.refl _ _).alloc (Nat.le_refl _) _
  have g0 : (w.alloc (Obj.cells #[Value.int IntKind.i64 (n : Int), Value.slice A len cap] 24)).cell? ⟨w.heap.size, 0, none⟩ = some (.int .i64 n) := by go_simp
  have g1 : (w.alloc (Obj.cells #[Value.int IntKind.i64 (n : Int), Value.slice A len cap] 24)).cell? ⟨w.heap.size, 1, none⟩ = some (.slice A len cap) := by go_simp
  have hS0 : w.heap.size < (w.alloc (Obj.cells #[Value.int IntKind.i64 (n : Int), Value.slice A len cap] 24)).heap.size := by simp
  have hrH := Lib.hid hr; have hokH := Lib.hid hok
  have hp10 : 2 ^ n ≤ 2 ^ 10 := Nat.pow_le_pow_right (by omega) hn
  have hpN : IntKind.u32.wrap ((2 : Int) ^ n) = ((2 ^ n : Nat) : Int) := by rw [IntKind.wrap_u32']; exact two_pow_u32 n (by omega)
  have hCW := Lib.hid (fun (x : Nat) W (hW : Below w.heap.size w W) (hx : x < 1024) => crowdedB_any n x A len cap es W (hrH.out.later hW) hl hn hx hokH.out)
  have hp0 := Nat.two_pow_pos n
  generalize hM : 2 ^ n = M at *
  clear hr hok hM
  go_enter Tryd.func12, Tryd.ntmps12
  go_wp2
  generalize w.alloc (Obj.cells #[Value.int IntKind.i64 (n : Int), Value.slice A len cap] 24) = W0 at *
  go_loopw [5, 6] (fun bv kv wr => ∃ k b : Nat, k ≤ M ∧ b < 1024 ∧ kv = .int .u32 (k : Int) ∧ bv = .int .u32 (b : Int) ∧ (∀ x, x < k → cwB n es x = true → popc 10 x ≤ popc 10 b) ∧ Below W0.heap.size W0 wr) (fun _ kv _ => M - (intOf kv).toNat)
  case atStart => exact ⟨0, 0, Nat.zero_le _, by omega, rfl, rfl, fun a ha => absurd ha (by omega), Below.refl _ _⟩
  case round =>
    obtain ⟨wo, rfl⟩ : ∃ wo : World, wo = wr := ⟨_, rfl⟩
    obtain ⟨k, b, hk, hb1024, rfl, rfl, hp, hb⟩ := hrel
    have q0 := below_cell hb hS0 g0
    have q1 := below_cell hb hS0 g1
    have hpH := Lib.hid hp; have hbH := Lib.hid hb
    have hSr := hb.size
    have hbt := Lib.hid (hbw0.trans (hb.mono hbw0.size))
    clear hp hb
    by_cases hlt : k < M
    · have S1 := Lib.hid (size_any k wo (by omega))
      have S2 := Lib.hid (size_any b wo hb1024)
      have HC := Lib.hid (hCW.out k wo hbt.out (by omega))
      have hlt' : (k : Int) < (M : Int) := by omega
      have hk1 : IntKind.u32.wrap ((k : Int) + 1) = (k : Int) + 1 := by rw [IntKind.wrap_u32']; omega
      have hstepN := Lib.hid (show (cwB n es k = true → popc 10 k ≤ popc 10 b) → ∀ x, x < k + 1 → cwB n es x = true → popc 10 x ≤ popc 10 b from fun h x hx hc => by
        by_cases e : x = k
        · subst e; exact h hc
        · exact hpH.out x (by omega) hc)
      have hstepY := Lib.hid (show popc 10 b < popc 10 k → ∀ x, x < k + 1 → cwB n es x = true → popc 10 x ≤ popc 10 k from fun h x hx hc => by
        by_cases e : x = k
        · subst e; exact Nat.le_refl _
        · have := hpH.out x (by omega) hc; omega)
      have hpk := popc_le 10 k
      have hpb := popc_le 10 b
      generalize hgk : popc 10 k = pk at *
      generalize hgb : popc 10 b = pb at *
      have hgkH := Lib.hid hgk; have hgbH := Lib.hid hgb
      clear hgk hgb
      generalize cwB n es k = cb at *
      by_cases hgt : pb < pk
      · have hg1 : decide ((pb : Int) < (pk : Int)) = true := decide_eq_true (by omega)
        have hg2 : decide (pb < pk) = true := decide_eq_true hgt
        have hyY := Lib.hid (hstepY.out hgt)
        have hyN := Lib.hid (show cb = false → _ from fun h => hstepN.out (fun h2 => by rw [h] at h2; cases h2))
        clear hstepN hstepY hgt
        go_wp2_with fail
        refine S1.out.mono ?_
        rintro e w' ⟨rfl, rfl⟩
        clear S1
        go_wp2_with fail
        refine S2.out.mono ?_
        rintro e w' ⟨rfl, rfl⟩
        clear S2
        go_wp2_with fail
        refine HC.out.mono ?_
        rintro e w3 ⟨rfl, hb3⟩
        have hb4 := Lib.hid (hbH.out.trans (hb3.mono hSr))
        clear hb3 HC
        cases cb
        · have hy := Lib.hid (hyN.out rfl)
          clear hyN hyY
          go_wp2
          go_roundw
          case rel => exact ⟨k + 1, b, by omega, hb1024, by go_num, rfl, fun x h1 h2 => by rw [hgbH.out]; exact hy.out x h1 h2, hb4.out⟩
          case measure => simp [intOf]; omega
        · clear hyN
          go_wp2
          go_roundw
          case rel => exact ⟨k + 1, k, by omega, by omega, by go_num, rfl, fun x h1 h2 => by rw [hgkH.out]; exact hyY.out x h1 h2, hb4.out⟩
          case measure => simp [intOf]; omega
      · have hg1 : decide ((pb : Int) < (pk : Int)) = false := decide_eq_false (by omega)
        have hg2 : decide (pb < pk) = false := decide_eq_false hgt
        have hy := Lib.hid (hstepN.out (fun _ => by omega))
        clear hstepN hstepY hgt HC
        go_wp2_with fail
        refine S1.out.mono ?_
        rintro e w' ⟨rfl, rfl⟩
        clear S1
        go_wp2_with fail
        refine S2.out.mono ?_
        rintro e w' ⟨rfl, rfl⟩
        clear S2
        go_wp2
        go_roundw
        case rel => exact ⟨k + 1, b, by omega, hb1024, by go_num, rfl, fun x h1 h2 => by rw [hgbH.out]; exact hy.out x h1 h2, hbH.out⟩
        case measure => simp [intOf]; omega
    · obtain rfl : k = M := by omega
      go_wp2
      go_ret
      exact ⟨b, rfl, hb1024, hpH.out, hbt.out⟩
end Go.Proofs.YtonalhedjjobeaaDoor
