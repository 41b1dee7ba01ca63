/- teamsterref.Odd: how many parts behind a wall have an odd number of nodes. -/
import Derived.Test.YtcjokjfiikkpfaaDoorRefParts
import Derived.Test.YtcjokjfiikkpfaaDoorWithout
import Derived.Test.YtcjokjfiikkpfaaDoorOddLaw
namespace Go.Proofs.YtcjokjfiikkpfaaDoor
open Go.RowKit
attribute [local go_sem] Oper.semAt_some

def inCls (m0 : Nat) (p : Nat → Nat) (i j : Nat) : Bool := decide (p j = i) && !m0.testBit j
def cnO (m0 : Nat) (p : Nat → Nat) (i n : Nat) : Nat := (List.range n).countP (inCls m0 p i)
theorem cnO_succ (m0 : Nat) (p : Nat → Nat) (i n : Nat) : cnO m0 p i (n + 1) = cnO m0 p i n + if inCls m0 p i n = true then 1 else 0 := by
  unfold cnO; rw [List.range_succ, List.countP_append]; simp [List.countP_cons]
theorem cnO_le (m0 : Nat) (p : Nat → Nat) (i n : Nat) : cnO m0 p i n ≤ n := by
  have := List.countP_le_length (p := inCls m0 p i) (l := List.range n); simpa [cnO] using this
def oddN (N m0 : Nat) (p : Nat → Nat) : Nat → Nat
  | 0 => 0
  | i + 1 => oddN N m0 p i + cnO m0 p i N % 2
theorem oddN_le (N m0 : Nat) (p : Nat → Nat) : ∀ i, oddN N m0 p i ≤ i
  | 0 => Nat.le_refl _
  | i + 1 => by have := oddN_le N m0 p i; unfold oddN; omega
theorem oddN_cnt (N m0 : Nat) (p : Nat → Nat) : ∀ i, oddN N m0 p i = (List.range i).countP fun i => cnO m0 p i N % 2 == 1
  | 0 => rfl
  | i + 1 => by
    unfold oddN
    rw [oddN_cnt N m0 p i, List.range_succ, List.countP_append]
    simp only [List.countP_cons, List.countP_nil, Nat.zero_add]
    rcases Nat.mod_two_eq_zero_or_one (cnO m0 p i N) with h | h <;> rw [h] <;> rfl
set_option maxHeartbeats 3200000 in
set_option maxRecDepth 100000 in
theorem odd_any (N m0 : Nat) (A : Option Addr) (len cap : Nat) (es : List E) (w : World) (hr : Rd w A len 3 (ps3 .i64 .i64 .i64 es)) (hN : N ≤ 10) (hl : len ≤ 45) (hok : ∀ e ∈ es, okE N e) (hm0 : m0 < 4294967296) :
    Calls Tryd.prog 8 #[.agg #[.int .i64 N, .slice A len cap], .int .u32 (m0 : Int)] w fun e w' => ∃ p : Nat → Nat, e = .returned (.int .i64 (oddN N m0 p N : Nat)) ∧ (∀ i, i < N → IsPart (wo m0 es) N i (p i)) ∧ Below w.heap.size w w' := by
  have gb := (Below.refl _ w).alloc (Nat.le_refl _) (.cells #[.int .i64 N, .slice A len cap] 24)
  have bG := Blk.new w 24 #[.int .i64 N, .slice A len cap]
  have hel := ps3_len hr
  have HW := Lib.hid (without_any N m0 A len cap es _ (hr.later gb) hl hm0 hN hok)
  have hwl : (wo m0 es).length ≤ 45 := Nat.le_trans (wo_len m0 es) (by omega)
  have hokW := Lib.hid (show ∀ e ∈ wo m0 es, okE N e from fun e he => hok e (List.mem_filter.1 he).1)
  have hsz : (w.alloc (.cells #[.int .i64 N, .slice A len cap] 24)).heap.size = w.heap.size + 1 := by simp
  have gbH := Lib.hid gb; have bGH := Lib.hid bG
  clear hr hok gb bG hel
  go_enter Tryd.func8, Tryd.ntmps8
  go_wp2_with fail
  refine HW.out.mono ?_
  rintro _ w1 ⟨A1, c1, rfl, hr1, _, hb⟩
  clear HW
  have bG1 := bGH.out.below hb (by omega)
  have hb1 := gbH.out.trans (hb.mono gbH.out.size)
  have hs1 := hb.size
  have HP := Lib.hid (refParts_any N A1 (wo m0 es).length c1 (wo m0 es) w1 hr1 hN hwl hokW.out)
  have bG1H := Lib.hid bG1; have hb1H := Lib.hid hb1
  clear hr1 hb bG1 hb1 gbH bGH
  go_wp2_with fail
  refine HP.out.mono ?_
  rintro _ w2 ⟨v, p, rfl, hown, hp, hb2⟩
  clear HP
  have bG2 := bG1H.out.below hb2 bG1H.out.lt
  have hb2' := Lib.hid (hb1H.out.trans (hb2.mono hb1H.out.size))
  have g0 := bG2.cell (j := 0) (v := .int .i64 (N : Int)) rfl
  have hownH := Lib.hid hown; have hpH := Lib.hid hp
  clear hown hp hb2 bG2 bG1H hb1H
  go_wp2
  obtain ⟨wo', hwo⟩ : ∃ wo : World, wo = w2 := ⟨_, rfl⟩
  go_loopw [6, 7] (fun nv iv wr => ∃ i : Nat, i ≤ N ∧ iv = .int .i64 i ∧ nv = .int .i64 (oddN N m0 p i : Nat) ∧ wr = wo') (fun _ iv _ => N - (intOf iv).toNat)
  case atStart => exact ⟨0, by omega, rfl, rfl, hwo.symm⟩
  case round =>
    obtain ⟨i, hi, rfl, rfl, rfl⟩ := hrel
    subst hwo
    obtain ⟨wa, rfl⟩ : ∃ wa : World, wa = wr := ⟨_, rfl⟩
    have hole := oddN_le N m0 p i
    by_cases hiN : i < N
    · have hiN' : (i : Int) < N := by omega
      have hstep := Lib.hid (show oddN N m0 p (i + 1) = oddN N m0 p i + cnO m0 p i N % 2 from rfl)
      obtain ⟨O, hO⟩ : ∃ O, oddN N m0 p i = O := ⟨_, rfl⟩
      rw [hO] at hole hstep
      simp only [hO]
      clear hO
      go_wp2
      obtain ⟨wo2, hwo2⟩ : ∃ wo2 : World, wo2 = wa := ⟨_, rfl⟩
      go_loopw [8, 9] (fun mv jv wr => ∃ j : Nat, j ≤ N ∧ jv = .int .i64 j ∧ mv = .int .i64 (cnO m0 p i j : Nat) ∧ wr = wo2) (fun _ jv _ => N - (intOf jv).toNat)
      case atStart => exact ⟨0, by omega, rfl, rfl, hwo2.symm⟩
      case round =>
        obtain ⟨j, hj, rfl, rfl, rfl⟩ := hrel
        subst hwo2
        obtain ⟨wb, rfl⟩ : ∃ wb : World, wb = wr := ⟨_, rfl⟩
        have hcle := cnO_le m0 p i j
        by_cases hjN : j < N
        · have hjN' : (j : Int) < N := by omega
          have hst := Lib.hid (cnO_succ m0 p i j)
          have hin : inCls m0 p i j = (decide (p j = i) && !m0.testBit j) := rfl
          rw [hin] at hst
          obtain ⟨C, hC⟩ : ∃ C, cnO m0 p i j = C := ⟨_, rfl⟩
          rw [hC] at hcle hst
          simp only [hC]
          clear hC hin
          obtain ⟨gv, cv, rfl⟩ : ∃ g cv, v = .slice (some ⟨g, 0, none⟩) N cv := by
            rcases hownH.out.2 with ⟨_, e⟩ | ⟨g, cp, _, e, _⟩
            · omega
            · exact ⟨g, cp, e⟩
          have cj := (hownH.out.cellAt j (by omega)).trans (row_get hjN)
          have HB := Lib.hid (bit_any m0 j wb hm0 (by omega))
          obtain ⟨bj, hbj⟩ : ∃ bj, m0.testBit j = bj := ⟨_, rfl⟩
          rw [hbj] at HB hst
          clear hbj
          have hj0 : (0 : Int) ≤ j := by omega
          by_cases hpj : p j = i
          · rw [decide_eq_true hpj, Bool.true_and] at hst
            have hq : (((p j : Nat) : Int) == (i : Int)) = true := by simp; omega
            cases bj
            · have hst2 := Lib.hid (show cnO m0 p i (j + 1) = C + 1 from by rw [hst.out]; rfl)
              clear hst
              go_wp2_with fail
              refine HB.out.mono ?_
              rintro _ _ ⟨rfl, rfl⟩
              go_wp2
              go_roundw
              case rel => exact ⟨j + 1, by omega, by go_num, by rw [hst2.out]; go_num, by trivial⟩
              case measure => simp [intOf]; omega
            · have hst2 := Lib.hid (show cnO m0 p i (j + 1) = C from by rw [hst.out]; rfl)
              clear hst
              go_wp2_with fail
              refine HB.out.mono ?_
              rintro _ _ ⟨rfl, rfl⟩
              go_wp2
              go_roundw
              case rel => exact ⟨j + 1, by omega, by go_num, by rw [hst2.out], by trivial⟩
              case measure => simp [intOf]; omega
          · have hst2 := Lib.hid (show cnO m0 p i (j + 1) = C from by rw [hst.out, decide_eq_false hpj]; rfl)
            have hq : (((p j : Nat) : Int) == (i : Int)) = false := by simp; omega
            clear hst
            go_wp2
            go_roundw
            case rel => exact ⟨j + 1, by omega, by go_num, by rw [hst2.out], by trivial⟩
            case measure => simp [intOf]; omega
        · obtain rfl : j = N := by omega
          obtain ⟨C, hC⟩ : ∃ C, cnO m0 p i j = C := ⟨_, rfl⟩
          rw [hC] at hcle hstep
          simp only [hC]
          clear hC
          have hmod : Int.tmod (C : Int) 2 = ((C % 2 : Nat) : Int) := by rw [Int.tmod_eq_emod_of_nonneg (by omega)]; omega
          have hml : C % 2 ≤ 1 := by omega
          go_wp2
          go_roundw
          case rel => exact ⟨i + 1, by omega, by go_num, by rw [hstep.out]; simp, by trivial⟩
          case measure => simp [intOf]; omega
    · obtain rfl : i = N := by omega
      go_wp2
      go_ret
      exact ⟨p, rfl, hpH.out, hb2'.out⟩
end Go.Proofs.YtcjokjfiikkpfaaDoor
