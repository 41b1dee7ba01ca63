/- LotsSub: the walk. -/
import Derived.Test.YtomncmhjpmocaaaDoorLotsA
namespace Go.Proofs.YtomncmhjpmocaaaDoor
open Go.RowKit Go.Shelf

theorem u32_nat {n : Int} (h : (Lit.int .u32 n).wf = true) : ∃ m : Nat, n = m ∧ m < 4294967296 := by
  have : IntKind.u32.min ≤ n ∧ n ≤ IntKind.u32.max := by simpa [Lit.wf] using h
  rw [show IntKind.u32.min = 0 from rfl, show IntKind.u32.max = 4294967295 from rfl] at this
  exact ⟨n.toNat, by omega, by omega⟩
open Classical in
theorem rank_gen (A : Option Addr) (len cap : Nat) (ns : List Nat) (x : Nat) (w : World) (hr : Rd w A len 1 (wds ns)) (hl : len ≤ 9223372036854775807) (htb : Tb w) (hg : 0 < w.heap.size) :
    Calls Tryd.prog 5 #[.slice A len cap, .int .u32 x] w fun e w' => (∃ m c : Int, e = .returned (.tuple #[.int .i64 m, .int .i64 c]) ∧ (c != 0) = !decide (LOk ns ∧ x < 2 ^ len)) ∧ Below w.heap.size w w' := by
  by_cases h : LOk ns ∧ x < 2 ^ len
  · refine (rank_ok A len cap ns x w hr h.1 h.2 htb hg).mono ?_
    rintro e w' ⟨rfl, hb⟩
    exact ⟨⟨_, 0, rfl, by rw [decide_eq_true h]; rfl⟩, hb⟩
  · refine (rank_bad A len cap ns x w hr hl h).mono ?_
    rintro e w' ⟨⟨c, hc, rfl⟩, hb⟩
    exact ⟨⟨0, c, rfl, by rw [hc, decide_eq_false h]; rfl⟩, hb⟩
theorem rk_le (ns : List Nat) {len x : Nat} (hlen : len ≤ 10) (hx : x < 2 ^ len) : rkS ns len x ≤ popc 10 x := by
  have h1 : rkS ns len x ≤ popc len x := rkS_size len
  have h2 := popc_more hx (10 - len)
  rw [show len + (10 - len) = 10 by omega] at h2
  omega
theorem zerosB_iff {ns : List Nat} {len x : Nat} : zerosB ns len x = true ↔ rkS ns len x = 0 := by
  rw [rkS_zero]
  unfold zerosB
  rw [List.all_eq_true]
  constructor
  · intro h i hi hb
    have := h i (by simpa using hi)
    rw [hb] at this
    simpa using this
  · intro h i hi
    cases hb : x.testBit i
    · rfl
    · have := h i (by simpa using hi) hb
      rw [this]; rfl
theorem zerosB_eq (ns : List Nat) (len x : Nat) : zerosB ns len x = ((rkS ns len x : Int) == 0) := by
  cases h : zerosB ns len x
  · have : rkS ns len x ≠ 0 := fun h2 => by rw [zerosB_iff.2 h2] at h; cases h
    simp; omega
  · rw [zerosB_iff.1 h]; rfl
open Classical in
set_option maxHeartbeats 1600000 in
set_option maxRecDepth 100000 in
theorem lotsSub_any (A : Option Addr) (len cap : Nat) (ns : List Nat) (a b : Nat) (w : World) (hr : Rd w A len 1 (wds ns)) (hl : len ≤ 9223372036854775807) (ha : a < 4294967296) (hb : b < 4294967296) (htb : Tb w) (hg : 0 < w.heap.size) :
    Calls Tryd.prog 4 #[.slice A len cap, .int .u32 a, .int .u32 b] w fun e w' => e = .returned (.bool true) ∧ Below w.heap.size w w' := by
  have hel : ns.length = len := by simpa [wds] using hr.1
  have hrH := Lib.hid hr; have htH := Lib.hid htb
  have lift := Lib.hid (fun (w' : World) (hb : Below w.heap.size w w') => show Rd w' A len 1 (wds ns) ∧ Tb w' ∧ 0 < w'.heap.size from ⟨hr.later hb, htb.below hg hb, Nat.lt_of_lt_of_le hg hb.size⟩)
  by_cases hAB : (LOk ns ∧ a < 2 ^ len) ∧ (LOk ns ∧ b < 2 ^ len)
  · obtain ⟨⟨hok, hal⟩, -, hbl⟩ := hAB
    have hlen : len ≤ 10 := by rw [← hel]; exact hok.1
    have hat := hok.at
    have hp : 2 ^ len ≤ 2 ^ 10 := Nat.pow_le_pow_right (by omega) hlen
    have hol : a ||| b < 2 ^ len := Nat.or_lt_two_pow hal hbl
    have hnl : a &&& b < 2 ^ len := Nat.lt_of_le_of_lt Nat.and_le_left hal
    have hor := u32_or_nat a b (by omega) (by omega)
    have hand := u32_and_nat a b (by omega) (by omega)
    have RA := Lib.hid (fun w' (h : Below w.heap.size w w') => rank_ok A len cap ns a w' (lift.out w' h).1 hok hal (lift.out w' h).2.1 (lift.out w' h).2.2)
    have RB := Lib.hid (fun w' (h : Below w.heap.size w w') => rank_ok A len cap ns b w' (lift.out w' h).1 hok hbl (lift.out w' h).2.1 (lift.out w' h).2.2)
    have RO := Lib.hid (fun w' (h : Below w.heap.size w w') => rank_ok A len cap ns (a ||| b) w' (lift.out w' h).1 hok hol (lift.out w' h).2.1 (lift.out w' h).2.2)
    have RN := Lib.hid (fun w' (h : Below w.heap.size w w') => rank_ok A len cap ns (a &&& b) w' (lift.out w' h).1 hok hnl (lift.out w' h).2.1 (lift.out w' h).2.2)
    have LA := Lib.hid (fun w' (h : Below w.heap.size w w') => lot_any A len cap ns a w' (lift.out w' h).1 hl)
    have LB := Lib.hid (fun w' (h : Below w.heap.size w w') => lot_any A len cap ns b w' (lift.out w' h).1 hl)
    rw [decide_eq_true (show LOk ns ∧ a < 2 ^ len from ⟨hok, hal⟩)] at LA
    rw [decide_eq_true (show LOk ns ∧ b < 2 ^ len from ⟨hok, hbl⟩)] at LB
    have ZA := Lib.hid (fun w' (h : Below w.heap.size w w') => zeros_any A len cap ns a w' (lift.out w' h).1 hlen (by omega))
    have hz := Lib.hid (zerosB_eq ns len a)
    have hsub : rkS ns len (a ||| b) + rkS ns len (a &&& b) ≤ rkS ns len a + rkS ns len b := submod hat
    have hux : rkS ns len a ≤ rkS ns len (a ||| b) := rkS_mono hat fun i _ h => by rw [Nat.testBit_or, h]; rfl
    have hvy : rkS ns len (a &&& b) ≤ rkS ns len b := rkS_mono hat fun i _ h => by rw [Nat.testBit_and] at h; simp at h; exact h.2
    have h1 : rkS ns len a ≤ 10 := Nat.le_trans (rk_le ns hlen hal) (popc_le 10 a)
    have h2 : rkS ns len b ≤ 10 := Nat.le_trans (rk_le ns hlen hbl) (popc_le 10 b)
    clear hr htb hel hok hat hal hbl hp hol hnl hl
    generalize rkS ns len (a ||| b) = u at *
    generalize rkS ns len (a &&& b) = v at *
    generalize rkS ns len a = x at *
    generalize rkS ns len b = y at *
    generalize zerosB ns len a = z at *
    generalize a ||| b = ab at *
    generalize a &&& b = an at *
    go_enter Tryd.func4, Tryd.ntmps4
    go_wp2_with fail
    refine (RA.out w (Below.refl _ _)).mono ?_
    rintro e w1 ⟨rfl, b1⟩
    go_wp2_with fail
    refine (RB.out w1 b1).mono ?_
    rintro e w2 ⟨rfl, b2'⟩
    have b2 := b1.trans (b2'.mono b1.size)
    go_wp2_with fail
    refine (LA.out w2 b2).mono ?_
    rintro e w3 ⟨rfl, rfl⟩
    go_wp2_with fail
    refine (LB.out _ b2).mono ?_
    rintro e w3 ⟨rfl, rfl⟩
    go_wp2_with fail
    refine (RO.out _ b2).mono ?_
    rintro e w3 ⟨rfl, b3'⟩
    have b3 := b2.trans (b3'.mono b2.size)
    go_wp2_with fail
    refine (RN.out _ b3).mono ?_
    rintro e w4 ⟨rfl, b4'⟩
    have b4 := b3.trans (b4'.mono b3.size)
    clear RA RB RO RN LA LB b1 b2 b2' b3 b3' b4'
    have t1 : (u : Int) + v ≤ x + y := by omega
    have t2 : (x : Int) ≤ u := by omega
    have t3 : (v : Int) ≤ y := by omega
    go_wp2_with fail
    refine (ZA.out _ b4).mono ?_
    rintro e w5 ⟨rfl, rfl⟩
    cases z
    · have hz' : ((x : Int) == 0) = false := hz.out.symm
      go_wp2
      go_ret
      exact ⟨rfl, b4⟩
    · have hz' : ((x : Int) == 0) = true := hz.out.symm
      go_wp2
      go_ret
      exact ⟨rfl, b4⟩
  · have RA := Lib.hid (fun w' (h : Below w.heap.size w w') => rank_gen A len cap ns a w' (lift.out w' h).1 hl (lift.out w' h).2.1 (lift.out w' h).2.2)
    have RB := Lib.hid (fun w' (h : Below w.heap.size w w') => rank_gen A len cap ns b w' (lift.out w' h).1 hl (lift.out w' h).2.1 (lift.out w' h).2.2)
    have LA := Lib.hid (fun w' (h : Below w.heap.size w w') => lot_any A len cap ns a w' (lift.out w' h).1 hl)
    have LB := Lib.hid (fun w' (h : Below w.heap.size w w') => lot_any A len cap ns b w' (lift.out w' h).1 hl)
    have hd : (decide (LOk ns ∧ a < 2 ^ len) && decide (LOk ns ∧ b < 2 ^ len)) = false := by
      rw [Bool.and_eq_false_iff, decide_eq_false_iff_not, decide_eq_false_iff_not]
      exact Classical.not_and_iff_not_or_not.1 hAB
    clear hr htb hel hAB hl
    generalize decide (LOk ns ∧ a < 2 ^ len) = dA at *
    generalize decide (LOk ns ∧ b < 2 ^ len) = dB at *
    go_enter Tryd.func4, Tryd.ntmps4
    go_wp2_with fail
    refine (RA.out w (Below.refl _ _)).mono ?_
    rintro e w1 ⟨⟨m1, c1, rfl, hc1⟩, b1⟩
    go_wp2_with fail
    refine (RB.out w1 b1).mono ?_
    rintro e w2 ⟨⟨m2, c2, rfl, hc2⟩, b2'⟩
    have b2 := b1.trans (b2'.mono b1.size)
    have hc1H := Lib.hid hc1; have hc2H := Lib.hid hc2
    clear hc1 hc2
    go_wp2_with fail
    refine (LA.out w2 b2).mono ?_
    rintro e w3 ⟨rfl, rfl⟩
    cases dA
    · have e1 : (c1 != 0) = true := hc1H.out
      clear hd
      go_wp2
      go_ret
      exact ⟨rfl, b2⟩
    · have e1 : (c1 != 0) = false := hc1H.out
      have hdB : dB = false := by simpa using hd
      subst hdB
      have e2 : (c2 != 0) = true := hc2H.out
      clear hd
      go_wp2_with fail
      refine (LB.out _ b2).mono ?_
      rintro e w3 ⟨rfl, rfl⟩
      go_wp2
      go_ret
      exact ⟨rfl, b2⟩
end Go.Proofs.YtomncmhjpmocaaaDoor
