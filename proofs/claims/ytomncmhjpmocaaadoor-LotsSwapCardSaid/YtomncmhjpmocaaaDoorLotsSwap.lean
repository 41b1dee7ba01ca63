/- LotsSwap: the walk. -/
import Derived.Test.YtomncmhjpmocaaaDoorLotsSub
namespace Go.Proofs.YtomncmhjpmocaaaDoor
open Go.RowKit Go.Shelf

theorem andNot_bit {a b i : Nat} (ha : a < 4294967296) (hi : i < 32) : (b &&& (4294967295 - a)).testBit i = (b.testBit i && !a.testBit i) := by
  rw [Nat.testBit_and, show 4294967295 - a = 2 ^ 32 - (a + 1) by omega, Nat.testBit_two_pow_sub_succ (by omega)]
  simp [hi]
open Classical in
set_option maxHeartbeats 3200000 in
set_option maxRecDepth 100000 in
theorem lotsSwap_any (A : Option Addr) (len cap : Nat) (ns : List Nat) (a b : Nat) (w : World) (hr : Rd w A len 1 (wds ns)) (hl : len ≤ 9223372036854775807) (ha : a < 4294967296) (hb : b < 4294967296) (htb : Tb w) (hg : 0 < w.heap.size) :
    Calls Tryd.prog 3 #[.slice A len cap, .int .u32 a, .int .u32 b] w fun e w' => e = .returned (.bool true) ∧ Below w.heap.size w w' := by
  have hel : ns.length = len := by simpa [wds] using hr.1
  have hrH := Lib.hid hr; have htH := Lib.hid htb
  have lift := Lib.hid (fun (w' : World) (hb : Below w.heap.size w w') => show Rd w' A len 1 (wds ns) ∧ Tb w' ∧ 0 < w'.heap.size from ⟨hr.later hb, htb.below hg hb, Nat.lt_of_lt_of_le hg hb.size⟩)
  by_cases hAB : (LOk ns ∧ a < 2 ^ len) ∧ (LOk ns ∧ b < 2 ^ len)
  · obtain ⟨⟨hok, hal⟩, -, hbl⟩ := hAB
    have hlen : len ≤ 10 := by rw [← hel]; exact hok.1
    have hat := hok.at
    have hp : 2 ^ len ≤ 2 ^ 10 := Nat.pow_le_pow_right (by omega) hlen
    have RA := Lib.hid (fun w' (h : Below w.heap.size w w') => rank_ok A len cap ns a w' (lift.out w' h).1 hok hal (lift.out w' h).2.1 (lift.out w' h).2.2)
    have RB := Lib.hid (fun w' (h : Below w.heap.size w w') => rank_ok A len cap ns b w' (lift.out w' h).1 hok hbl (lift.out w' h).2.1 (lift.out w' h).2.2)
    have RI := Lib.hid (fun k (hk : k < len) w' (h : Below w.heap.size w w') => rank_ok A len cap ns (a ||| 2 ^ k) w' (lift.out w' h).1 hok (Nat.or_lt_two_pow hal (Nat.pow_lt_pow_right (by omega) hk)) (lift.out w' h).2.1 (lift.out w' h).2.2)
    have LA := Lib.hid (fun w' (h : Below w.heap.size w w') => lot_any A len cap ns a w' (lift.out w' h).1 hl)
    have LB := Lib.hid (fun w' (h : Below w.heap.size w w') => lot_any A len cap ns b w' (lift.out w' h).1 hl)
    rw [decide_eq_true (show LOk ns ∧ a < 2 ^ len from ⟨hok, hal⟩)] at LA
    rw [decide_eq_true (show LOk ns ∧ b < 2 ^ len from ⟨hok, hbl⟩)] at LB
    have ZA := Lib.hid (fun w' (h : Below w.heap.size w w') => zeros_any A len cap ns a w' (lift.out w' h).1 hlen (by omega))
    have SA := Lib.hid (fun w' => size_any a w' (by omega))
    have SB := Lib.hid (fun w' => size_any b w' (by omega))
    have hz := Lib.hid (zerosB_eq ns len a)
    have hsw := Lib.hid (swap (a := a) (b := b) (n := len) hat)
    have hbx : b &&& (4294967295 - a) < 4294967296 := Nat.lt_of_le_of_lt Nat.and_le_left hb
    have hnot := u32_andNot_nat b a hb ha
    have hbit := Lib.hid (fun i (hi : i < len) => andNot_bit (b := b) ha (show i < 32 by omega))
    have BI := Lib.hid (fun k (hk : k < len) w' => bit_any (b &&& (4294967295 - a)) k w' hbx (by omega))
    have h1 := rk_le ns hlen hal
    have h2 := rk_le ns hlen hbl
    have p1 := popc_le 10 a
    have p2 := popc_le 10 b
    have hrkI := Lib.hid (fun k (hk : k < len) => show rkS ns len (a ||| 2 ^ k) ≤ 10 from Nat.le_trans (rk_le ns hlen (Nat.or_lt_two_pow hal (Nat.pow_lt_pow_right (by omega) hk))) (popc_le 10 _))
    have hor := Lib.hid (fun k (hk : k < len) => show bits .or .u32 (a : Int) ((2 : Int) ^ k % 4294967296) = ((a ||| 2 ^ k : Nat) : Int) by
      have h : 2 ^ k < 2 ^ 32 := Nat.pow_lt_pow_right (by omega) (by omega)
      rw [two_pow_u32 k (by omega), u32_or_nat a (2 ^ k) ha (by simpa using h)])
    clear hr htb hel hok hat hal hbl hp hl
    generalize hxe : rkS ns len a = x at *
    generalize hye : rkS ns len b = y at *
    generalize zerosB ns len a = z at *
    generalize popc 10 a = pa at *
    generalize popc 10 b = pb at *
    generalize b &&& (4294967295 - a) = bn at *
    clear hxe hye
    go_enter Tryd.func3, Tryd.ntmps3
    go_wp2_with fail
    refine (RA.out w (Below.refl _ _)).mono ?_
    rintro e w1 ⟨rfl, b1⟩
    go_wp2_with fail
    refine (RB.out w1 b1).mono ?_
    rintro e w2 ⟨rfl, b2'⟩
    have b2 := b1.trans (b2'.mono b1.size)
    go_wp2_with fail
    refine (LA.out w2 b2).mono ?_
    rintro e w3 ⟨rfl, rfl⟩
    go_wp2_with fail
    refine (LB.out _ b2).mono ?_
    rintro e w3 ⟨rfl, rfl⟩
    clear RA RB LA LB b1 b2'
    have g1 : (x : Int) ≤ pa := by omega
    have first : ∃ c : Bool, ((x : Int) == 0) = c ∧ z = c := ⟨_, rfl, hz.out⟩
    obtain ⟨c, hxc, rfl⟩ := first
    go_wp2_with fail
    refine (SA.out _).mono ?_
    rintro e w3 ⟨rfl, rfl⟩
    by_cases ha0 : a = 0
    case' pos =>
      have hq : (a : Int) ≤ 0 := by omega
      clear ha0
      go_wp2_with fail
    case' neg =>
      have hq : (0 : Int) < a := by omega
      clear ha0
      cases z
      case' true =>
        go_wp2_with fail
        refine (ZA.out _ b2).mono ?_
        rintro e w3 ⟨rfl, rfl⟩
      all_goals go_wp2_with fail
    all_goals
      refine (SA.out _).mono ?_
      rintro e w3 ⟨rfl, rfl⟩
      clear hq hxc ZA SA
      by_cases hxp : x = pa
      · have hx1 : ((x : Int) != pa) = false := by simp [hxp]
        clear hxp
        go_wp2_with fail
        refine (SB.out _).mono ?_
        rintro e w3 ⟨rfl, rfl⟩
        clear SB
        by_cases hyp : y = pb
        · have hy1 : ((y : Int) != pb) = false := by simp [hyp]
          clear hyp
          by_cases hlt : x < y
          · have hltb : decide (y ≤ x) = false := decide_eq_false (by omega)
            have hex := Lib.hid (hsw.out hlt)
            clear hlt hsw
            obtain ⟨wo, rfl⟩ : ∃ wo : World, wo = w2 := ⟨_, rfl⟩
            go_wp2
            go_loopw [11, 12, 13] (fun i _ _ wr => ∃ k : Nat, k ≤ len ∧ i = .int .i64 k ∧ (∀ j, j < k → b.testBit j = true → a.testBit j = false → rkS ns len (a ||| 2 ^ j) ≠ x + 1) ∧ Below w.heap.size w wr) (fun i _ _ _ => len - (intOf i).toNat)
            case atStart => exact ⟨0, Nat.zero_le _, rfl, fun j hj => absurd hj (by omega), b2⟩
            case round =>
              clear b2
              obtain ⟨k, hk, rfl, hno, hbw⟩ := hrel
              have hnoH := Lib.hid hno
              clear hno
              by_cases hkl : k < len
              · have hk32 : k < 32 := by omega
                have hki : (k : Int) < len := by omega
                have hbk := Lib.hid (BI.out k hkl wr)
                have hbt := Lib.hid (hbit.out k hkl)
                go_wp2_with fail
                refine hbk.out.mono ?_
                rintro e w3 ⟨rfl, rfl⟩
                cases hd : bn.testBit k
                · have hnx := Lib.hid (show ∀ j, j < k + 1 → b.testBit j = true → a.testBit j = false → rkS ns len (a ||| 2 ^ j) ≠ x + 1 from fun j hj h1 h2 => by
                    by_cases hjk : j = k
                    · subst hjk
                      have := hbt.out
                      rw [hd, h1, h2] at this; cases this
                    · exact hnoH.out j (by omega) h1 h2)
                  clear hd hbk hbt
                  go_wp2
                  go_roundw
                  case rel => exact ⟨k + 1, by omega, by go_num, hnx.out, hbw⟩
                  case measure => simp [intOf]; omega
                · have hok := hor.out k hkl
                  have hR := Lib.hid (RI.out k hkl wr hbw)
                  have hr10 := hrkI.out k hkl
                  have hnx := Lib.hid (show rkS ns len (a ||| 2 ^ k) ≠ x + 1 → ∀ j, j < k + 1 → b.testBit j = true → a.testBit j = false → rkS ns len (a ||| 2 ^ j) ≠ x + 1 from fun h j hj h1 h2 => by
                    by_cases hjk : j = k
                    · subst hjk; exact h
                    · exact hnoH.out j (by omega) h1 h2)
                  clear hd hbk hbt
                  generalize rkS ns len (a ||| 2 ^ k) = r at *
                  generalize a ||| 2 ^ k = ak at *
                  go_wp2_with fail
                  refine hR.out.mono ?_
                  rintro e w3 ⟨rfl, hb3⟩
                  by_cases hr1 : r = x + 1
                  · have hri : ((r : Int) == (x : Int) + 1) = true := by rw [hr1]; simp
                    clear hr1
                    go_wp2
                    go_ret
                    exact ⟨rfl, hbw.trans (hb3.mono hbw.size)⟩
                  · have hri : ((r : Int) == (x : Int) + 1) = false := by simp; omega
                    have hnx' := Lib.hid (hnx.out hr1)
                    clear hr1
                    go_wp2
                    go_roundw
                    case rel => exact ⟨k + 1, by omega, by go_num, hnx'.out, hbw.trans (hb3.mono hbw.size)⟩
                    case measure => simp [intOf]; omega
              · exfalso
                obtain ⟨i, h1, h2, h3, h4⟩ := hex.out
                exact hnoH.out i (by omega) h2 h3 h4
          · have hlti : (y : Int) ≤ x := by omega
            clear hlt hsw
            go_wp2
            go_ret
            exact ⟨rfl, b2⟩
        · have hy1 : ((y : Int) != pb) = true := bne_iff_ne.2 (by omega)
          clear hyp
          go_wp2
          go_ret
          exact ⟨rfl, b2⟩
      · have hx1 : ((x : Int) != pa) = true := bne_iff_ne.2 (by omega)
        clear hxp
        go_wp2
        go_ret
        exact ⟨rfl, b2⟩
  · have RA := Lib.hid (fun w' (h : Below w.heap.size w w') => rank_gen A len cap ns a w' (lift.out w' h).1 hl (lift.out w' h).2.1 (lift.out w' h).2.2)
    have RB := Lib.hid (fun w' (h : Below w.heap.size w w') => rank_gen A len cap ns b w' (lift.out w' h).1 hl (lift.out w' h).2.1 (lift.out w' h).2.2)
    have LA := Lib.hid (fun w' (h : Below w.heap.size w w') => lot_any A len cap ns a w' (lift.out w' h).1 hl)
    have LB := Lib.hid (fun w' (h : Below w.heap.size w w') => lot_any A len cap ns b w' (lift.out w' h).1 hl)
    have hd : (decide (LOk ns ∧ a < 2 ^ len) && decide (LOk ns ∧ b < 2 ^ len)) = false := by
      rw [Bool.and_eq_false_iff, decide_eq_false_iff_not, decide_eq_false_iff_not]
      exact Classical.not_and_iff_not_or_not.1 hAB
    clear hr htb hel hAB hl
    generalize decide (LOk ns ∧ a < 2 ^ len) = dA at *
    generalize decide (LOk ns ∧ b < 2 ^ len) = dB at *
    go_enter Tryd.func3, Tryd.ntmps3
    go_wp2_with fail
    refine (RA.out w (Below.refl _ _)).mono ?_
    rintro e w1 ⟨⟨m1, c1, rfl, hc1⟩, b1⟩
    go_wp2_with fail
    refine (RB.out w1 b1).mono ?_
    rintro e w2 ⟨⟨m2, c2, rfl, hc2⟩, b2'⟩
    have b2 := b1.trans (b2'.mono b1.size)
    have hc1H := Lib.hid hc1; have hc2H := Lib.hid hc2
    clear hc1 hc2
    go_wp2_with fail
    refine (LA.out w2 b2).mono ?_
    rintro e w3 ⟨rfl, rfl⟩
    cases dA
    · have e1 : (c1 != 0) = true := hc1H.out
      clear hd
      go_wp2
      go_ret
      exact ⟨rfl, b2⟩
    · have e1 : (c1 != 0) = false := hc1H.out
      have hdB : dB = false := by simpa using hd
      subst hdB
      have e2 : (c2 != 0) = true := hc2H.out
      clear hd
      go_wp2_with fail
      refine (LB.out _ b2).mono ?_
      rintro e w3 ⟨rfl, rfl⟩
      go_wp2
      go_ret
      exact ⟨rfl, b2⟩
end Go.Proofs.YtomncmhjpmocaaaDoor
