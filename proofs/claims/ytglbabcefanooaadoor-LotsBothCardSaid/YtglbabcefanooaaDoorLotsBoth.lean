/- LotsBoth: the largest set that is free by both is as large as the least of what is free of some by the one, and of the others by the other one. -/
import Derived.Test.YtglbabcefanooaaDoorCommon
import Derived.Test.YtglbabcefanooaaDoorCard
namespace Go.Proofs.YtglbabcefanooaaDoor
open Go.RowKit Go.Shelf

open Classical in
theorem both_bad (A B : Option Addr) (la ca lb cb : Nat) (xs ys : List Nat) (w : World) (hra : Rd w A la 1 (wds xs)) (hrb : Rd w B lb 1 (wds ys)) (hla : la ≤ 9223372036854775807) (hlb : lb ≤ 9223372036854775807) (hno : ¬ (LOk xs ∧ LOk ys ∧ la = lb)) :
    Calls Tryd.prog 3 #[.slice A la ca, .slice B lb cb] w fun e w' => e = .returned (.bool true) ∧ Below w.heap.size w w' := by
  have hC := Lib.hid (common_bad A B la ca lb cb xs ys w hra hrb hla hlb hno)
  have LA := Lib.hid (fun W (h : Below w.heap.size w W) => lot_any A la ca xs 0 W (hra.later h) hla)
  have LB := Lib.hid (fun W (h : Below w.heap.size w W) => lot_any B lb cb ys 0 W (hrb.later h) hlb)
  have e1 : ∀ (l : List Nat) n, decide (LOk l ∧ 0 < 2 ^ n) = decide (LOk l) := fun l n => by
    rw [decide_eq_decide]; exact ⟨fun h => h.1, fun h => ⟨h, Nat.pow_pos (by omega)⟩⟩
  rw [e1] at LA LB
  clear hra hrb e1
  by_cases h1 : LOk xs
  · by_cases h2 : LOk ys
    · have h3 : (la : Int) ≠ lb := fun h => hno ⟨h1, h2, by omega⟩
      rw [decide_eq_true h1] at LA
      rw [decide_eq_true h2] at LB
      clear h1 h2 hno
      go_enter Tryd.func3, Tryd.ntmps3
      go_wp2_with fail
      refine hC.out.mono ?_
      rintro _ w1 ⟨⟨z, c, rfl, hc⟩, hb1⟩
      have LA1 := Lib.hid (LA.out w1 hb1)
      have LB1 := Lib.hid (LB.out w1 hb1)
      clear LA LB hC
      go_wp2_with fail
      refine LA1.out.mono ?_
      rintro _ w2 ⟨rfl, rfl⟩
      go_wp2_with fail
      refine LB1.out.mono ?_
      rintro _ w2 ⟨rfl, rfl⟩
      go_wp2
      go_ret
      exact ⟨rfl, hb1⟩
    · rw [decide_eq_true h1] at LA
      rw [decide_eq_false h2] at LB
      clear h1 h2 hno
      go_enter Tryd.func3, Tryd.ntmps3
      go_wp2_with fail
      refine hC.out.mono ?_
      rintro _ w1 ⟨⟨z, c, rfl, hc⟩, hb1⟩
      have LA1 := Lib.hid (LA.out w1 hb1)
      have LB1 := Lib.hid (LB.out w1 hb1)
      clear LA LB hC
      go_wp2_with fail
      refine LA1.out.mono ?_
      rintro _ w2 ⟨rfl, rfl⟩
      go_wp2_with fail
      refine LB1.out.mono ?_
      rintro _ w2 ⟨rfl, rfl⟩
      go_wp2
      go_ret
      exact ⟨rfl, hb1⟩
  · rw [decide_eq_false h1] at LA
    clear h1 hno LB
    go_enter Tryd.func3, Tryd.ntmps3
    go_wp2_with fail
    refine hC.out.mono ?_
    rintro _ w1 ⟨⟨z, c, rfl, hc⟩, hb1⟩
    have LA1 := Lib.hid (LA.out w1 hb1)
    clear LA hC
    go_wp2_with fail
    refine LA1.out.mono ?_
    rintro _ w2 ⟨rfl, rfl⟩
    go_wp2
    go_ret
    exact ⟨rfl, hb1⟩
open Classical in
set_option maxHeartbeats 1600000 in
theorem both_ok (A B : Option Addr) (n ca cb : Nat) (xs ys : List Nat) (w : World) (hra : Rd w A n 1 (wds xs)) (hrb : Rd w B n 1 (wds ys)) (hoka : LOk xs) (hokb : LOk ys) (htb : Tb w) (hg : 0 < w.heap.size) :
    Calls Tryd.prog 3 #[.slice A n ca, .slice B n cb] w fun e w' => e = .returned (.bool true) ∧ Below w.heap.size w w' := by
  have hel : xs.length = n := by simpa [wds] using hra.1
  have hn : n ≤ 10 := by rw [← hel]; exact hoka.1
  have hp : 2 ^ n ≤ 2 ^ 10 := Nat.pow_le_pow_right (by omega) hn
  have hpos : 0 < 2 ^ n := Nat.pow_pos (by omega)
  have hC := Lib.hid (common_ok A B n ca cb xs ys w hra hrb hoka hokb htb hg)
  have LA := Lib.hid (fun x W (h : Below w.heap.size w W) => lot_any A n ca xs x W (hra.later h) (by omega))
  have LB := Lib.hid (fun W (h : Below w.heap.size w W) => lot_any B n cb ys 0 W (hrb.later h) (by omega))
  have RA := Lib.hid (fun x (hx : x < 2 ^ n) W (h : Below w.heap.size w W) => rank_ok A n ca xs x W (hra.later h) hoka hx (htb.below hg h) (Nat.lt_of_lt_of_le hg h.size))
  have RB := Lib.hid (fun x (hx : x < 2 ^ n) W (h : Below w.heap.size w W) => rank_ok B n cb ys x W (hrb.later h) hokb hx (htb.below hg h) (Nat.lt_of_lt_of_le hg h.size))
  have FA := Lib.hid (fun x (hx : x < 2 ^ n) W (h : Below w.heap.size w W) => free_any A n ca xs x W (hra.later h) hoka hx)
  have FB := Lib.hid (fun x (hx : x < 2 ^ n) W (h : Below w.heap.size w W) => free_any B n cb ys x W (hrb.later h) hokb hx)
  have hlaw := Lib.hid (fun W L => comI_least (W := W) (L := L) hn hoka.at hokb.at)
  have hsz := Lib.hid (fun s => show rkS xs n s ≤ n from Nat.le_trans (rkS_size n) (popc_le n s))
  have hsz2 := Lib.hid (fun s => show rkS ys n s ≤ n from Nat.le_trans (rkS_size n) (popc_le n s))
  have dA : ∀ x, x < 2 ^ n → decide (LOk xs ∧ x < 2 ^ n) = true := fun x hx => decide_eq_true ⟨hoka, hx⟩
  have dB := decide_eq_true (show LOk ys ∧ 0 < 2 ^ n from ⟨hokb, hpos⟩)
  rw [dB] at LB
  have LA0 := Lib.hid (fun W (h : Below w.heap.size w W) => LA.out 0 W h)
  rw [dA 0 hpos] at LA0
  have dAH := Lib.hid dA
  have hone := two_pow_u32 n (by omega)
  have hpc : ((2 ^ n : Nat) : Int) = (2 : Int) ^ n := by simp
  have h2pH := Lib.hid hp; have hposH := Lib.hid hpos
  clear hra hrb hoka hokb htb hp hel dA dB hpos
  go_enter Tryd.func3, Tryd.ntmps3
  go_wp2_with fail
  refine hC.out.mono ?_
  rintro _ w1 ⟨W, rfl, hI, hb1⟩
  have LA1 := Lib.hid (LA0.out w1 hb1)
  have LB1 := Lib.hid (LB.out w1 hb1)
  have hIH := Lib.hid hI
  clear LA0 LB hC hI
  go_wp2_with fail
  refine LA1.out.mono ?_
  rintro _ w2 ⟨rfl, rfl⟩
  go_wp2_with fail
  refine LB1.out.mono ?_
  rintro _ w2 ⟨rfl, rfl⟩
  clear LA1 LB1
  go_wp2
  obtain ⟨m, hm⟩ : ∃ m, 2 ^ n = m + 1 := ⟨2 ^ n - 1, by have := hposH.out; omega⟩
  have hE : ((2 : Int) ^ n - 1) % 4294967296 = (m : Int) := by rw [← hpc, hm]; have := h2pH.out; omega
  have hm10 : m < 1024 := by have := h2pH.out; omega
  have hmH := Lib.hid hm
  have hm1 := Lib.hid (show 2 ^ n - 1 = m by omega)
  simp only [hE]
  clear hE hm
  go_loopw [8, 9, 10, 11, 12, 13] (fun l q _ _ _ _ wr => ∃ v L : Nat, v ≤ m + 1 ∧ q = .int .u32 (v : Int) ∧ l = .int .i64 (L : Int) ∧ L ≤ n + 1 ∧ (∀ s, s < v → L ≤ rkS xs n s + rkS ys n (m &&& (4294967295 - s))) ∧ (L = n + 1 ∨ ∃ s, s < v ∧ L = rkS xs n s + rkS ys n (m &&& (4294967295 - s))) ∧ Below w.heap.size w wr) (fun _ q _ _ _ _ _ => m + 1 - (intOf q).toNat)
  case atStart => exact ⟨0, n + 1, Nat.zero_le _, rfl, by simp, Nat.le_refl _, fun s h => absurd h (by omega), .inl rfl, hb1⟩
  case round =>
    clear hb1
    obtain ⟨v, L, hv, rfl, rfl, hLn, hlo, hat, hb⟩ := hrel
    by_cases hlt : v ≤ m
    · have hv2 : v < 2 ^ n := by rw [hmH.out]; omega
      have hc2 : m &&& (4294967295 - v) < 2 ^ n := by rw [hmH.out]; exact Nat.lt_succ_of_le Nat.and_le_left
      have hand := u32_andNot_nat m v (by omega) (by omega)
      have R1 := Lib.hid (RA.out v hv2 wr hb)
      have R2 := Lib.hid (fun W h => RB.out _ hc2 W h)
      have hx := hsz.out v
      have hy := hsz2.out (m &&& (4294967295 - v))
      have hloH := Lib.hid hlo; have hatH := Lib.hid hat; have hbH := Lib.hid hb
      have hnx : ∀ L', L' = min L (rkS xs n v + rkS ys n (m &&& (4294967295 - v))) → (∀ s, s < v + 1 → L' ≤ rkS xs n s + rkS ys n (m &&& (4294967295 - s))) ∧ (L' = n + 1 ∨ ∃ s, s < v + 1 ∧ L' = rkS xs n s + rkS ys n (m &&& (4294967295 - s))) := fun L' hL' => by
        refine ⟨fun s hs => ?_, ?_⟩
        · rcases Nat.lt_or_ge s v with h | h
          · have := hlo s h; omega
          · obtain rfl : s = v := by omega
            omega
        · rcases Nat.le_total L (rkS xs n v + rkS ys n (m &&& (4294967295 - v))) with h | h
          · rw [Nat.min_eq_left h] at hL'
            subst hL'
            rcases hat with h1 | ⟨s, h1, h2⟩
            · exact .inl h1
            · exact .inr ⟨s, by omega, h2⟩
          · rw [Nat.min_eq_right h] at hL'
            exact .inr ⟨v, by omega, hL'⟩
      have hnxH := Lib.hid hnx
      have hltZ : (v : Int) ≤ m := by omega
      have hw1 : IntKind.u32.wrap ((v : Int) + 1) = ((v + 1 : Nat) : Int) := by rw [IntWalk.u32_in _ (by omega)]; omega
      clear hlo hat hb hnx
      generalize rkS xs n v = X at *
      generalize hc : m &&& (4294967295 - v) = cv at *
      generalize rkS ys n cv = Y at *
      clear hc
      go_wp2_with fail
      refine R1.out.mono ?_
      rintro _ w2 ⟨rfl, hb2⟩
      have hb3 := hbH.out.trans (hb2.mono hbH.out.size)
      have R2w := Lib.hid (R2.out _ hb3)
      have hb3H := Lib.hid hb3
      clear hb2 hb3 hbH R1 R2
      go_wp2_with fail
      refine R2w.out.mono ?_
      rintro _ w4 ⟨rfl, hb4⟩
      have hb5 := hb3H.out.trans (hb4.mono hb3H.out.size)
      clear hb4 hb3H R2w
      by_cases hlss : X + Y < L
      · have hlZ : (X : Int) + Y < L := by omega
        have hn1 := hnxH.out (X + Y) (by omega)
        have hn1H := Lib.hid hn1
        clear hn1 hnxH hlss
        go_wp2
        go_roundw
        case rel => exact ⟨v + 1, X + Y, by omega, by go_num, by go_num, by omega, hn1H.out.1, hn1H.out.2, hb5⟩
        case measure => simp [intOf]; omega
      · have hlZ : (L : Int) ≤ (X : Int) + Y := by omega
        have hn1 := hnxH.out L (by omega)
        have hn1H := Lib.hid hn1
        clear hn1 hnxH hlss
        go_wp2
        go_roundw
        case rel => exact ⟨v + 1, L, by omega, by go_num, rfl, by omega, hn1H.out.1, hn1H.out.2, hb5⟩
        case measure => simp [intOf]; omega
    · obtain rfl : v = m + 1 := by omega
      have hI := hIH.out
      have hLn2 : L ≠ n + 1 := fun h => by
        have h0 := hlo 0 (by omega)
        have hz : rkS xs n 0 = 0 := rkS_zero.2 (by simp)
        have := hsz2.out (m &&& (4294967295 - 0))
        omega
      have hpL : popc 10 W = L := hlaw.out W L hI (fun s hs => by rw [hm1.out]; exact hlo s (by rw [hmH.out] at hs; omega)) (by
        rcases hat with h | ⟨s, h1, h2⟩
        · exact absurd h hLn2
        · exact ⟨s, by rw [hmH.out]; omega, by rw [hm1.out]; exact h2⟩)
      have hWlt := hI.lt
      have L1 := LA.out W wr hb
      rw [dAH.out W hWlt] at L1
      have F1 := FA.out W hWlt wr hb
      have F2 := FB.out W hWlt wr hb
      rw [hI.fa, beq_self_eq_true] at F1
      rw [hI.fb, beq_self_eq_true] at F2
      have S1 := size_any W wr (by have := h2pH.out; omega)
      rw [hpL] at S1
      have L1H := Lib.hid L1; have F1H := Lib.hid F1; have F2H := Lib.hid F2; have S1H := Lib.hid S1; have hbH := Lib.hid hb
      have hltZ : (m : Int) < ((m + 1 : Nat) : Int) := by omega
      clear L1 F1 F2 S1 hI hb hlo hat hlaw LA FA FB RA RB hIH hpL
      go_wp2_with fail
      refine L1H.out.mono ?_
      rintro _ w2 ⟨rfl, rfl⟩
      go_wp2_with fail
      refine F1H.out.mono ?_
      rintro _ w2 ⟨rfl, rfl⟩
      go_wp2_with fail
      refine F2H.out.mono ?_
      rintro _ w2 ⟨rfl, rfl⟩
      go_wp2_with fail
      refine S1H.out.mono ?_
      rintro _ w2 ⟨rfl, rfl⟩
      go_wp2
      go_ret
      exact ⟨rfl, hbH.out⟩
theorem lotsBoth_any (A : Option Addr) (la ca : Nat) (xs : List Nat) (B : Option Addr) (lb cb : Nat) (ys : List Nat) (w : World) (hra : Rd w A la 1 (wds xs)) (hla : la ≤ 9223372036854775807) (hrb : Rd w B lb 1 (wds ys)) (hlb : lb ≤ 9223372036854775807) (htb : Tb w) (hg : 0 < w.heap.size) :
    Calls Tryd.prog 3 #[.slice A la ca, .slice B lb cb] w fun e w' => e = .returned (.bool true) ∧ Below w.heap.size w w' := by
  by_cases h : LOk xs ∧ LOk ys ∧ la = lb
  · obtain ⟨h1, h2, rfl⟩ := h
    exact both_ok A B la ca cb xs ys w hra hrb h1 h2 htb hg
  · exact both_bad A B la ca lb cb xs ys w hra hrb hla hlb h
end Go.Proofs.YtglbabcefanooaaDoor
