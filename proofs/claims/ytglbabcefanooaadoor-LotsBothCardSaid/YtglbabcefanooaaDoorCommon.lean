/- lots.Common: the largest set that is free by both. -/
import Derived.Test.YtglbabcefanooaaDoorFree
import Derived.Test.YtglbabcefanooaaDoorOnes
namespace Go.Proofs.YtglbabcefanooaaDoor
open Go.RowKit Go.Shelf

theorem andNot_bit {a b i : Nat} (ha : a < 4294967296) (hi : i < 32) : (b &&& (4294967295 - a)).testBit i = (b.testBit i && !a.testBit i) := by
  rw [Nat.testBit_and, show 4294967295 - a = 2 ^ 32 - (a + 1) by omega, Nat.testBit_two_pow_sub_succ (by omega)]
  simp [hi]
/-- free by both, and the largest among those below m -/
structure ComI (xs ys : List Nat) (n m W : Nat) : Prop where
  lt : W < 2 ^ n
  fa : rkS xs n W = popc 10 W
  fb : rkS ys n W = popc 10 W
  top : ∀ v, v < m → rkS xs n v = popc 10 v → rkS ys n v = popc 10 v → popc 10 v ≤ popc 10 W
theorem ComI.start (xs ys : List Nat) (n : Nat) : ComI xs ys n 0 0 :=
  ⟨Nat.pow_pos (by omega), (rkS_zero.2 (by simp)).trans (popc_zero 10).symm, (rkS_zero.2 (by simp)).trans (popc_zero 10).symm, fun v h => absurd h (by omega)⟩
theorem ComI.skip {xs ys : List Nat} {n m W : Nat} (h : ComI xs ys n m W) (hno : rkS xs n m = popc 10 m → rkS ys n m = popc 10 m → popc 10 m ≤ popc 10 W) : ComI xs ys n (m + 1) W :=
  ⟨h.lt, h.fa, h.fb, fun v hv h1 h2 => by
    rcases Nat.lt_or_ge v m with hlt | hge
    · exact h.top v hlt h1 h2
    · obtain rfl : v = m := by omega
      exact hno h1 h2⟩
theorem ComI.take {xs ys : List Nat} {n m W : Nat} (h : ComI xs ys n m W) (hm : m < 2 ^ n) (h1 : rkS xs n m = popc 10 m) (h2 : rkS ys n m = popc 10 m) (hgt : popc 10 W < popc 10 m) : ComI xs ys n (m + 1) m :=
  ⟨hm, h1, h2, fun v hv h3 h4 => by
    rcases Nat.lt_or_ge v m with hlt | hge
    · have := h.top v hlt h3 h4; omega
    · obtain rfl : v = m := by omega
      exact Nat.le_refl _⟩
theorem comI_least {xs ys : List Nat} {n W L : Nat} (hn : n ≤ 10) (ha : ∀ i, xs.getD i 0 < 1024) (hb : ∀ i, ys.getD i 0 < 1024) (h : ComI xs ys n (2 ^ n) W)
    (hlo : ∀ s, s < 2 ^ n → L ≤ rkS xs n s + rkS ys n ((2 ^ n - 1) &&& (4294967295 - s))) (hat : ∃ s, s < 2 ^ n ∧ L = rkS xs n s + rkS ys n ((2 ^ n - 1) &&& (4294967295 - s))) : popc 10 W = L := by
  have hp : 2 ^ n ≤ 2 ^ 10 := Nat.pow_le_pow_right (by omega) hn
  have cbit : ∀ s, s < 2 ^ n → ∀ i, ((2 ^ n - 1) &&& (4294967295 - s)).testBit i = (decide (i < n) && !s.testBit i) := fun s hs i => by
    rcases Nat.lt_or_ge i 32 with h1 | h1
    · rw [andNot_bit (by omega) h1, Nat.testBit_two_pow_sub_one]
    · rw [Nat.testBit_and, Nat.testBit_two_pow_sub_one, decide_eq_false (by omega)]; simp
  refine Nat.le_antisymm ?_ ?_
  · obtain ⟨s, hs, rfl⟩ := hat
    have f1 : Indep xs W n := (indep_rk n).2 (by rw [h.fa, popc_ten hn h.lt])
    have f2 : Indep ys W n := (indep_rk n).2 (by rw [h.fb, popc_ten hn h.lt])
    generalize hT : (2 ^ n - 1) &&& (4294967295 - s) = T
    have hTb : ∀ i, T.testBit i = (decide (i < n) && !s.testBit i) := fun i => by rw [← hT]; exact cbit s hs i
    have g1 : rkS xs n (W &&& s) = popc n (W &&& s) := (indep_rk n).1 (f1.sub fun i hi => by rw [Nat.testBit_and, Bool.and_eq_true] at hi; exact hi.1)
    have g2 : rkS ys n (W &&& T) = popc n (W &&& T) := (indep_rk n).1 (f2.sub fun i hi => by rw [Nat.testBit_and, Bool.and_eq_true] at hi; exact hi.1)
    have m1 : rkS xs n (W &&& s) ≤ rkS xs n s := rkS_mono ha fun i _ hi => by rw [Nat.testBit_and, Bool.and_eq_true] at hi; exact hi.2
    have m2 : rkS ys n (W &&& T) ≤ rkS ys n T := rkS_mono hb fun i _ hi => by rw [Nat.testBit_and, Bool.and_eq_true] at hi; exact hi.2
    have hsum : popc n W = popc n (W &&& s) + popc n (W &&& T) := by
      unfold popc
      have : ∀ l : List Nat, (∀ i ∈ l, i < n) → (l.filter W.testBit).length = (l.filter (W &&& s).testBit).length + (l.filter (W &&& T).testBit).length := by
        intro l
        induction l with
        | nil => intro _; rfl
        | cons a l ih =>
          intro hl
          have := ih fun i hi => hl i (List.mem_cons_of_mem _ hi)
          have hb : T.testBit a = !s.testBit a := by rw [hTb, decide_eq_true (hl a List.mem_cons_self)]; rfl
          simp only [List.filter_cons, Nat.testBit_and, hb]
          cases W.testBit a <;> cases s.testBit a <;> simp <;> omega
      exact this _ fun i hi => List.mem_range.1 hi
    rw [popc_ten hn h.lt]
    omega
  · obtain ⟨I, h1, h2, h3, h4⟩ := meet n L _ _ (rkW_of ha) (rkW_of hb) fun S T hp => by
      have hS : S < 2 ^ n := Nat.lt_pow_two_of_testBit _ fun i hi => (hp.2 i hi).1
      have hT : T = (2 ^ n - 1) &&& (4294967295 - S) := Nat.eq_of_testBit_eq fun i => by
        rw [cbit S hS]
        rcases Nat.lt_or_ge i n with h1 | h1
        · rw [hp.1 i h1]; simp [h1]
        · rw [(hp.2 i h1).2]; simp; omega
      rw [hT]
      exact hlo S hS
    have e := popc_ten hn h1
    have r1 : rkS xs n I ≤ popc n I := rkS_size n
    have r2 : rkS ys n I ≤ popc n I := rkS_size n
    have := h.top I h1 (by omega) (by omega)
    omega
theorem ix0 (a b : Value) (W : World) : (Instr.index 33 (.agg #[a, b]) (.int .i64 0)).run Tryd.prog W = .ok a W := by simp [Instr.index, run_underlying Tryd.underlying33, asIntOf, go_sem]
theorem ix1 (a b : Value) (W : World) : (Instr.index 33 (.agg #[a, b]) (.int .i64 1)).run Tryd.prog W = .ok b W := by simp [Instr.index, run_underlying Tryd.underlying33, asIntOf, go_sem]
set_option maxHeartbeats 1600000 in
theorem common_ok (A B : Option Addr) (n ca cb : Nat) (xs ys : List Nat) (w : World) (hra : Rd w A n 1 (wds xs)) (hrb : Rd w B n 1 (wds ys)) (hoka : LOk xs) (hokb : LOk ys) (htb : Tb w) (hg : 0 < w.heap.size) :
    Calls Tryd.prog 4 #[.slice A n ca, .slice B n cb] w fun e w' => ∃ W, e = .returned (.tuple #[.int .u32 (W : Nat), .int .i64 0]) ∧ ComI xs ys n (2 ^ n) W ∧ Below w.heap.size w w' := by
  have hel : xs.length = n := by simpa [wds] using hra.1
  have hn : n ≤ 10 := by rw [← hel]; exact hoka.1
  have hp : 2 ^ n ≤ 2 ^ 10 := Nat.pow_le_pow_right (by omega) hn
  have CA := Lib.hid (fun W (h : Below w.heap.size w W) => check_any A n ca xs W (hra.later h) (by omega))
  have CB := Lib.hid (fun W (h : Below w.heap.size w W) => check_any B n cb ys W (hrb.later h) (by omega))
  rw [lchk_ok.2 hoka] at CA
  rw [lchk_ok.2 hokb] at CB
  have RA := Lib.hid (fun x (hx : x < 2 ^ n) W (h : Below w.heap.size w W) => rank_any A n ca xs x W (hra.later h) hn hoka.at hx (htb.below hg h) (Nat.lt_of_lt_of_le hg h.size))
  have RB := Lib.hid (fun x (hx : x < 2 ^ n) W (h : Below w.heap.size w W) => rank_any B n cb ys x W (hrb.later h) hn hokb.at hx (htb.below hg h) (Nat.lt_of_lt_of_le hg h.size))
  have hone := two_pow_u32 n (by omega)
  have hpc : ((2 ^ n : Nat) : Int) = (2 : Int) ^ n := by simp
  have h2pH := Lib.hid hp
  clear hra hrb hoka hokb htb hp hel
  have hi0 := ix0; have hi1 := ix1
  go_enter Tryd.func4, Tryd.ntmps4
  go_wp2
  go_loopw [7, 8, 15] (fun _ _ q wr => ∃ j : Nat, j ≤ 2 ∧ q = .int .i64 j ∧ Below w.heap.size w wr) (fun _ _ q _ => 2 - (intOf q).toNat)
  case atStart => exact ⟨0, by omega, rfl, Below.refl _ _⟩
  case round =>
    obtain ⟨j, hj, rfl, hb⟩ := hrel
    rcases (show j = 0 ∨ j = 1 ∨ j = 2 by omega) with rfl | rfl | rfl
    · have C1 := Lib.hid (CA.out _ hb)
      have hbH := Lib.hid hb
      clear hb
      go_wp2_with fail
      refine C1.out.mono ?_
      rintro _ w1 ⟨rfl, hb1⟩
      have hb2 := hbH.out.trans (hb1.mono hbH.out.size)
      clear hb1 hbH C1
      go_wp2
      go_roundw
      case rel => exact ⟨1, by omega, by go_num, hb2⟩
      case measure => simp [intOf]
    · have C1 := Lib.hid (CB.out _ hb)
      have hbH := Lib.hid hb
      clear hb
      go_wp2_with fail
      refine C1.out.mono ?_
      rintro _ w1 ⟨rfl, hb1⟩
      have hb2 := hbH.out.trans (hb1.mono hbH.out.size)
      clear hb1 hbH C1
      go_wp2
      go_roundw
      case rel => exact ⟨2, by omega, by go_num, hb2⟩
      case measure => simp [intOf]
    · clear CA CB
      go_wp2
      rw [show ((2 : Nat) : Int) = 2 from rfl]
      go_loopw [9, 10, 11, 32] (fun u _ _ q wr => ∃ v U : Nat, v ≤ 2 ^ n ∧ q = .int .u32 (v : Int) ∧ u = .int .u32 (U : Int) ∧ ComI xs ys n v U ∧ Below w.heap.size w wr) (fun _ _ _ q _ => 2 ^ n - (intOf q).toNat)
      case atStart => exact ⟨0, 0, Nat.zero_le _, rfl, rfl, ComI.start xs ys n, hb⟩
      case round =>
        clear hb
        obtain ⟨v, U, hv, rfl, rfl, hI, hb⟩ := hrel
        have h10 := h2pH.out
        by_cases hlt : v < 2 ^ n
        · have O1 := Lib.hid (fun W => ones_any v W (by omega))
          have hUlt := hI.lt
          have O2 := Lib.hid (fun W => ones_any U W (by omega))
          have hskip := Lib.hid hI.skip
          have htake := Lib.hid (fun h1 h2 h3 => hI.take hlt h1 h2 h3)
          have hIH := Lib.hid hI; have hbH := Lib.hid hb
          have R1 := Lib.hid (fun W (h : Below w.heap.size w W) => RA.out v hlt W h)
          have R2 := Lib.hid (fun W (h : Below w.heap.size w W) => RB.out v hlt W h)
          have hltZ : (v : Int) < (2 : Int) ^ n := by rw [← hpc]; omega
          have hw1 : IntKind.u32.wrap ((v : Int) + 1) = ((v + 1 : Nat) : Int) := by rw [IntWalk.u32_in _ (by omega)]; omega
          have hpl := popc_le 10 v
          have hpl2 := popc_le 10 U
          clear hI hb
          generalize popc 10 v = pv at *
          generalize hpU : popc 10 U = pU at *
          generalize rkS xs n v = ra at *
          generalize rkS ys n v = rb at *
          have hpUH := Lib.hid hpU
          clear hpU
          go_wp2_with fail
          refine (O1.out _).mono ?_
          rintro _ w1 ⟨rfl, d1, rfl⟩
          go_wp2_with fail
          refine (O2.out _).mono ?_
          rintro _ w1 ⟨rfl, d2, rfl⟩
          have hb1 := below_drewN hbH.out (d1 + d2)
          have R1w := Lib.hid (R1.out _ hb1)
          have hb1H := Lib.hid hb1
          clear hb1 R1
          by_cases hgt : pU < pv
          · have hgtZ : (pU : Int) < pv := by omega
            go_wp2_with fail
            refine R1w.out.mono ?_
            rintro _ w2 ⟨rfl, hb2⟩
            have hb3 := hb1H.out.trans (hb2.mono hb1H.out.size)
            have R2w := Lib.hid (R2.out _ hb3)
            have hb3H := Lib.hid hb3
            clear hb2 hb3 hb1H hbH R1w R2
            by_cases hra : ra = pv
            · subst hra
              go_wp2_with fail
              refine R2w.out.mono ?_
              rintro _ w4 ⟨rfl, hb4⟩
              have hb5 := hb3H.out.trans (hb4.mono hb3H.out.size)
              clear hb4 hb3H R2w
              by_cases hrb : rb = ra
              · have hnx := Lib.hid (htake.out trivial hrb hgt)
                subst hrb
                clear htake hskip
                go_wp2
                go_roundw
                case rel => exact ⟨v + 1, v, by omega, by go_num, rfl, hnx.out, hb5⟩
                case measure => simp [intOf]; omega
              · have hnx := Lib.hid (hskip.out fun _ h => absurd h hrb)
                have hrbZ : (rb : Int) ≠ ra := by omega
                clear htake hskip hrb
                go_wp2
                go_roundw
                case rel => exact ⟨v + 1, U, by omega, by go_num, rfl, hnx.out, hb5⟩
                case measure => simp [intOf]; omega
            · have hnx := Lib.hid (hskip.out fun h _ => absurd h hra)
              have hraZ : (ra : Int) ≠ pv := by omega
              have hb5 := hb3H.out
              clear htake hskip hra hb3H
              go_wp2
              go_roundw
              case rel => exact ⟨v + 1, U, by omega, by go_num, rfl, hnx.out, hb5⟩
              case measure => simp [intOf]; omega
          · have hnx := Lib.hid (hskip.out fun _ _ => by omega)
            have hgtZ : (pv : Int) ≤ pU := by omega
            have hb5 := hb1H.out
            clear htake hskip hb1H
            go_wp2
            go_roundw
            case rel => exact ⟨v + 1, U, by omega, by go_num, rfl, hnx.out, hb5⟩
            case measure => simp [intOf]; omega
        · obtain rfl : v = 2 ^ n := by omega
          have hIH := Lib.hid hI
          clear hI RA RB
          go_wp2
          go_ret2
          exact ⟨U, rfl, hIH.out, hb⟩
set_option maxHeartbeats 1600000 in
theorem common_bad (A B : Option Addr) (la ca lb cb : Nat) (xs ys : List Nat) (w : World) (hra : Rd w A la 1 (wds xs)) (hrb : Rd w B lb 1 (wds ys)) (hla : la ≤ 9223372036854775807) (hlb : lb ≤ 9223372036854775807) (hno : ¬ (LOk xs ∧ LOk ys ∧ la = lb)) :
    Calls Tryd.prog 4 #[.slice A la ca, .slice B lb cb] w fun e w' => (∃ z c : Int, e = .returned (.tuple #[.int .u32 z, .int .i64 c]) ∧ (c != 0) = true) ∧ Below w.heap.size w w' := by
  have CA := Lib.hid (fun W (h : Below w.heap.size w W) => check_any A la ca xs W (hra.later h) hla)
  have CB := Lib.hid (fun W (h : Below w.heap.size w W) => check_any B lb cb ys W (hrb.later h) hlb)
  clear hra hrb
  have hi0 := ix0; have hi1 := ix1
  go_enter Tryd.func4, Tryd.ntmps4
  go_wp2
  go_loopw [7, 8, 15] (fun _ _ q wr => ∃ j : Nat, j ≤ 2 ∧ q = .int .i64 j ∧ (1 ≤ j → LOk xs) ∧ (2 ≤ j → LOk ys) ∧ Below w.heap.size w wr) (fun _ _ q _ => 2 - (intOf q).toNat)
  case atStart => exact ⟨0, by omega, rfl, fun h => absurd h (by omega), fun h => absurd h (by omega), Below.refl _ _⟩
  case round =>
    obtain ⟨j, hj, rfl, ha, hB, hb⟩ := hrel
    rcases (show j = 0 ∨ j = 1 ∨ j = 2 by omega) with rfl | rfl | rfl
    · have C1 := Lib.hid (CA.out _ hb)
      have hbH := Lib.hid hb
      clear hb ha hB
      by_cases hc : lchk xs = 0
      · have hok := lchk_ok.1 hc
        rw [hc] at C1
        have hokH := Lib.hid hok
        clear hc hok
        go_wp2_with fail
        refine C1.out.mono ?_
        rintro _ w1 ⟨rfl, hb1⟩
        have hb2 := hbH.out.trans (hb1.mono hbH.out.size)
        clear hb1 hbH C1
        go_wp2
        go_roundw
        case rel => exact ⟨1, by omega, by go_num, fun _ => hokH.out, fun h => absurd h (by omega), hb2⟩
        case measure => simp [intOf]
      · have hcb : (lchk xs != 0) = true := bne_iff_ne.2 hc
        generalize lchk xs = c at *
        clear hc
        go_wp2_with fail
        refine C1.out.mono ?_
        rintro _ w1 ⟨rfl, hb1⟩
        have hb2 := hbH.out.trans (hb1.mono hbH.out.size)
        clear hb1 hbH C1
        go_wp2
        go_ret2
        exact ⟨⟨0, c, rfl, hcb⟩, hb2⟩
    · have C1 := Lib.hid (CB.out _ hb)
      have hbH := Lib.hid hb; have haH := Lib.hid (ha (by omega))
      clear hb ha hB
      by_cases hc : lchk ys = 0
      · have hok := lchk_ok.1 hc
        rw [hc] at C1
        have hokH := Lib.hid hok
        clear hc hok
        go_wp2_with fail
        refine C1.out.mono ?_
        rintro _ w1 ⟨rfl, hb1⟩
        have hb2 := hbH.out.trans (hb1.mono hbH.out.size)
        clear hb1 hbH C1
        go_wp2
        go_roundw
        case rel => exact ⟨2, by omega, by go_num, fun _ => haH.out, fun _ => hokH.out, hb2⟩
        case measure => simp [intOf]
      · have hcb : (lchk ys != 0) = true := bne_iff_ne.2 hc
        generalize lchk ys = c at *
        clear hc
        go_wp2_with fail
        refine C1.out.mono ?_
        rintro _ w1 ⟨rfl, hb1⟩
        have hb2 := hbH.out.trans (hb1.mono hbH.out.size)
        clear hb1 hbH C1
        go_wp2
        go_ret2
        exact ⟨⟨0, c, rfl, hcb⟩, hb2⟩
    · have h3 : (la : Int) ≠ lb := fun h => hno ⟨ha (by omega), hB (by omega), by omega⟩
      clear CA CB ha hB hno
      go_wp2
      go_ret2
      exact ⟨⟨0, 3, rfl, rfl⟩, hb⟩
end Go.Proofs.YtglbabcefanooaaDoor
