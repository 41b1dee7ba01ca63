/- Wishes: what is wrong with them (lists, Check, WishesCheck). -/
import Derived.Test.YtcmefjfhcdedjaaWishA
import Derived.Test.YtcmefjfhcdedjaaRows2
import Derived.Test.YtcmefjfhcdedjaaHas
namespace Go.Proofs.Ytcmefjfhcdedjaa
open Go.RowKit

/-- may the k-th number of a list stand where it stands? -/
def okAt (n : Nat) (zs : List Int) (k : Nat) : Bool := decide (0 ≤ zs.getD k 0) && decide (zs.getD k 0 < n) && !hasB (zs.take k) (zs.getD k 0)
def badR (n : Nat) (r : Rw) : Bool := !(List.range r.zs.length).all (okAt n r.zs)
def wchk (l r : List Rw) : Int := if 8 < l.length ∨ 8 < r.length then 1 else if l.length ≠ r.length then 3 else if l.any (badR l.length) || r.any (badR l.length) then 2 else 0
theorem badR_no {n : Nat} {r : Rw} (h : ∀ k, k < r.zs.length → okAt n r.zs k = true) : badR n r = false := by
  unfold badR
  rw [Bool.not_eq_false', List.all_eq_true]
  intro k hk
  exact h k (by simpa using hk)
theorem badR_yes {n : Nat} {r : Rw} {k : Nat} (hk : k < r.zs.length) (h : okAt n r.zs k = false) : badR n r = true := by
  unfold badR
  rw [Bool.not_eq_true', List.all_eq_false]
  exact ⟨k, by simpa using hk, by rw [h]; simp⟩
theorem badR_at {n : Nat} {r : Rw} (h : badR n r = false) {k : Nat} (hk : k < r.zs.length) : okAt n r.zs k = true := by
  cases h1 : okAt n r.zs k with
  | true => rfl
  | false => rw [badR_yes hk h1] at h; cases h
theorem anyR_take {p : Rw → Bool} {l : List Rw} {k : Nat} (hk : k < l.length) (h : (l.take k).any p = false) (h' : p (rat l k) = false) : (l.take (k + 1)).any p = false := any_take_succ' p default l k hk h h'
theorem anyR_at {p : Rw → Bool} {l : List Rw} {k : Nat} (hk : k < l.length) (h : p (rat l k) = true) : l.any p = true := List.any_eq_true.2 ⟨_, rat_mem hk, h⟩
/-- the numbers of a list as a word -/
def maskOf (zs : List Int) : Nat → Nat
  | 0 => 0
  | k + 1 => maskOf zs k ||| 2 ^ (zs.getD k 0).toNat
theorem maskOf_bit (zs : List Int) (x : Nat) : ∀ k, k ≤ zs.length → (∀ q, q < k → 0 ≤ zs.getD q 0) → (maskOf zs k).testBit x = hasB (zs.take k) x
  | 0, _, _ => by simp [maskOf, hasB]
  | k + 1, hk, h => by
    have ih := maskOf_bit zs x k (by omega) fun q hq => h q (by omega)
    have h0 := h k (by omega)
    unfold maskOf
    rw [Nat.testBit_or, ih, Nat.testBit_two_pow]
    have ht : zs.take (k + 1) = zs.take k ++ [zs.getD k 0] := by
      rw [List.take_add_one]
      simp [List.getD, show k < zs.length by omega]
    rw [ht]
    unfold hasB
    rw [List.any_append]
    congr 1
    simp only [List.any_cons, List.any_nil, Bool.or_false]
    rw [Bool.eq_iff_iff, decide_eq_true_iff, beq_iff_eq]
    omega
theorem maskOf_lt (zs : List Int) : ∀ k, (∀ q, q < k → 0 ≤ zs.getD q 0 ∧ zs.getD q 0 < 8) → maskOf zs k < 256
  | 0, _ => by simp [maskOf]
  | k + 1, h => by
    have ih := maskOf_lt zs k fun q hq => h q (by omega)
    have h0 := h k (by omega)
    unfold maskOf
    exact Nat.or_lt_two_pow (n := 8) ih (Nat.pow_lt_pow_right (by omega) (by omega))
theorem ofInt_i64W (a : Nat) (ha : a < 9223372036854775808) : (BitVec.ofInt 64 (a : Int)).toNat = a := by
  rw [BitVec.ofInt_natCast, BitVec.toNat_ofNat]; exact Nat.mod_eq_of_lt (by omega)
theorem i64_andW (a b : Nat) (ha : a < 9223372036854775808) (hb : b < 9223372036854775808) : bits .and .i64 (a : Int) (b : Int) = ((a &&& b : Nat) : Int) := by
  have hx : a &&& b < 2 ^ 63 := Nat.and_lt_two_pow _ (by omega)
  show IntKind.i64.wrap ((BitVec.ofInt 64 (a : Int) &&& BitVec.ofInt 64 (b : Int)).toNat : Int) = _
  rw [BitVec.toNat_and, ofInt_i64W a ha, ofInt_i64W b hb, IntKind.wrap_i64]
  omega
theorem i64_orW (a b : Nat) (ha : a < 9223372036854775808) (hb : b < 9223372036854775808) : bits .or .i64 (a : Int) (b : Int) = ((a ||| b : Nat) : Int) := by
  have hx : a ||| b < 2 ^ 63 := Nat.or_lt_two_pow (by omega) (by omega)
  show IntKind.i64.wrap ((BitVec.ofInt 64 (a : Int) ||| BitVec.ofInt 64 (b : Int)).toNat : Int) = _
  rw [BitVec.toNat_or, ofInt_i64W a ha, ofInt_i64W b hb, IntKind.wrap_i64]
  omega
theorem bit_i64W (v k : Nat) (hv : v < 65536) : bits .and .i64 ((v : Int) / 2 ^ k) 1 = if v.testBit k then 1 else 0 := by
  have h1 : ((v : Int) / 2 ^ k) = ((v / 2 ^ k : Nat) : Int) := by simp
  have h2 : v / 2 ^ k ≤ v := Nat.div_le_self ..
  have h := i64_andW (v / 2 ^ k) 1 (by omega) (by omega)
  rw [h1, show (1 : Int) = ((1 : Nat) : Int) from rfl, h, nat_mask1, Nat.testBit_eq_decide_div_mod_eq]
  rcases Nat.mod_two_eq_zero_or_one (v / 2 ^ k) with h | h <;> simp [h]
theorem two_i64W (n : Nat) (hn : n ≤ 8) : IntKind.i64.wrap ((2 : Int) ^ n) = (2 : Int) ^ n := by
  have h : 2 ^ n ≤ 2 ^ 8 := Nat.pow_le_pow_right (by omega) hn
  have h2 : ((2 ^ n : Nat) : Int) = (2 : Int) ^ n := by simp
  have h3 := Nat.two_pow_pos n
  rw [← h2]
  exact IntWalk.i64_in _ (by omega)

set_option maxHeartbeats 1600000 in
theorem lists_any (A : Option Addr) (len cap : Nat) (l : List Rw) (n : Nat) (w : World) (hr : RdR w A len l) (hl : len ≤ 9223372036854775807) (h8 : n ≤ 8) :
    Calls Try.prog 21 #[.slice A len cap, .int .i64 n] w fun e w' => e = .returned (.bool (!l.any (badR n))) ∧ w = w' := by
  have hel := hr.1
  have hrH := Lib.hid hr; have helH := Lib.hid hel
  clear hr hel
  go_enter Try.func21, Try.ntmps21
  go_wp2
  go_loop [12] (fun i => ∃ k : Nat, k ≤ len ∧ i = .int .i64 k ∧ (l.take k).any (badR n) = false) (fun i => len - (intOf i).toNat)
  case atStart => exact ⟨0, Nat.zero_le _, rfl, rfl⟩
  case round =>
    obtain ⟨k, hk, rfl, hj⟩ := hrel
    have hjH := Lib.hid hj
    clear hj
    by_cases hlt : k < len
    · obtain ⟨b, o, rfl, hab, hc0, hfit⟩ := hrH.out.at hlt
      have hstep := Lib.hid (anyR_take (p := badR n) (l := l) (k := k) (by rw [helH.out]; exact hlt) hjH.out)
      have hstop := Lib.hid (anyR_at (p := badR n) (l := l) (k := k) (by rw [helH.out]; exact hlt))
      generalize rat l k = a at *
      obtain ⟨A', l', c', zs⟩ := a
      have hfH := Lib.hid hfit.1
      have hzl := Lib.hid (show zs.length = l' from hfit.zl)
      have hl' := hfit.2.1
      unfold maxLen at hl'
      clear hfit
      simp only at hl'
      go_wp2
      go_loop [7, 18] (fun s i => ∃ m : Nat, m ≤ l' ∧ i = .int .i64 m ∧ s = .int .i64 ((maskOf zs m : Nat) : Int) ∧ ∀ q, q < m → okAt n zs q = true) (fun _ i => l' - (intOf i).toNat)
      case atStart => exact ⟨0, Nat.zero_le _, rfl, rfl, fun q hq => absurd hq (by omega)⟩
      case round =>
        obtain ⟨m, hm, rfl, rfl, hok⟩ := hrel
        by_cases hlt2 : m < l'
        · obtain ⟨b2, o2, rfl, hab2, hc2⟩ := hfH.out.int hlt2
          have hml : m < zs.length := by have := hzl.out; omega
          have hin : ∀ q, q < m → 0 ≤ zs.getD q 0 ∧ zs.getD q 0 < 8 := fun q hq => by
            have := hok q hq
            simp only [okAt, Bool.and_eq_true, decide_eq_true_eq] at this
            omega
          have hmk := maskOf_lt zs m hin
          have hmb := Lib.hid (fun x => maskOf_bit zs x m (by omega) fun q hq => (hin q hq).1)
          have hoka := Lib.hid (show okAt n zs m = (decide (0 ≤ zs.getD m 0) && decide (zs.getD m 0 < n) && !hasB (zs.take m) (zs.getD m 0)) from rfl)
          have hmn := Lib.hid (show maskOf zs (m + 1) = maskOf zs m ||| 2 ^ (zs.getD m 0).toNat from rfl)
          have hnx : okAt n zs m = true → ∀ q, q < m + 1 → okAt n zs q = true := fun h q hq => by
            by_cases hqm : q = m
            · subst hqm; exact h
            · exact hok q (by omega)
          have hnx := Lib.hid hnx
          have hbad : okAt n zs m = false → l.any (badR n) = true := fun h => hstop.out (badR_yes hml h)
          have hbad := Lib.hid hbad
          clear hin hok
          generalize zs.getD m 0 = z at *
          by_cases h0 : z < 0
          · have hres := Lib.hid (hbad.out (by rw [hoka.out]; simp; omega))
            clear hstep hstop hnx hbad
            go_wp2
            go_ret
            exact ⟨by rw [hres.out]; rfl, rfl⟩
          · obtain ⟨x, rfl⟩ := Int.eq_ofNat_of_zero_le (show 0 ≤ z by omega)
            by_cases h1 : x < n
            · have h1' : ¬ (n : Int) ≤ x := by omega
              have hbit := bit_i64W (maskOf zs m) x (by omega)
              rw [hmb.out x] at hbit
              cases hh : hasB (zs.take m) (x : Int)
              · rw [hh] at hbit
                simp only [Bool.false_eq_true, if_false] at hbit
                have hres := Lib.hid (hnx.out (by rw [hoka.out, hh]; simp; omega))
                have hw2 := two_i64W x (by omega)
                have hor : bits .or .i64 ((maskOf zs m : Nat) : Int) ((2 : Int) ^ x) = ((maskOf zs m ||| 2 ^ x : Nat) : Int) := by
                  have := i64_orW (maskOf zs m) (2 ^ x) (by omega) (by have : 2 ^ x ≤ 2 ^ 8 := Nat.pow_le_pow_right (by omega) (by omega); omega)
                  rw [← this]; simp
                have hx0 : (0 : Int) ≤ x := by omega
                clear hstep hstop hnx hbad hh hmb
                generalize maskOf zs m = mk at *
                go_wp2
                go_round
                case rel => exact ⟨m + 1, by omega, by go_num, by rw [hmn.out]; simp, hres.out⟩
                case measure => simp [intOf]; omega
              · rw [hh] at hbit
                simp only [if_true] at hbit
                have hres := Lib.hid (hbad.out (by rw [hoka.out, hh]; simp))
                have hx0 : (0 : Int) ≤ x := by omega
                clear hstep hstop hnx hbad hh hmb
                generalize maskOf zs m = mk at *
                go_wp2
                go_ret
                exact ⟨by rw [hres.out]; rfl, rfl⟩
            · have h1' : (n : Int) ≤ x := by omega
              have hres := Lib.hid (hbad.out (by rw [hoka.out]; simp; omega))
              clear hstep hstop hnx hbad
              go_wp2
              go_ret
              exact ⟨by rw [hres.out]; rfl, rfl⟩
        · have hs := Lib.hid (hstep.out (badR_no fun q hq => hok q (by have := hzl.out; simp only at hq; omega)))
          clear hstep hstop hok
          go_wp2
          go_round
          case rel => exact ⟨k + 1, by omega, by go_num, hs.out⟩
          case measure => simp [intOf]; omega
    · have hnone := Lib.hid (show l.any (badR n) = false by have := hjH.out; rwa [List.take_of_length_le (by rw [helH.out]; omega)] at this)
      go_wp2
      go_ret
      exact ⟨by rw [hnone.out]; rfl, rfl⟩
theorem wchk_large {l r : List Rw} (h : 8 < l.length ∨ 8 < r.length) : wchk l r = 1 := by rw [wchk, if_pos h]
theorem wchk_ne {l r : List Rw} (h : ¬ (8 < l.length ∨ 8 < r.length)) (hne : l.length ≠ r.length) : wchk l r = 3 := by rw [wchk, if_neg h, if_pos hne]
theorem wchk_eq {l r : List Rw} (h : ¬ (8 < l.length ∨ 8 < r.length)) (hne : ¬ l.length ≠ r.length) : wchk l r = if l.any (badR l.length) || r.any (badR l.length) then 2 else 0 := by rw [wchk, if_neg h, if_neg hne]
set_option maxHeartbeats 1600000 in
theorem wishCheck_any (A : Option Addr) (n c : Nat) (l : List Rw) (B : Option Addr) (m d : Nat) (r : List Rw) (w : World) (hL : RdR w A n l) (hR : RdR w B m r) (hn : n ≤ 9223372036854775807) (hm : m ≤ 9223372036854775807) :
    Calls Try.prog 13 #[.agg #[.slice A n c, .slice B m d]] w fun e w' => e = .returned (.int .i64 (wchk l r)) ∧ Below w.heap.size w w' := by
  have hb0 := (Below.refl _ w).alloc (Nat.le_refl _) (.cells #[.slice A n c, .slice B m d] 24)
  by_cases h8 : 8 < n ∨ 8 < m
  · have hv := Lib.hid (wchk_large (l := l) (r := r) (by rw [hL.1, hR.1]; exact h8))
    clear hL hR
    by_cases hnm : n < m
    · have h8' : 8 < m := by omega
      go_enter Try.func13, Try.ntmps13
      go_wp2
      go_ret
      exact ⟨by rw [hv.out]; rfl, hb0⟩
    · have h8' : 8 < n := by omega
      go_enter Try.func13, Try.ntmps13
      go_wp2
      go_ret
      exact ⟨by rw [hv.out]; rfl, hb0⟩
  · have hn8 : ¬ 8 < n := by omega
    have hm8 : ¬ 8 < m := by omega
    by_cases hnm : n = m
    · subst hnm
      have hv0 := Lib.hid (wchk_eq (l := l) (r := r) (by rw [hL.1, hR.1]; exact h8) (by rw [hL.1, hR.1]; simp))
      have hLn := Lib.hid hL.1
      have H1 := Lib.hid (fun W hb => lists_any A n c l n W (hL.later hb) hn (by omega))
      have H2 := Lib.hid (fun W hb => lists_any B n d r n W (hR.later hb) hn (by omega))
      have hnn : ((n : Int) != (n : Int)) = false := by simp
      clear hL hR h8
      cases hl : l.any (badR n)
      · rw [hl] at H1
        go_enter Try.func13, Try.ntmps13
        go_wp2_with fail
        refine (H1.out _ hb0).mono ?_
        rintro e w1 ⟨rfl, rfl⟩
        cases hr : r.any (badR n)
        · rw [hr] at H2
          have hv := Lib.hid (show wchk l r = 0 by rw [hv0.out, hLn.out, hl, hr]; rfl)
          clear hl hr
          go_wp2_with fail
          refine (H2.out _ hb0).mono ?_
          rintro e w1 ⟨rfl, rfl⟩
          go_wp2
          go_ret
          exact ⟨by rw [hv.out]; rfl, hb0⟩
        · rw [hr] at H2
          have hv := Lib.hid (show wchk l r = 2 by rw [hv0.out, hLn.out, hl, hr]; rfl)
          clear hl hr
          go_wp2_with fail
          refine (H2.out _ hb0).mono ?_
          rintro e w1 ⟨rfl, rfl⟩
          go_wp2
          go_ret
          exact ⟨by rw [hv.out]; rfl, hb0⟩
      · rw [hl] at H1
        have hv := Lib.hid (show wchk l r = 2 by rw [hv0.out, hLn.out, hl]; rfl)
        clear hl
        go_enter Try.func13, Try.ntmps13
        go_wp2_with fail
        refine (H1.out _ hb0).mono ?_
        rintro e w1 ⟨rfl, rfl⟩
        go_wp2
        go_ret
        exact ⟨by rw [hv.out]; rfl, hb0⟩
    · have hv := Lib.hid (wchk_ne (l := l) (r := r) (by rw [hL.1, hR.1]; exact h8) (by rw [hL.1, hR.1]; exact hnm))
      have hnn : ((n : Int) != (m : Int)) = true := by simp; omega
      clear hL hR hnm h8
      go_enter Try.func13, Try.ntmps13
      go_wp2
      all_goals
        go_ret
        exact ⟨by rw [hv.out]; rfl, hb0⟩
set_option maxHeartbeats 1600000 in
theorem wishesCheck_any (A : Option Addr) (n c : Nat) (l : List Rw) (B : Option Addr) (m d : Nat) (r : List Rw) (w : World) (hL : RdR w A n l) (hR : RdR w B m r) :
    Calls Try.prog 19 #[.agg #[.slice A n c, .slice B m d]] w fun e w' => e = .returned (.int .i64 (wchk l r)) ∧ Below w.heap.size w w' := by
  have hb0 := (Below.refl _ w).alloc (Nat.le_refl _) (.cells #[.slice A n c, .slice B m d] 24)
  by_cases h8 : 8 < n ∨ 8 < m
  · have hv := Lib.hid (wchk_large (l := l) (r := r) (by rw [hL.1, hR.1]; exact h8))
    clear hL hR
    by_cases hn8 : 8 < n
    · clear h8
      go_enter Try.func19, Try.ntmps19
      go_wp2
      go_ret
      exact ⟨by rw [hv.out]; rfl, hb0⟩
    · have h8' : 8 < m := by omega
      clear h8
      go_enter Try.func19, Try.ntmps19
      go_wp2
      go_ret
      exact ⟨by rw [hv.out]; rfl, hb0⟩
  · have hn8 : ¬ 8 < n := by omega
    have hm8 : ¬ 8 < m := by omega
    by_cases hnm : n = m
    · subst hnm
      have hv0 := Lib.hid (wchk_eq (l := l) (r := r) (by rw [hL.1, hR.1]; exact h8) (by rw [hL.1, hR.1]; simp))
      rw [hL.1] at hv0
      have hnn : ((n : Int) != (n : Int)) = false := by simp
      obtain ⟨W, hW⟩ : ∃ W, W = (w.alloc (.cells #[.slice A n c, .slice B n d] 24)).alloc (.cells #[.slice A n c, .slice B n d] 22) := ⟨_, rfl⟩
      have hbW : Below w.heap.size w W := by rw [hW]; exact hb0.alloc (by simp) _
      have g0 : W.cell? ⟨w.heap.size, 0, none⟩ = some (.slice A n c) := by rw [hW]; go_simp
      have g1 : W.cell? ⟨w.heap.size + 1, 0, none⟩ = some (.slice A n c) := by rw [hW]; go_simp
      have g2 : W.cell? ⟨w.heap.size + 1, 1, none⟩ = some (.slice B n d) := by rw [hW]; go_simp
      have hLH := Lib.hid (hL.later hbW); have hRH := Lib.hid (hR.later hbW)
      have hWH := Lib.hid hW
      clear hL hR h8 hb0 hW
      go_enter Try.func19, Try.ntmps19
      go_wp2
      rw [← hWH.out]
      clear hWH
      go_loop [32] (fun i => ∃ k : Nat, k ≤ 2 ∧ i = .int .i64 k ∧ (0 < k → l.any (badR n) = false) ∧ (1 < k → r.any (badR n) = false)) (fun i => 2 - (intOf i).toNat)
      case atStart => exact ⟨0, Nat.zero_le _, rfl, fun h => absurd h (by omega), fun h => absurd h (by omega)⟩
      case round =>
        obtain ⟨k, hk, rfl, hk1, hk2⟩ := hrel
        by_cases hlt : k < 2
        · obtain ⟨As, cs, ls, hcs, hls, hgo, hno⟩ : ∃ (As : Option Addr) (cs : Nat) (ls : List Rw), W.cell? ⟨w.heap.size + 1, k, none⟩ = some (.slice As n cs) ∧ RdR W As n ls ∧ (ls.any (badR n) = false → (0 < k + 1 → l.any (badR n) = false) ∧ (1 < k + 1 → r.any (badR n) = false)) ∧ (ls.any (badR n) = true → wchk l r = 2) := by
            rcases Nat.lt_or_ge k 1 with h | h
            · obtain rfl : k = 0 := by omega
              exact ⟨A, c, l, g1, hLH.out, fun h => ⟨fun _ => h, fun h' => absurd h' (by omega)⟩, fun h => by rw [hv0.out, h]; rfl⟩
            · obtain rfl : k = 1 := by omega
              exact ⟨B, d, r, g2, hRH.out, fun h => ⟨fun _ => hk1 (by omega), fun _ => h⟩, fun h => by rw [hv0.out, h]; simp⟩
          have hgoH := Lib.hid hgo; have hnoH := Lib.hid hno
          have hlsH := Lib.hid hls; have hlsl := Lib.hid hls.1
          have hk0 : (0 : Int) ≤ k := by omega
          have hk2' : (k : Int) < 2 := by omega
          clear hk1 hk2 hgo hno hls g1 g2
          go_wp2
          go_loop [38] (fun i => ∃ m : Nat, m ≤ n ∧ i = .int .i64 m ∧ (ls.take m).any (badR n) = false) (fun i => n - (intOf i).toNat)
          case atStart => exact ⟨0, Nat.zero_le _, rfl, rfl⟩
          case round =>
            clear hcs
            obtain ⟨m, hm, rfl, hj⟩ := hrel
            have hjH := Lib.hid hj
            clear hj
            by_cases hlt2 : m < n
            · obtain ⟨b, o, rfl, hab, hc0, hfit⟩ := hlsH.out.at hlt2
              have hstep := Lib.hid (anyR_take (p := badR n) (l := ls) (k := m) (by rw [hlsl.out]; exact hlt2) hjH.out)
              have hstop := Lib.hid (anyR_at (p := badR n) (l := ls) (k := m) (by rw [hlsl.out]; exact hlt2))
              generalize rat ls m = a at *
              obtain ⟨A', l', c', zs⟩ := a
              have hfH := Lib.hid hfit.1
              have hzl := Lib.hid (show zs.length = l' from hfit.zl)
              have hl' := hfit.2.1
              have hlc := hfit.2.2
              unfold maxLen at hl'
              clear hfit
              simp only at hl' hlc
              go_wp2
              go_loop [44] (fun i => ∃ p : Nat, p ≤ l' ∧ i = .int .i64 p ∧ ∀ q, q < p → okAt n zs q = true) (fun i => l' - (intOf i).toNat)
              case atStart => exact ⟨0, Nat.zero_le _, rfl, fun q hq => absurd hq (by omega)⟩
              case round =>
                clear hc0
                obtain ⟨p, hp, rfl, hok⟩ := hrel
                by_cases hlt3 : p < l'
                · have HH := Lib.hid (fun Wx (h : W = Wx) => has_any (zs.getD p 0) A' p c' (zs.take p) Wx (h ▸ hfH.out.part hp) (by omega))
                  obtain ⟨b2, o2, rfl, hab2, hc2⟩ := hfH.out.int hlt3
                  have hml : p < zs.length := by have := hzl.out; omega
                  have hoka := Lib.hid (show okAt n zs p = (decide (0 ≤ zs.getD p 0) && decide (zs.getD p 0 < n) && !hasB (zs.take p) (zs.getD p 0)) from rfl)
                  have hnx : okAt n zs p = true → ∀ q, q < p + 1 → okAt n zs q = true := fun h q hq => by
                    by_cases hqm : q = p
                    · subst hqm; exact h
                    · exact hok q (by omega)
                  have hnx := Lib.hid hnx
                  have hbad : okAt n zs p = false → wchk l r = 2 := fun h => hnoH.out (hstop.out (badR_yes hml h))
                  have hbad := Lib.hid hbad
                  have hp0 : (0 : Int) ≤ p := by omega
                  have hpc : (p : Int) ≤ c' := by omega
                  clear hok hstop hstep
                  generalize zs.getD p 0 = z at *
                  by_cases h0 : z < 0
                  · have hres := Lib.hid (hbad.out (by rw [hoka.out]; simp; omega))
                    clear hnx hbad HH
                    go_wp2
                    go_ret
                    exact ⟨by rw [hres.out]; rfl, hbW⟩
                  · by_cases h1 : (n : Int) ≤ z
                    · have hres := Lib.hid (hbad.out (by rw [hoka.out]; simp; omega))
                      clear hnx hbad HH
                      go_wp2
                      go_ret
                      exact ⟨by rw [hres.out]; rfl, hbW⟩
                    · cases hh : hasB (zs.take p) z
                      · rw [hh] at HH
                        have hres := Lib.hid (hnx.out (by rw [hoka.out, hh]; simp; omega))
                        clear hnx hbad hh
                        go_wp2_with fail
                        refine (HH.out _ rfl).mono ?_
                        rintro e w3 ⟨rfl, rfl⟩
                        go_wp2
                        go_round
                        case rel => exact ⟨p + 1, by omega, by go_num, hres.out⟩
                        case measure => simp [intOf]; omega
                      · rw [hh] at HH
                        have hres := Lib.hid (hbad.out (by rw [hoka.out, hh]; simp))
                        clear hnx hbad hh
                        go_wp2_with fail
                        refine (HH.out _ rfl).mono ?_
                        rintro e w3 ⟨rfl, rfl⟩
                        go_wp2
                        go_ret
                        exact ⟨by rw [hres.out]; rfl, hbW⟩
                · have hs := Lib.hid (hstep.out (badR_no fun q hq => hok q (by have := hzl.out; simp only at hq; omega)))
                  clear hstep hstop hok
                  go_wp2
                  go_round
                  case rel => exact ⟨m + 1, by omega, by go_num, hs.out⟩
                  case measure => simp [intOf]; omega
            · have hnone := Lib.hid (hgoH.out (by have := hjH.out; rwa [List.take_of_length_le (by rw [hlsl.out]; omega)] at this))
              go_wp2
              go_round
              case rel => exact ⟨k + 1, by omega, by go_num, hnone.out.1, hnone.out.2⟩
              case measure => simp [intOf]; omega
        · have hv := Lib.hid (show wchk l r = 0 by rw [hv0.out, hk1 (by omega), hk2 (by omega)]; rfl)
          clear hk1 hk2
          go_wp2
          go_ret
          exact ⟨by rw [hv.out]; rfl, hbW⟩
    · have hv := Lib.hid (wchk_ne (l := l) (r := r) (by rw [hL.1, hR.1]; exact h8) (by rw [hL.1, hR.1]; exact hnm))
      have hnn : ((n : Int) != (m : Int)) = true := by simp; omega
      clear hL hR hnm h8
      go_enter Try.func19, Try.ntmps19
      go_wp2
      all_goals
        go_ret
        exact ⟨by rw [hv.out]; rfl, hb0⟩
end Go.Proofs.Ytcmefjfhcdedjaa
