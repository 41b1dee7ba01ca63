/- teamsterref.sum, Free. -/
import Derived.Test.YtglbabcefanooaaLotsChk
import Derived.Test.YtglbabcefanooaaMeetLaw
namespace Go.Proofs.Ytglbabcefanooaa
open Go.RowKit

theorem sumW_lt {ws : List Nat} (h : ∀ i, ws.getD i 0 < 1024) (s : Nat) : ∀ k, sumW ws s k < 1024
  | 0 => by simp [sumW]
  | k + 1 => by
    rw [sumW]
    split
    · exact xor_lt (sumW_lt h s k) (h k)
    · exact sumW_lt h s k
set_option maxHeartbeats 400000 in
theorem sum_any (A : Option Addr) (len cap : Nat) (ns : List Nat) (x : Nat) (w : World) (hr : Rd w A len 1 (wds ns)) (hok : LOk ns) (hx : x < 1024) :
    Calls Try.prog 18 #[.slice A len cap, .int .u32 (x : Nat)] w fun e w' => e = .returned (.int .u32 (sumW ns x len : Nat)) ∧ w = w' := by
  have hel : ns.length = len := by simpa [wds] using hr.1
  have hlen : len ≤ 10 := by rw [← hel]; exact hok.1
  have hat := Lib.hid hok.at
  have hrH := Lib.hid hr
  have hB := Lib.hid fun i (hi : i < 32) => bit_any x i w (by omega) hi
  clear hr hok
  go_enter Try.func18, Try.ntmps18
  go_wp2
  go_loop [5, 6, 7, 10] (fun s _ _ i => ∃ k : Nat, k ≤ len ∧ i = .int .i64 k ∧ s = .int .u32 (sumW ns x k : Nat)) (fun _ _ _ i => len - (intOf i).toNat)
  case atStart => exact ⟨0, Nat.zero_le _, rfl, rfl⟩
  case round =>
    obtain ⟨k, hk, rfl, rfl⟩ := hrel
    by_cases hlt : k < len
    · obtain ⟨b, o, rfl, hab, hc⟩ := hrH.out.wd hlt
      have hb := Lib.hid (hB.out k (by omega))
      have hn := Lib.hid (show sumW ns x (k + 1) = if x.testBit k then sumW ns x k ^^^ ns.getD k 0 else sumW ns x k from rfl)
      have h1 := sumW_lt hat.out x k
      have h2 := hat.out k
      have hxo := u32_xor_nat (sumW ns x k) (ns.getD k 0) (by omega) (by omega)
      generalize ns.getD k 0 = z at *
      generalize sumW ns x k = s at *
      have hlt' : (k : Int) < len := by omega
      go_wp2_with fail
      refine hb.out.mono ?_
      rintro e w' ⟨rfl, rfl⟩
      cases hq : x.testBit k
      · rw [hq] at hn
        clear hq
        go_wp2
        go_round
        case rel => exact ⟨k + 1, by omega, by go_num, by rw [hn.out]; rfl⟩
        case measure => simp [intOf]; omega
      · rw [hq] at hn
        clear hq
        go_wp2
        go_round
        case rel => exact ⟨k + 1, by omega, by go_num, by rw [hn.out]; rfl⟩
        case measure => simp [intOf]; omega
    · obtain rfl : k = len := by omega
      go_wp2
      go_ret
      exact ⟨rfl, rfl⟩
theorem sub_iff {n t x : Nat} (hx : x < 2 ^ n) : (∀ i, t.testBit i = true → i < n ∧ x.testBit i = true) ↔ t &&& x = t := by
  constructor
  · intro h
    refine Nat.eq_of_testBit_eq fun i => ?_
    rw [Nat.testBit_and]
    cases hb : t.testBit i
    · rfl
    · rw [(h i hb).2]; rfl
  · intro h i hi
    rw [← h, Nat.testBit_and, Bool.and_eq_true] at hi
    refine ⟨Nat.lt_of_not_le fun hle => ?_, hi.2⟩
    have := Nat.testBit_lt_two_pow (Nat.lt_of_lt_of_le hx (Nat.pow_le_pow_right (by omega) hle))
    rw [hi.2] at this; cases this
theorem popc_ten {n x : Nat} (hn : n ≤ 10) (hx : x < 2 ^ n) : popc 10 x = popc n x := by
  have := popc_more hx (10 - n)
  rwa [show n + (10 - n) = 10 by omega] at this
theorem free_iff {ns : List Nat} {n x : Nat} (hn : n ≤ 10) (hx : x < 2 ^ n) : rkS ns n x = popc 10 x ↔ ∀ t, 0 < t → t &&& x = t → sumW ns t n ≠ 0 := by
  rw [popc_ten hn hx, ← indep_rk]
  exact ⟨fun h t h0 ht => h t (by omega) ((sub_iff hx).2 ht), fun h t h0 ht => h t (by omega) ((sub_iff hx).1 ht)⟩
set_option maxHeartbeats 400000 in
theorem free_any (A : Option Addr) (len cap : Nat) (ns : List Nat) (x : Nat) (w : World) (hr : Rd w A len 1 (wds ns)) (hok : LOk ns) (hx : x < 2 ^ len) :
    Calls Try.prog 8 #[.slice A len cap, .int .u32 (x : Nat)] w fun e w' => e = .returned (.bool (rkS ns len x == popc 10 x)) ∧ w = w' := by
  have hel : ns.length = len := by simpa [wds] using hr.1
  have hlen : len ≤ 10 := by rw [← hel]; exact hok.1
  have hp : 2 ^ len ≤ 2 ^ 10 := Nat.pow_le_pow_right (by omega) hlen
  have HS := Lib.hid fun s (hs : s < 1024) => sum_any A len cap ns s w hr hok hs
  have hF := Lib.hid (free_iff (ns := ns) hlen hx)
  have hpr := Lib.hid (fun t s => sub_pred len t s x hx)
  clear hr hok
  have hx10 : x < 1024 := by omega
  clear hx hp
  go_enter Try.func8, Try.ntmps8
  go_wp2
  go_loop [5] (fun i => ∃ s : Nat, i = .int .u32 s ∧ s &&& x = s ∧ s < 1024 ∧ ∀ t, s < t → t &&& x = t → sumW ns t len ≠ 0) (fun i => (intOf i).toNat)
  case atStart => exact ⟨x, rfl, Nat.and_self x, hx10, fun t h1 h2 => absurd (Nat.and_le_right (n := t) (m := x)) (by omega)⟩
  case round =>
    obtain ⟨s, rfl, hsx, hs10, hall⟩ := hrel
    have hallH := Lib.hid hall; have hsxH := Lib.hid hsx
    clear hall hsx
    by_cases h0 : s = 0
    · subst h0
      have hv : (rkS ns len x == popc 10 x) = true := by
        rw [beq_iff_eq, hF.out]
        exact fun t h1 h2 => hallH.out t h1 h2
      have hvH := Lib.hid hv
      clear hv
      go_wp2
      go_ret
      exact ⟨by rw [hvH.out]; rfl, rfl⟩
    · have hsp : (0 : Int) < s := by omega
      have HS1 := Lib.hid (HS.out s hs10)
      by_cases hz : sumW ns s len = 0
      · have hv : (rkS ns len x == popc 10 x) = false := by
          cases hq : (rkS ns len x == popc 10 x)
          · rfl
          · exact absurd hz ((hF.out.1 (by simpa using hq)) s (by omega) hsxH.out)
        have hvH := Lib.hid hv
        rw [hz] at HS1
        clear hv hz
        go_wp2_with fail
        refine HS1.out.mono ?_
        rintro e w' ⟨rfl, rfl⟩
        go_wp2
        go_ret
        exact ⟨by rw [hvH.out]; rfl, rfl⟩
      · have hzi : ((sumW ns s len : Int) == 0) = false := by simp; omega
        have hzH := Lib.hid hz
        have hw1 : IntKind.u32.wrap ((s : Int) - 1) = ((s - 1 : Nat) : Int) := by rw [IntWalk.u32_in _ (by omega)]; omega
        have hand := u32_and_nat (s - 1) x (by omega) (by omega)
        have hnx := Lib.hid (show ∀ t, (s - 1) &&& x < t → t &&& x = t → sumW ns t len ≠ 0 from fun t h1 h2 => by
          rcases Nat.lt_trichotomy t s with h | h | h
          · have := hpr.out t s h2 hsxH.out h; omega
          · rw [h]; exact hzH.out
          · exact hallH.out t h h2)
        have hle : (s - 1) &&& x ≤ s - 1 := Nat.and_le_left
        have hid2 : ((s - 1) &&& x) &&& x = (s - 1) &&& x := by rw [Nat.and_assoc, Nat.and_self]
        have hidH := Lib.hid hid2
        generalize sumW ns s len = S at *
        generalize (s - 1) &&& x = s' at *
        clear hid2 hz
        go_wp2_with fail
        refine HS1.out.mono ?_
        rintro e w' ⟨rfl, rfl⟩
        go_wp2
        go_round
        case rel => exact ⟨s', rfl, hidH.out, by omega, hnx.out⟩
        case measure => simp [intOf]; omega
end Go.Proofs.Ytglbabcefanooaa
