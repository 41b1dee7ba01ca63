/- teamsterref.BeatsCheck, players: the walks (XTourW for seats without beats.Check). -/
import Derived.Test.YtnlgmjigadgneaaTour
namespace Go.Proofs.Ytnlgmjigadgneaa
open Go.RowKit

theorem full_andNot (n i : Nat) (hn : n ≤ 8) (hi : i < n) : bits .andNot .u32 (((2 ^ n - 1 : Nat)) : Int) ((2 ^ i : Nat) : Int) = ((2 ^ n - 1 - 2 ^ i : Nat) : Int) := by
  have h1 : 2 ^ n ≤ 2 ^ 8 := Nat.pow_le_pow_right (by omega) hn
  have h2 : 2 ^ i < 2 ^ n := Nat.pow_lt_pow_right (by omega) hi
  rw [u32_andNot_nat _ _ (by omega) (by omega)]
  congr 1
  apply Nat.eq_of_testBit_eq
  intro m
  rw [Nat.testBit_and, Nat.testBit_two_pow_sub_one, show 4294967295 - 2 ^ i = 2 ^ 32 - (2 ^ i + 1) by omega, Nat.testBit_two_pow_sub_succ (by omega), Nat.testBit_two_pow,
    show 2 ^ n - 1 - 2 ^ i = 2 ^ n - (2 ^ i + 1) by omega, Nat.testBit_two_pow_sub_succ h2, Nat.testBit_two_pow]
  by_cases hm : m < n
  · simp [hm, show m < 32 by omega]
  · simp [hm]
theorem shr_bit (x i : Nat) (hx : x < 4294967296) : bits .and .u32 ((x : Int) / (2 : Int) ^ i) 1 = ((if x.testBit i then 1 else 0 : Nat) : Int) := by
  rw [show ((x : Int) / (2 : Int) ^ i) = ((x / 2 ^ i : Nat) : Int) by simp, show (1 : Int) = ((1 : Nat) : Int) from rfl, u32_and_nat _ _ (Nat.lt_of_le_of_lt (Nat.div_le_self _ _) hx) (by omega)]
  congr 1
  rw [Nat.and_one_is_mod, Nat.testBit_eq_decide_div_mod_eq]
  have := Nat.mod_two_eq_zero_or_one (x / 2 ^ i)
  rcases this with h | h <;> simp [h]
theorem tour_self {ts : List Nat} {i : Nat} (hi : i < ts.length) (h : (ts.getD i 0).testBit i = true) : ¬ Tour ts := fun ht => by have := ht.self i hi; rw [h] at this; cases this
theorem tour_one {ts : List Nat} {i j : Nat} (hi : i < ts.length) (hj : j < ts.length) (hij : i ≠ j) (h : (ts.getD i 0).testBit j = (ts.getD j 0).testBit i) : ¬ Tour ts := fun ht => by
  have := ht.one i j hi hj hij
  rw [h] at this
  cases hb : (ts.getD j 0).testBit i <;> rw [hb] at this <;> cases this
def okTo (ts : List Nat) (i k : Nat) : Prop := ∀ j, j < k → if i = j then (ts.getD i 0).testBit i = false else (ts.getD i 0).testBit j = !(ts.getD j 0).testBit i
set_option maxHeartbeats 1600000 in
set_option maxRecDepth 100000 in
theorem beatsCheck_any (A : Option Addr) (len cap : Nat) (ts : List Nat) (w : World) (hr : Rd w A len 1 (wds ts)) (hl : len ≤ 9223372036854775807) (hwf : ∀ x ∈ ts, x < 4294967296) :
    Calls Try.prog 10 #[.slice A len cap] w fun e w' => (∃ c : Int, e = .returned (.int .i64 c) ∧ (c = 0 ↔ Tour ts)) ∧ Below w.heap.size w w' := by
  have hel : ts.length = len := by simpa [wds] using hr.1
  have helH := Lib.hid hel; have hrH := Lib.hid hr; have hwfH := Lib.hid hwf
  clear hel hr hwf
  by_cases h8 : len ≤ 8
  · have h8i : (len : Int) ≤ 8 := by omega
    have hpH := Lib.hid (show 2 ^ len ≤ 2 ^ 8 from Nat.pow_le_pow_right (by omega) h8)
    have hone := two_pow_u32 len (by omega)
    obtain ⟨P, hP⟩ : ∃ P : Nat, P = 2 ^ len := ⟨_, rfl⟩
    rw [← hP] at hone
    have hPH := Lib.hid hP
    have hP8 : P ≤ 256 := by rw [hP]; exact hpH.out
    clear hP
    go_enter Try.func10, Try.ntmps10
    go_wp2
    go_loopw [4, 12] (fun _ i wr => ∃ k : Nat, k ≤ len ∧ i = .int .i64 k ∧ (∀ m, m < k → ts.getD m 0 < 2 ^ len) ∧ Below w.heap.size w wr) (fun _ i _ => len - (intOf i).toNat)
    case atStart => exact ⟨0, Nat.zero_le _, rfl, fun m hm => absurd hm (by omega), Below.refl _ _⟩
    case round =>
      obtain ⟨k, hk, rfl, hall, hb⟩ := hrel
      have hallH := Lib.hid hall
      clear hall
      by_cases hlt : k < len
      · obtain ⟨b, o, rfl, hab, hc⟩ := (hrH.out.later hb).wd hlt
        have hx := hwfH.out (ts.getD k 0) (by simp [List.getD, show k < ts.length by rw [helH.out]; exact hlt])
        have hbad := Lib.hid (fun h : Tour ts => h.lt k (by rw [helH.out]; exact hlt))
        have hnx := Lib.hid (fun (h : ts.getD k 0 < 2 ^ len) m (hm : m < k + 1) => show ts.getD m 0 < 2 ^ len by
          by_cases he : m = k
          · subst he; exact h
          · exact hallH.out m (by omega))
        rw [helH.out] at hbad
        rw [← hPH.out] at hbad hnx
        generalize ts.getD k 0 = x at *
        by_cases hxl : x < P
        · have hxi : (x : Int) < P := by omega
          have hxlH := Lib.hid hxl
          go_wp2
          go_roundw
          case rel => exact ⟨k + 1, by omega, by go_num, by rw [← hPH.out]; exact hnx.out hxlH.out, hb⟩
          case measure => simp [intOf]; omega
        · have hxi : (P : Int) ≤ x := by omega
          have hxlH := Lib.hid hxl
          go_wp2
          go_ret
          exact ⟨⟨2, rfl, by simp; exact fun h => hxlH.out (hbad.out h)⟩, hb⟩
      · obtain rfl : k = len := by omega
        have hlallH := Lib.hid hallH.out
        obtain ⟨wo, rfl⟩ : ∃ wo : World, wo = wr := ⟨_, rfl⟩
        go_wp2
        go_loopw [5, 6] (fun i _ wr => ∃ q : Nat, q ≤ k ∧ i = .int .i64 q ∧ (∀ m, m < q → okTo ts m k) ∧ Below w.heap.size w wr) (fun i _ _ => k - (intOf i).toNat)
        case atStart => exact ⟨0, Nat.zero_le _, rfl, fun m hm => absurd hm (by omega), hb⟩
        case round =>
          clear hb
          obtain ⟨q, hq, rfl, hok, hb⟩ := hrel
          have hokH := Lib.hid hok
          clear hok
          by_cases hlt2 : q < k
          · go_wp2
            go_loopw [6] (fun j wx => ∃ y : Nat, y ≤ k ∧ j = .int .i64 y ∧ okTo ts q y ∧ Below w.heap.size w wx) (fun j _ => k - (intOf j).toNat)
            case atStart => exact ⟨0, Nat.zero_le _, rfl, fun j hj => absurd hj (by omega), hb⟩
            case round =>
              clear hb
              obtain ⟨y, hy, rfl, hto, hb⟩ := hrel
              have htoH := Lib.hid hto
              clear hto
              by_cases hlt3 : y < k
              · obtain ⟨b, o, rfl, hab, hc⟩ := (hrH.out.later hb).wd hlt2
                obtain ⟨_, _, hA, _, hc2⟩ := (hrH.out.later hb).wd hlt3
                injection hA with hA
                injection hA with e1 e2 _
                subst e1 e2
                have hx := hlallH.out q hlt2
                have hz := hlallH.out y hlt3
                have h28 := hpH.out
                have C1 := Lib.hid (fun wq => bit_any (ts.getD q 0) y wq (by omega) (by omega))
                have C2 := Lib.hid (fun wq => bit_any (ts.getD y 0) q wq (by omega) (by omega))
                by_cases hqy : q = y
                · subst hqy
                  have hself := Lib.hid (tour_self (ts := ts) (i := q) (by rw [helH.out]; exact hlt2))
                  have hstep := Lib.hid (show (ts.getD q 0).testBit q = false → okTo ts q (q + 1) from fun h j hj => by
                    by_cases he : q = j
                    · rw [if_pos he]; exact h
                    · exact htoH.out j (by omega))
                  clear C2 h28 hx hz
                  generalize ts.getD q 0 = x at hc hc2 C1 hself hstep
                  cases hbq : x.testBit q
                  · rw [hbq] at C1
                    have hs := Lib.hid (hstep.out hbq)
                    clear hbq hstep hself
                    go_wp2
                    go_quiet ((go_at_call 6; with_reducible exact quiet_left (C1.out _)))
                    go_wp2
                    go_roundw
                    case rel => exact ⟨q + 1, by omega, by go_num, hs.out, below_drewN hb nq⟩
                    case measure => simp [intOf]; omega
                  · rw [hbq] at C1
                    have hs := Lib.hid (hself.out hbq)
                    clear hbq hstep hself
                    go_wp2
                    go_quiet ((go_at_call 6; with_reducible exact quiet_left (C1.out _)))
                    go_wp2
                    go_ret
                    exact ⟨⟨3, rfl, by simp; exact hs.out⟩, below_drewN hb nq⟩
                · have hone2 := Lib.hid (tour_one (ts := ts) (i := q) (j := y) (by rw [helH.out]; exact hlt2) (by rw [helH.out]; exact hlt3) hqy)
                  have hstep := Lib.hid (show (ts.getD q 0).testBit y = !(ts.getD y 0).testBit q → okTo ts q (y + 1) from fun h j hj => by
                    by_cases he : j = y
                    · subst he; rw [if_neg hqy]; exact h
                    · exact htoH.out j (by omega))
                  have hqe : ((q : Int) == (y : Int)) = false := by simp; omega
                  have hqn : ((q : Int) != (y : Int)) = true := by simp; omega
                  clear h28 hx hz
                  generalize ts.getD q 0 = x at hc C1 hone2 hstep
                  generalize ts.getD y 0 = z at hc2 C2 hone2 hstep
                  by_cases he : x.testBit y = z.testBit q
                  · have hs := Lib.hid (hone2.out he)
                    rw [he] at C1
                    clear he hone2 hstep
                    generalize z.testBit q = bb at C1 C2
                    have hbb : (bb == bb) = true := by simp
                    go_wp2
                    go_quiet ((go_at_call 6; first | (with_reducible exact quiet_left (C1.out _)) | (with_reducible exact quiet_left (C2.out _))))
                    go_wp2
                    go_ret
                    exact ⟨⟨3, rfl, by simp; exact hs.out⟩, below_drewN hb nq⟩
                  · have he' : x.testBit y = !z.testBit q := by cases h1 : x.testBit y <;> cases h2 : z.testBit q <;> simp_all
                    have hs := Lib.hid (hstep.out he')
                    rw [he'] at C1
                    clear he he' hone2 hstep
                    generalize z.testBit q = bb at C1 C2
                    have hbb : ((!bb) == bb) = false := by cases bb <;> rfl
                    go_wp2
                    go_quiet ((go_at_call 6; first | (with_reducible exact quiet_left (C1.out _)) | (with_reducible exact quiet_left (C2.out _))))
                    go_wp2
                    go_roundw
                    case rel => exact ⟨y + 1, by omega, by go_num, hs.out, below_drewN hb nq⟩
                    case measure => simp [intOf]; omega
              · obtain rfl : y = k := by omega
                go_wp2
                go_roundw
                case rel => exact ⟨q + 1, by omega, by go_num, fun m hm => by
                  by_cases he : m = q
                  · subst he; exact htoH.out
                  · exact hokH.out m (by omega), hb⟩
                case measure => simp [intOf]; omega
          · obtain rfl : q = k := by omega
            have hT : Tour ts := ⟨by rw [helH.out]; exact h8, fun i hi => by rw [helH.out] at hi ⊢; exact hlallH.out i hi, fun i hi => by
              rw [helH.out] at hi
              have := hokH.out i hi i hi
              rwa [if_pos rfl] at this, fun i j hi hj hij => by
              rw [helH.out] at hi hj
              have := hokH.out i hi j hj
              rwa [if_neg hij] at this⟩
            have hTH := Lib.hid hT
            clear hT
            go_wp2
            go_ret
            exact ⟨⟨0, rfl, by simp; exact hTH.out⟩, hb⟩
  · have h8i : (8 : Int) < len := by omega
    go_enter Try.func10, Try.ntmps10
    go_wp2
    go_ret
    exact ⟨⟨1, rfl, by simp; exact fun h => h8 (by have := h.len; rw [helH.out] at this; exact this)⟩, Below.refl _ _⟩
open Classical in
theorem players_any (A : Option Addr) (len cap : Nat) (ts : List Nat) (w : World) (hr : Rd w A len 1 (wds ts)) (hl : len ≤ 9223372036854775807) (hwf : ∀ x ∈ ts, x < 4294967296) :
    Calls Try.prog 7 #[.slice A len cap] w fun e w' => e = .returned (.bool (decide (Tour ts))) ∧ Below w.heap.size w w' := by
  have HB := Lib.hid (beatsCheck_any A len cap ts w hr hl hwf)
  clear hr hwf
  go_enter Try.func7, Try.ntmps7
  go_wp2_with fail
  refine HB.out.mono ?_
  rintro e w1 ⟨⟨c, rfl, hc⟩, hb⟩
  have hcH : (c == 0) = decide (Tour ts) := by
    by_cases h : c = 0
    · rw [decide_eq_true (hc.1 h)]; simp [h]
    · rw [decide_eq_false (fun ht => h (hc.2 ht))]; simp [h]
  clear hc
  go_wp2
  go_ret
  exact ⟨rfl, hb⟩
end Go.Proofs.Ytnlgmjigadgneaa
