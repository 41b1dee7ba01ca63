/- BeatsLandau: the walk. -/
import Derived.Test.YtnlgmjigadgneaaMakeW
import Derived.Test.YtnlgmjigadgneaaTourR
namespace Go.Proofs.Ytnlgmjigadgneaa
open Go.RowKit

def allK (n : Nat) (sc : List Int) (q : Nat) : Bool := (List.range q).all fun k => inr n (sc.getD k 0)
theorem allK_succ (n : Nat) (sc : List Int) (q : Nat) : allK n sc (q + 1) = (allK n sc q && inr n (sc.getD q 0)) := by unfold allK; rw [List.range_succ, List.all_append]; simp
theorem tri_eq (k : Nat) (hk : k ≤ 10) : wrap64 ((wrap64 ((k : Int) * ((k : Int) - 1))).tdiv 2) = (k : Int) * ((k : Int) - 1) / 2 := by
  have : ∀ k : Fin 11, wrap64 ((wrap64 ((k.val : Int) * ((k.val : Int) - 1))).tdiv 2) = (k.val : Int) * ((k.val : Int) - 1) / 2 := by decide +kernel
  exact this ⟨k, by omega⟩
theorem sumR_bd {n : Nat} (sc : List Int) (s : Nat) : ∀ k, 0 ≤ sumR n sc s k ∧ sumR n sc s k ≤ k * n
  | 0 => by simp [sumR]
  | k + 1 => by
    have := sumR_bd (n := n) sc s k
    rw [sumR]
    split
    · rename_i h
      rw [Bool.and_eq_true] at h
      have h := h.1
      unfold inr at h
      simp at h
      have e : ((k + 1 : Nat) : Int) * n = k * n + n := by rw [Int.natCast_add, Int.add_mul]; simp
      have h1 : 0 ≤ sc.getD k 0 := h.1
      have h2 : sc.getD k 0 ≤ n := h.2
      rw [e]; omega
    · have e : ((k + 1 : Nat) : Int) * n = k * n + n := by rw [Int.natCast_add, Int.add_mul]; simp
      rw [e]; omega
set_option maxHeartbeats 3200000 in
set_option maxRecDepth 100000 in
theorem landau_ok (A : Option Addr) (n cap : Nat) (sc : List Int) (w : World) (hr : Rd w A n 1 (ints .i64 sc)) (h6 : n ≤ 6) :
    Calls Try.prog 3 #[.slice A n cap] w fun e w' => e = .returned (.bool true) ∧ Below w.heap.size w w' := by
  have hM := Lib.hid (make_ok A n cap sc w hr h6)
  have hL := Lib.hid (landau_ts h6 (sc := sc))
  have hrH := Lib.hid hr
  have hp64 : 2 ^ n ≤ 2 ^ 6 := Nat.pow_le_pow_right (by omega) h6
  obtain ⟨Q, hQ⟩ : ∃ Q : Nat, Q = 2 ^ n := ⟨_, rfl⟩
  have hQone : (2 : Int) ^ n % 4294967296 = (Q : Int) := by rw [two_pow_u32 n (by omega), hQ]
  rw [← hQ] at hp64 hL
  have hQH := Lib.hid hQ
  have h6I : decide ((6 : Int) < n) = false := decide_eq_false (by omega)
  clear hr hQ
  go_enter Try.func3, Try.ntmps3
  go_wp2_with fail
  refine hM.out.mono ?_
  rintro _ w1 ⟨hb1, hcase⟩
  have hb1H := Lib.hid hb1
  have hr1H := Lib.hid (hrH.out.later hb1)
  obtain ⟨tv, z, hev, hz⟩ : ∃ (tv : Value) (z : Int), (‹Ending› : Ending) = .returned (.tuple #[tv, .int .i64 z]) ∧ ((z = 0 ∧ ∃ T : List Nat, tv = .slice (some ⟨w.heap.size + 2, 0, none⟩) n n ∧ Rd w1 (some ⟨w.heap.size + 2, 0, none⟩) n 1 (wds T) ∧ T.length = n ∧ TS n sc n T) ∨ (z = 5 ∧ tv = .slice none 0 0 ∧ ¬ ∃ T : List Nat, TS n sc n T)) := by
    rcases hcase with ⟨T, h1, h2, h3, h4⟩ | ⟨h1, h2⟩
    · exact ⟨_, 0, h1, .inl ⟨rfl, T, rfl, h2, h3, h4⟩⟩
    · exact ⟨_, 5, h1, .inr ⟨rfl, rfl, h2⟩⟩
  subst hev
  have hzH := Lib.hid hz
  clear hcase hb1 hz hM
  go_wp2
  go_loopw [6, 7, 8, 9, 10, 11] (fun m s _ _ _ _ wr => ∃ k : Nat, k ≤ Q ∧ s = .int .u32 (k : Int) ∧ m = .bool (mayK n sc k) ∧ w1 = wr) (fun _ s _ _ _ _ _ => Q - (intOf s).toNat)
  case atStart => exact ⟨0, Nat.zero_le _, rfl, rfl, rfl⟩
  case round =>
    obtain ⟨s, hs, rfl, rfl, rfl⟩ := hrel
    by_cases hlt : s < Q
    · have HS := Lib.hid (size_any s w1 (by omega))
      obtain ⟨pc, hpc⟩ : ∃ pc, popc 10 s = pc := ⟨_, rfl⟩
      have hstep := Lib.hid (show mayK n sc (s + 1) = ((mayK n sc s && allK n sc n) && goodS n sc s) from rfl)
      have hgood := Lib.hid (show goodS n sc s = (decide ((pc : Int) * ((pc : Int) - 1) / 2 ≤ sumR n sc s n) && (decide (pc < n) || (sumR n sc s n == (pc : Int) * ((pc : Int) - 1) / 2))) by unfold goodS; rw [hpc])
      rw [hpc] at HS
      have hpl : pc ≤ 10 := by rw [← hpc]; exact popc_le 10 s
      have hltI : (s : Int) < Q := by omega
      obtain ⟨mb, hmb⟩ : ∃ mb, mayK n sc s = mb := ⟨_, rfl⟩
      rw [hmb]
      rw [hmb] at hstep
      clear hpc hmb
      go_wp2_with fail
      refine HS.out.mono ?_
      rintro _ _ ⟨rfl, rfl⟩
      go_wp2
      go_loopw [6, 8, 10, 11, 36] (fun m sm _ _ q wr => ∃ k : Nat, k ≤ n ∧ q = .int .i64 k ∧ m = .bool (mb && allK n sc k) ∧ sm = .int .i64 (sumR n sc s k) ∧ w1 = wr) (fun _ _ _ _ q _ => n - (intOf q).toNat)
      case atStart => exact ⟨0, Nat.zero_le _, rfl, by rw [show allK n sc 0 = true from rfl, Bool.and_true], rfl, rfl⟩
      case round =>
        obtain ⟨q, hq, rfl, rfl, rfl, rfl⟩ := hrel
        have hbd := sumR_bd (n := n) sc s q
        have hqn : (q : Int) * n ≤ 6 * 6 := Int.mul_le_mul (by omega) (by omega) (by omega) (by omega)
        by_cases hqlt : q < n
        · obtain ⟨b, o, rfl, hab, hc⟩ := hr1H.out.int hqlt
          have hsu := Lib.hid (show sumR n sc s (q + 1) = sumR n sc s q + if inr n (sc.getD q 0) && s.testBit q then sc.getD q 0 else 0 from rfl)
          have hau := Lib.hid (allK_succ n sc q)
          obtain ⟨x, hx⟩ : ∃ x, sc.getD q 0 = x := ⟨_, rfl⟩
          have HB := Lib.hid (bit_any s q w1 (by omega) (by omega))
          rw [hx] at hc hsu hau
          generalize sumR n sc s q = sm at *
          generalize allK n sc q = ak at *
          have hqlI : (q : Int) < n := by omega
          clear hx
          by_cases h0 : x < 0
          · have d0 : decide (x < 0) = true := decide_eq_true h0
            have hin : inr n x = false := by unfold inr; rw [d0]; rfl
            rw [hin] at hsu hau
            have hsu2 := Lib.hid (show sumR n sc s (q + 1) = sm by rw [hsu.out]; simp)
            have hau2 := Lib.hid (show allK n sc (q + 1) = false by rw [hau.out]; simp)
            clear hin hsu hau
            go_wp2
            go_roundw
            case rel => exact ⟨q + 1, by omega, by go_num, by rw [hau2.out, Bool.and_false], by rw [hsu2.out], by first | rfl | trivial⟩
            case measure => simp [intOf]; omega
          · have d0 : decide (x < 0) = false := decide_eq_false h0
            by_cases h1 : (n : Int) < x
            · have d1 : decide ((n : Int) < x) = true := decide_eq_true h1
              have hin : inr n x = false := by unfold inr; rw [d1]; simp
              rw [hin] at hsu hau
              have hsu2 := Lib.hid (show sumR n sc s (q + 1) = sm by rw [hsu.out]; simp)
              have hau2 := Lib.hid (show allK n sc (q + 1) = false by rw [hau.out]; simp)
              clear hin hsu hau
              go_wp2
              go_roundw
              case rel => exact ⟨q + 1, by omega, by go_num, by rw [hau2.out, Bool.and_false], by rw [hsu2.out], by first | rfl | trivial⟩
              case measure => simp [intOf]; omega
            · have d1 : decide ((n : Int) < x) = false := decide_eq_false h1
              have hin : inr n x = true := by unfold inr; rw [d0, d1]; rfl
              rw [hin, Bool.true_and] at hsu
              rw [hin, Bool.and_true] at hau
              clear hin
              cases hbt : s.testBit q
              · rw [hbt] at hsu HB
                have hsu2 := Lib.hid (show sumR n sc s (q + 1) = sm by rw [hsu.out]; simp)
                clear hbt hsu
                go_wp2_with fail
                refine HB.out.mono ?_
                rintro _ _ ⟨rfl, rfl⟩
                go_wp2
                go_roundw
                case rel => exact ⟨q + 1, by omega, by go_num, by rw [hau.out], by rw [hsu2.out], by first | rfl | trivial⟩
                case measure => simp [intOf]; omega
              · rw [hbt] at hsu HB
                have hsu2 := Lib.hid (show sumR n sc s (q + 1) = sm + x by rw [hsu.out]; simp)
                clear hbt hsu
                go_wp2_with fail
                refine HB.out.mono ?_
                rintro _ _ ⟨rfl, rfl⟩
                go_wp2
                go_roundw
                case rel => exact ⟨q + 1, by omega, by go_num, by rw [hau.out], by rw [hsu2.out], by first | rfl | trivial⟩
                case measure => simp [intOf]; omega
        · obtain rfl : q = n := by omega
          generalize allK q sc q = ak at *
          generalize hg : goodS q sc s = gd at *
          generalize sumR q sc s q = sm at *
          clear hg
          have htri := tri_eq pc hpl
          generalize (pc : Int) * ((pc : Int) - 1) / 2 = hf at hgood htri
          obtain ⟨ma, hma⟩ : ∃ ma, (mb && ak) = ma := ⟨_, rfl⟩
          rw [hma] at hstep
          rw [hma]
          clear hma HS
          cases ma
          · go_wp2
            go_roundw
            case rel => exact ⟨s + 1, by omega, by go_num, by rw [hstep.out, Bool.false_and], by first | rfl | trivial⟩
            case measure => simp [intOf]; omega
          · cases hd1 : decide (hf ≤ sm)
            · rw [hd1] at hgood
              have hg2 := Lib.hid (show gd = false by rw [hgood.out]; rfl)
              clear hgood
              go_wp2
              go_roundw
              case rel => exact ⟨s + 1, by omega, by go_num, by rw [hstep.out, hg2.out]; rfl, by first | rfl | trivial⟩
              case measure => simp [intOf]; omega
            · rw [hd1, Bool.true_and] at hgood
              cases hd2 : decide (pc < q)
              · rw [hd2, Bool.false_or] at hgood
                cases hd3 : (sm == hf)
                · rw [hd3] at hgood
                  have hg2 := Lib.hid hgood.out
                  clear hgood
                  go_wp2
                  go_roundw
                  case rel => exact ⟨s + 1, by omega, by go_num, by rw [hstep.out, hg2.out]; rfl, by first | rfl | trivial⟩
                  case measure => simp [intOf]; omega
                · rw [hd3] at hgood
                  have hg2 := Lib.hid hgood.out
                  clear hgood
                  go_wp2
                  go_roundw
                  case rel => exact ⟨s + 1, by omega, by go_num, by rw [hstep.out, hg2.out]; rfl, by first | rfl | trivial⟩
                  case measure => simp [intOf]; omega
              · rw [hd2, Bool.true_or] at hgood
                have hg2 := Lib.hid hgood.out
                clear hgood
                go_wp2
                go_roundw
                case rel => exact ⟨s + 1, by omega, by go_num, by rw [hstep.out, hg2.out]; rfl, by first | rfl | trivial⟩
                case measure => simp [intOf]; omega
    · obtain rfl : s = Q := by omega
      have hltI : ¬ (s : Int) < s := by omega
      rcases hzH.out with ⟨rfl, T, rfl, hT, hTl, hTS⟩ | ⟨rfl, rfl, hno⟩
      · have hmay : mayK n sc s = true := hL.out.1 ⟨T, hTS⟩
        rw [hmay]
        clear hmay
        have hwf : ∀ x ∈ T, x < 4294967296 := fun x hx => by
          obtain ⟨i, hi, rfl⟩ := List.getElem_of_mem hx
          have := hTS.lt i (by omega)
          rw [← hQH.out, List.getD, List.getElem?_eq_getElem hi] at this
          simp at this
          omega
        have HP := players_any (some ⟨w.heap.size + 2, 0, none⟩) n n T w1 hT (by omega) hwf
        rw [@decide_eq_true _ (Classical.propDecidable _) (ts_tour hTl h6 hTS)] at HP
        have HPH := Lib.hid HP; have hTH := Lib.hid hT; have hTSH := Lib.hid hTS; have hTlH := Lib.hid hTl
        clear HP hT hTS hTl hwf
        go_wp2_with fail
        refine HPH.out.mono ?_
        rintro _ w2 ⟨rfl, hb2⟩
        have hr2H := Lib.hid (hr1H.out.later hb2); have hT2H := Lib.hid (hTH.out.later hb2)
        have hb2H := Lib.hid (hb1H.out.trans (hb2.mono hb1H.out.size))
        clear hb2 HPH
        go_wp2
        go_loopw [2, 12, 13, 98] (fun r _ _ q wr => ∃ k : Nat, k ≤ n ∧ q = .int .i64 k ∧ r = .bool false ∧ w2 = wr) (fun _ _ _ q _ => n - (intOf q).toNat)
        case atStart => exact ⟨0, Nat.zero_le _, rfl, rfl, rfl⟩
        case round =>
          obtain ⟨k, hk, rfl, rfl, rfl⟩ := hrel
          by_cases hkn : k < n
          · obtain ⟨b, o, rfl, hab, hc⟩ := hr2H.out.int hkn
            obtain ⟨_, _, hA, _, hc2⟩ := hT2H.out.wd hkn
            cases hA
            rw [Nat.zero_add] at hc2
            have hx := hTSH.out.lt k hkn
            have hsum := hTSH.out.sum k hkn
            rw [← hQH.out] at hx
            generalize T.getD k 0 = x at *
            have HS := Lib.hid (size_any x w2 (by omega))
            rw [← hsum] at hc
            generalize popc 10 x = pc at *
            have hneq : ((pc : Int) != (pc : Int)) = false := by simp
            clear hsum
            go_wp2_with fail
            refine HS.out.mono ?_
            rintro _ _ ⟨rfl, rfl⟩
            go_wp2
            go_roundw
            case rel => exact ⟨k + 1, by omega, by go_num, rfl, by first | rfl | trivial⟩
            case measure => simp [intOf]; omega
          · obtain rfl : k = n := by omega
            go_wp2
            go_ret
            exact ⟨rfl, hb2H.out⟩
      · have hmay : mayK n sc s = false := by
          cases h : mayK n sc s
          · rfl
          · exact absurd (hL.out.2 h) hno
        rw [hmay]
        clear hmay
        go_wp2
        go_ret
        exact ⟨rfl, hb1H.out⟩
theorem beatsLandau_any (A : Option Addr) (n cap : Nat) (sc : List Int) (w : World) (hr : Rd w A n 1 (ints .i64 sc)) (hn : n ≤ 9223372036854775807) :
    Calls Try.prog 3 #[.slice A n cap] w fun e w' => e = .returned (.bool true) ∧ Below w.heap.size w w' := by
  by_cases h6 : n ≤ 6
  · exact landau_ok A n cap sc w hr h6
  · have hM := Lib.hid (make_large A n cap w hn (by omega))
    have h6I : decide ((6 : Int) < n) = true := decide_eq_true (by omega)
    clear hr
    go_enter Try.func3, Try.ntmps3
    go_wp2_with fail
    refine hM.out.mono ?_
    rintro _ w1 ⟨rfl, hb1⟩
    go_wp2
    go_ret
    exact ⟨rfl, hb1⟩
end Go.Proofs.Ytnlgmjigadgneaa
