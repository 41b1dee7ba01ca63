/- ScoreErdos: the walk. -/
import Derived.Test.YtfbomimkjiaohaaErdosC
namespace Go.Proofs.Ytfbomimkjiaohaa
open Go.RowKit

def inR (n : Nat) (x : Int) : Prop := 0 ≤ x ∧ x ≤ (n : Int)
set_option maxHeartbeats 3200000 in
theorem scoreErdos_any (A : Option Addr) (n cap : Nat) (zs : List Int) (w : World) (hz : Rd w A n 1 (ints .i64 zs)) (hl : n ≤ 9223372036854775807) :
    Calls Try.prog 3 #[.slice A n cap] w fun e w' => e = .returned (.bool true) ∧ Below w.heap.size w w' := by
  have hzl := Lib.hid (show zs.length = n by simpa [ints] using hz.1)
  by_cases h10 : 10 < n
  · have HM := Lib.hid (may_large A n cap w h10)
    have hd : decide ((10 : Int) < n) = true := decide_eq_true (by omega)
    clear hz
    go_enter Try.func3, Try.ntmps3
    go_wp2_with fail
    refine HM.out.mono ?_
    rintro _ _ ⟨rfl, rfl⟩
    go_wp2_with fail
    go_ret
    exact ⟨rfl, Below.refl _ _⟩
  · have hn : n ≤ 10 := by omega
    obtain ⟨b, hb⟩ : ∃ b : Bool, b = true ↔ LawC zs := by
      by_cases h : LawC zs
      · exact ⟨true, fun _ => h, fun _ => rfl⟩
      · exact ⟨false, fun h => Bool.noConfusion h, fun h' => absurd h' h⟩
    have HM := Lib.hid (may_any A n cap zs w hz hn b fun l hp hs => hb.trans (may_iff (by rw [hzl.out]; exact hn) hp hs))
    have hbH := Lib.hid hb
    have hzH := Lib.hid hz
    have hd : decide ((10 : Int) < n) = false := decide_eq_false (by omega)
    clear hz hb h10
    go_enter Try.func3, Try.ntmps3
    go_wp2_with fail
    refine HM.out.mono ?_
    rintro _ w1 ⟨rfl, hb1⟩
    have hrd := Lib.hid (hzH.out.later hb1)
    have hfin := Lib.hid hb1
    clear hb1 HM
    go_wp2_with fail
    go_loop [6, 7, 29] (fun mv sv iv => ∃ (i : Nat) (m : Bool) (S : Int), i ≤ n ∧ iv = .int .i64 i ∧ mv = .bool m ∧ sv = .int .i64 S ∧ 0 ≤ S ∧ S ≤ 10 * i ∧ (m = true ↔ ∀ j, j < i → inR n (zs.getD j 0)) ∧ (m = true → S = isum (zs.take i))) (fun _ _ iv => n - (intOf iv).toNat)
    case atStart => exact ⟨0, true, 0, Nat.zero_le _, rfl, rfl, rfl, by omega, by omega, ⟨fun _ j hj => absurd hj (by omega), fun _ => rfl⟩, fun _ => rfl⟩
    case round =>
      obtain ⟨i, m, S, hi, rfl, rfl, rfl, hS0, hS1, hm, hS⟩ := hrel
      have hmH := Lib.hid hm; have hSH := Lib.hid hS
      clear hm hS
      by_cases hin : i < n
      · obtain ⟨bb, o, rfl, _, hc⟩ := hrd.out.int hin
        have hi0 : (0 : Int) ≤ i := by omega
        have hinI : (i : Int) < n := by omega
        have htk := Lib.hid (show isum (zs.take (i + 1)) = isum (zs.take i) + zs.getD i 0 from by
          have := take_snocI id zs i (by rw [hzl.out]; exact hin)
          simpa using this)
        obtain ⟨x, hx⟩ : ∃ x, zs.getD i 0 = x := ⟨_, rfl⟩
        have hxH := Lib.hid hx
        rw [hx] at hc htk
        clear hx
        by_cases hr : 0 ≤ x ∧ x ≤ n
        · obtain ⟨hr0, hr1⟩ := hr
          have hd1 : decide (x < 0) = false := decide_eq_false (by omega)
          have hd2 : decide ((n : Int) < x) = false := decide_eq_false (by omega)
          have h1 := Lib.hid (show m = true ↔ ∀ j, j < i + 1 → inR n (zs.getD j 0) from by
            rw [hmH.out]
            refine ⟨fun h j hj => ?_, fun h j hj => h j (by omega)⟩
            by_cases e : j = i
            · subst e; rw [hxH.out]; exact ⟨hr0, hr1⟩
            · exact h j (by omega))
          have h2 := Lib.hid (show m = true → S + x = isum (zs.take (i + 1)) from fun h => by rw [htk.out, hSH.out h])
          go_wp2
          go_round
          case rel => exact ⟨i + 1, m, S + x, by omega, by go_num, rfl, rfl, by omega, by omega, h1.out, h2.out⟩
          case measure => simp [intOf]; omega
        · have h1 := Lib.hid (show false = true ↔ ∀ j, j < i + 1 → inR n (zs.getD j 0) from ⟨fun h => Bool.noConfusion h, fun h => by
            have := h i (by omega)
            rw [hxH.out] at this
            exact absurd this hr⟩)
          by_cases hneg : x < 0
          · have hd1 : decide (x < 0) = true := decide_eq_true hneg
            clear hr
            go_wp2
            go_round
            case rel => exact ⟨i + 1, false, S, by omega, by go_num, rfl, rfl, by omega, by omega, h1.out, fun h => Bool.noConfusion h⟩
            case measure => simp [intOf]; omega
          · have hd1 : decide (x < 0) = false := decide_eq_false hneg
            have hd2 : decide ((n : Int) < x) = true := decide_eq_true (by omega)
            clear hr
            go_wp2
            go_round
            case rel => exact ⟨i + 1, false, S, by omega, by go_num, rfl, rfl, by omega, by omega, h1.out, fun h => Bool.noConfusion h⟩
            case measure => simp [intOf]; omega
      · obtain rfl : i = n := by omega
        have hr1 := Lib.hid (show (∀ j, j < i → inR i (zs.getD j 0)) ↔ ∀ x ∈ zs, 0 ≤ x ∧ x ≤ (zs.length : Int) from by
          rw [hzl.out]
          refine ⟨fun h x hx => ?_, fun h j hj => h _ (by simp [List.getD, show j < zs.length by rw [hzl.out]; exact hj])⟩
          obtain ⟨j, hj, rfl⟩ := List.mem_iff_getElem.1 hx
          have := h j (by rw [← hzl.out]; exact hj)
          rw [show zs.getD j 0 = zs[j] by simp [List.getD, hj]] at this
          exact this)
        have htl := Lib.hid (show zs.take i = zs from List.take_of_length_le (by rw [hzl.out]; exact Nat.le_refl _))
        have hS8 : S ≤ 100 := by omega
        obtain ⟨P, hP⟩ : ∃ P, 2 ^ i = P := ⟨_, rfl⟩
        have hP1 : 1 ≤ P := by rw [← hP]; exact Nat.two_pow_pos i
        have hP2 : P ≤ 1024 := by rw [← hP]; exact (Nat.pow_le_pow_right (by omega) hn : 2 ^ i ≤ 2 ^ 10)
        have hone : (2 : Int) ^ i % 4294967296 = (P : Int) := by rw [two_pow_u32 i (by omega), hP]
        have hPH := Lib.hid hP
        clear hP
        by_cases hgood : m = true ∧ S % 2 = 0
        case neg =>
          have hbf := Lib.hid (show b = false from by
            cases b
            · rfl
            · have h := hbH.out.1 rfl
              have hmt := hmH.out.2 (hr1.out.2 h.1)
              refine absurd ⟨hmt, ?_⟩ hgood
              rw [hSH.out hmt, htl.out]; exact h.2.1)
          by_cases hmt : m = true
          · subst hmt
            have hodd : (S % 2 == 0) = false := by rw [beq_eq_false_iff_ne]; exact fun e => hgood ⟨rfl, e⟩
            clear hgood hmH hSH
            go_wp2
            go_loop [6, 10] (fun mv sv => mv = .bool false ∧ sv = .int .u32 0) (fun _ _ => 0)
            case atStart => exact ⟨rfl, rfl⟩
            case round =>
              obtain ⟨rfl, rfl⟩ := hrel
              go_wp2
              go_ret
              exact ⟨by rw [hbf.out]; rfl, hfin.out⟩
          · obtain rfl : m = false := by simpa using hmt
            clear hgood hmH hSH hmt
            go_wp2
            go_loop [6, 10] (fun mv sv => mv = .bool false ∧ sv = .int .u32 0) (fun _ _ => 0)
            case atStart => exact ⟨rfl, rfl⟩
            case round =>
              obtain ⟨rfl, rfl⟩ := hrel
              go_wp2
              go_ret
              exact ⟨by rw [hbf.out]; rfl, hfin.out⟩
        obtain ⟨rfl, hev⟩ := hgood
        have hevH := Lib.hid hev
        have heb : (S % 2 == 0) = true := by rw [beq_iff_eq]; exact hev
        clear hev
        have hallH := Lib.hid (hr1.out.1 (hmH.out.1 rfl))
        have hev2 := Lib.hid (show isum zs % 2 = 0 from by rw [← htl.out, ← hSH.out rfl]; exact hevH.out)
        clear hmH hSH
        go_wp2
        go_loop [6, 10] (fun mv sv => ∃ (s : Nat) (m : Bool), s ≤ P ∧ mv = .bool m ∧ sv = .int .u32 (s : Int) ∧ (m = true ↔ ∀ t, t < s → condP zs t)) (fun _ sv => P - (intOf sv).toNat)
        case atStart => exact ⟨0, true, Nat.zero_le _, rfl, rfl, fun _ t ht => absurd ht (by omega), fun _ => rfl⟩
        case round =>
          obtain ⟨s, m, hs, rfl, rfl, hm⟩ := hrel
          have hmH := Lib.hid hm
          clear hm
          by_cases hfin2 : s < P ∧ m = true
          case neg =>
            have hbm : b = m := by
              rw [Bool.eq_iff_iff, hbH.out]
              constructor
              · intro h
                refine hmH.out.2 fun t ht => h.2.2 t ?_
                rw [hzl.out, hPH.out]; omega
              · intro h
                have hsP : s = P := by
                  rcases Nat.lt_or_ge s P with h' | h'
                  · exact absurd ⟨h', h⟩ hfin2
                  · omega
                refine ⟨hallH.out, hev2.out, fun t ht => hmH.out.1 h t ?_⟩
                rw [hzl.out, hPH.out] at ht; omega
            subst hbm
            have hbb : (b == b) = true := by simp
            by_cases hsP : s < P
            · obtain rfl : b = false := by
                cases b
                · rfl
                · exact absurd ⟨hsP, rfl⟩ hfin2
              have hsPI : (s : Int) < P := by omega
              clear hfin2
              go_wp2
              go_ret
              exact ⟨rfl, hfin.out⟩
            · have hsPI : ¬ (s : Int) < P := by omega
              clear hfin2
              go_wp2
              go_ret
              exact ⟨by simp, hfin.out⟩
          obtain ⟨hsP, rfl⟩ := hfin2
          have hsPI : (s : Int) < P := by omega
          have HSz := Lib.hid (size_any s w1 (by omega))
          have hp10 := popc_le 10 s
          obtain ⟨p, hp⟩ : ∃ p, popc 10 s = p := ⟨_, rfl⟩
          have hpH := Lib.hid hp
          rw [hp] at HSz hp10
          obtain ⟨R, hR⟩ : ∃ R, (p : Int) * ((p : Int) - 1) = R := ⟨_, rfl⟩
          have hRb : 0 ≤ R ∧ R ≤ 90 := by
            rw [← hR]
            rcases Nat.eq_zero_or_pos p with e | e
            · subst e; simp
            · exact ⟨Int.mul_nonneg (by omega) (by omega), (Int.mul_le_mul (show (p : Int) ≤ 10 by omega) (show (p : Int) - 1 ≤ 9 by omega) (by omega) (by omega))⟩
          have hRH := Lib.hid hR
          have HB := Lib.hid (fun i (hi : i < 32) => bit_any s i w1 (by omega) hi)
          clear hp
          go_wp2_with fail
          refine HSz.out.mono ?_
          rintro _ _ ⟨rfl, rfl⟩
          clear HSz
          obtain ⟨f, hf⟩ : ∃ f : Nat → Int → Int, f = fun j x => if s.testBit j then x else 0 := ⟨_, rfl⟩
          obtain ⟨g, hg⟩ : ∃ g : Nat → Int → Int, g = fun j x => if s.testBit j then 0 else mn p x := ⟨_, rfl⟩
          have hcond := Lib.hid (show condP zs s ↔ sumI f zs i ≤ R + sumI g zs i from by
            unfold condP
            rw [hpH.out, hRH.out, hzl.out, hf, hg])
          have hxb := Lib.hid (show ∀ j, j < i → 0 ≤ zs.getD j 0 ∧ zs.getD j 0 ≤ i from fun j hj => by
            have := hallH.out (zs.getD j 0) (by simp [List.getD, show j < zs.length by rw [hzl.out]; exact hj])
            rw [hzl.out] at this; exact this)
          have hfb := Lib.hid (show ∀ q, q ≤ i → 0 ≤ sumI f zs q ∧ sumI f zs q ≤ 10 * q from fun q hq => sumI_bd q fun j hj => by
            have := hxb.out j (by omega)
            rw [hf]; dsimp only; split <;> omega)
          have hgb := Lib.hid (show ∀ q, q ≤ i → 0 ≤ sumI g zs q ∧ sumI g zs q ≤ 10 * q from fun q hq => sumI_bd q fun j hj => by
            have := hxb.out j (by omega)
            rw [hg]; dsimp only; unfold mn; split <;> (try split) <;> omega)
          have hfH := Lib.hid hf; have hgH := Lib.hid hg
          clear hf hg
          go_wp2_with fail
          go_loop [12, 13, 68] (fun hv rv qv => ∃ q : Nat, q ≤ i ∧ qv = .int .i64 q ∧ hv = .int .i64 (sumI f zs q) ∧ rv = .int .i64 (R + sumI g zs q)) (fun _ _ qv => i - (intOf qv).toNat)
          case atStart => exact ⟨0, Nat.zero_le _, rfl, rfl, by simp [sumI_zero]⟩
          case round =>
            obtain ⟨q, hq, rfl, rfl, rfl⟩ := hrel
            have hf1 := hfb.out q hq
            have hg1 := hgb.out q hq
            by_cases hqi : q < i
            · obtain ⟨bb, o, rfl, _, hc⟩ := hrd.out.int hqi
              have hq0 : (0 : Int) ≤ q := by omega
              have hqI : (q : Int) < i := by omega
              have hsf := Lib.hid (sumI_succ f zs q)
              have hsg := Lib.hid (sumI_succ g zs q)
              have hx1 := hxb.out q hqi
              obtain ⟨x, hx⟩ : ∃ x, zs.getD q 0 = x := ⟨_, rfl⟩
              rw [hx] at hc hx1 hsf hsg
              obtain ⟨F, hF⟩ : ∃ F, sumI f zs q = F := ⟨_, rfl⟩
              obtain ⟨G, hG⟩ : ∃ G, sumI g zs q = G := ⟨_, rfl⟩
              rw [hF] at hf1 hsf ⊢
              rw [hG] at hg1 hsg ⊢
              have hB := HB.out q (by omega)
              clear hx hF hG
              cases hbit : s.testBit q
              · rw [hbit] at hB
                have hBH := Lib.hid hB
                have hs1 := Lib.hid (show sumI f zs (q + 1) = F from by rw [hsf.out, hfH.out]; simp [hbit])
                clear hB
                by_cases hxp : x < p
                · have hs2 := Lib.hid (show sumI g zs (q + 1) = G + x from by rw [hsg.out, hgH.out]; simp [hbit, mn, hxp])
                  clear hbit
                  go_wp2_with fail
                  refine hBH.out.mono ?_
                  rintro _ _ ⟨rfl, rfl⟩
                  go_wp2
                  go_round
                  case rel => exact ⟨q + 1, by omega, by go_num, by rw [hs1.out], by rw [hs2.out]; go_num⟩
                  case measure => simp [intOf]; omega
                · have hs2 := Lib.hid (show sumI g zs (q + 1) = G + p from by rw [hsg.out, hgH.out]; simp [hbit, mn, hxp])
                  clear hbit
                  go_wp2_with fail
                  refine hBH.out.mono ?_
                  rintro _ _ ⟨rfl, rfl⟩
                  go_wp2
                  go_round
                  case rel => exact ⟨q + 1, by omega, by go_num, by rw [hs1.out], by rw [hs2.out]; go_num⟩
                  case measure => simp [intOf]; omega
              · rw [hbit] at hB
                have hBH := Lib.hid hB
                have hs1 := Lib.hid (show sumI f zs (q + 1) = F + x from by rw [hsf.out, hfH.out]; simp [hbit])
                have hs2 := Lib.hid (show sumI g zs (q + 1) = G from by rw [hsg.out, hgH.out]; simp [hbit])
                clear hB hbit
                go_wp2_with fail
                refine hBH.out.mono ?_
                rintro _ _ ⟨rfl, rfl⟩
                go_wp2
                go_round
                case rel => exact ⟨q + 1, by omega, by go_num, by rw [hs1.out], by rw [hs2.out]⟩
                case measure => simp [intOf]; omega
            · obtain rfl : q = i := by omega
              have hcd := hcond.out
              obtain ⟨F, hF⟩ : ∃ F, sumI f zs q = F := ⟨_, rfl⟩
              obtain ⟨G, hG⟩ : ∃ G, sumI g zs q = G := ⟨_, rfl⟩
              rw [hF] at hf1 hcd ⊢
              rw [hG] at hg1 hcd ⊢
              have hcdH := Lib.hid hcd
              have hnx := Lib.hid (show decide (F ≤ R + G) = true ↔ ∀ t, t < s + 1 → condP zs t from by
                rw [decide_eq_true_iff, ← hcdH.out]
                refine ⟨fun h t ht => ?_, fun h => h s (by omega)⟩
                by_cases e : t = s
                · subst e; exact h
                · exact hmH.out.1 (by first | rfl | trivial) t (by omega))
              clear hcd hF hG
              obtain ⟨m2, hm2⟩ : ∃ m2, decide (F ≤ R + G) = m2 := ⟨_, rfl⟩
              rw [hm2] at hnx
              have hnx2 := hnx
              go_wp2
              go_round
              case rel => exact ⟨s + 1, m2, by omega, rfl, by go_num, hnx2.out⟩
              case measure => simp [intOf]; omega
end Go.Proofs.Ytfbomimkjiaohaa
